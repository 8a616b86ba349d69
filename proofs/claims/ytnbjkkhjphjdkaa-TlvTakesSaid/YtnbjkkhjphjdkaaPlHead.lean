import Derived.Test.YtnbjkkhjphjdkaaTakeHead
namespace Go.Proofs.Ytnbjkkhjphjdkaa
open Go.RowKit

theorem numT_hd1 (f n : Int) (rest : List UInt8) (f0 : 0 ≤ f) (f1 : f < 256) (f2 : f % 32 = 0) (n0 : 0 ≤ n) (n1 : n ≤ 268435456) :
    ∃ (c : UInt8) (t : List UInt8) (j : Nat), hd1 f n ++ rest = c :: t ∧ (hd1 f n).length = 1 + j ∧ numT (c :: t) = (n, (j : Int), 0) ∧ (c.toNat : Int) / 32 = f / 32 ∧ t.drop j = rest := by
  by_cases h : n < 31
  · rw [hd1_small f n h]
    have hc := by8_small (f + n) (by omega) (by omega)
    refine ⟨Pl.by8 (f + n), rest, 0, rfl, rfl, ?_, by rw [hc]; omega, rfl⟩
    rw [numT_cons, hc, if_pos (by omega), show (f + n) % 32 = n by omega]
    rfl
  · rw [hd1_big f n h]
    have hc := by8_small (f + 31) (by omega) (by omega)
    have ht := tg_groups n n0 (by omega) rest
    refine ⟨Pl.by8 (f + 31), Pl.gr (Pl.dlenF 128 9 n) n ++ rest, Pl.dlenF 128 9 n, by simp, by simp [Pl.gr_length]; omega, ?_, by rw [hc]; omega, ?_⟩
    · rw [numT_cons, hc, if_neg (by omega), ht]
      simp only
      rw [if_neg (by simp), if_neg (by omega)]
    · rw [List.drop_append_of_le_length (by rw [Pl.gr_length]; omega), List.drop_eq_nil_of_le (by rw [Pl.gr_length]; omega)]
      rfl

theorem lenT_hd2 (l : Int) (more : List UInt8) (l0 : 0 ≤ l) (l1 : l ≤ 2147483647) : lenT (hd2 l ++ more) = (l, ((hd2 l).length : Int), 0) := by
  by_cases h : l < 128
  · rw [hd2_small l h]
    have hc := by8_small l (by omega) (by omega)
    show lenT (Pl.by8 l :: more) = _
    rw [lenT_cons, hc, if_pos h]
    rfl
  · rw [hd2_big l h]
    have hb := Pl.dlenF_bd 256 7 l
    have hu := takeU_be l l0 (by omega)
    have hc := by8_small (128 + (Pl.dlenF 256 7 l : Int)) (by omega) (by omega)
    have hlen := Pl.be_length (Pl.dlenF 256 7 l) l
    have hcn : (Pl.by8 (128 + (Pl.dlenF 256 7 l : Int))).toNat - 128 = Pl.dlenF 256 7 l := by omega
    show lenT (Pl.by8 (128 + (Pl.dlenF 256 7 l : Int)) :: (Pl.be (Pl.dlenF 256 7 l) l ++ more)) = _
    have htk : (Pl.be (Pl.dlenF 256 7 l) l ++ more).take (Pl.dlenF 256 7 l) = Pl.be (Pl.dlenF 256 7 l) l := List.take_left' hlen
    rw [lenT_cons, hcn, htk, hu.1, hu.2, if_neg (by omega), if_neg (by omega), if_neg (by rw [List.length_append]; omega), if_neg (by omega)]
    simp only [List.length_append, List.length_cons, List.length_nil, hlen]
    congr 1

theorem thead_headL (cl no : Int) (made : Bool) (len : Int) (more : List UInt8) (n0 : 0 ≤ no) (n1 : no ≤ 268435456) (l0 : 0 ≤ len) (l1 : len ≤ 2147483647) :
    thead (headL cl no made len ++ more) = (cl % 4, no, made, len, ((headL cl no made len).length : Int), 0) := by
  unfold headL
  rw [show max no 0 = no by omega, show max len 0 = len by omega]
  have hf := up3_bd cl made
  obtain ⟨c, t, j, he, hl, hn, hc, hd⟩ := numT_hd1 (up3 cl made) no (hd2 len ++ more) hf.1 hf.2.1 hf.2.2 n0 n1
  have hL := lenT_hd2 len more l0 l1
  rw [List.append_assoc, he, thead_cons, hn]
  simp only [Int.toNat_natCast]
  rw [hd, hL, if_neg (by simp), if_neg (by simp)]
  have e1 : (c.toNat : Int) / 64 = cl % 4 := by
    have : (c.toNat : Int) / 64 = (c.toNat : Int) / 32 / 2 := by omega
    rw [this, hc]
    unfold up3
    cases made <;> simp <;> omega
  have e2 : decide ((c.toNat : Int) / 32 % 2 = 1) = made := by
    rw [hc]
    unfold up3
    cases made <;> simp <;> omega
  rw [e1, e2, List.length_append, hl]
  have e3 : (1 : Int) + (j : Int) + ((hd2 len).length : Int) = ((1 + j + (hd2 len).length : Nat) : Int) := by omega
  rw [e3]

end Go.Proofs.Ytnbjkkhjphjdkaa
