import Derived.Test.YtnbjkkhjphjdkaaPlHead
namespace Go.Proofs.Ytnbjkkhjphjdkaa
open Go.RowKit

/-- Groups that are cut are too short. -/
theorem tg_cut (u : Int) (h0 : 0 ≤ u) (h1 : u < 18446744073709551616) : ∀ (n k i : Nat), i ≤ n → (k = 0 → n = 0 ∨ u / 128 ^ n % 128 ≠ 0) →
    tg k (u / 128 ^ (n + 1)) ((Pl.gr (n + 1) u).take i) = (0, 0, 3)
  | 0, k, i, hi, _ => by
    obtain rfl : i = 0 := by omega
    rfl
  | n + 1, k, 0, _, _ => rfl
  | n + 1, k, i + 1, hi, hk => by
    show tg k (u / 128 ^ (n + 2)) (Pl.by8 (u / 128 ^ (n + 1) % 128 + 128) :: (Pl.gr (n + 1) u).take i) = _
    have hc := by8_small (u / 128 ^ (n + 1) % 128 + 128) (by omega) (by omega)
    have hq : u / 128 ^ (n + 2) = u / 128 ^ (n + 1) / 128 := (Pl.div_next u 128 (by omega) (n + 1)).symm
    have hp : 0 ≤ u / 128 ^ (n + 1) := Int.ediv_nonneg h0 (Int.pow_nonneg (by omega))
    have hle : u / 128 ^ (n + 1) ≤ u := Int.ediv_le_self _ h0
    have hn : ¬ ((k = 0 ∧ u / 128 ^ (n + 1) % 128 + 128 = 128) ∨ 144115188075855872 ≤ u / 128 ^ (n + 2)) := by
      rintro (⟨h, h2⟩ | h)
      · rcases hk h with h3 | h3
        · omega
        · omega
      · omega
    rw [tg_next _ _ _ _ (by rw [hc]; exact hn) (by rw [hc]; omega), hc, hq]
    have e : u / 128 ^ (n + 1) / 128 * 128 + (u / 128 ^ (n + 1) % 128 + 128) % 128 = u / 128 ^ (n + 1) := by omega
    rw [e]
    exact tg_cut u h0 h1 n (k + 1) i (by omega) (fun h => by omega)

theorem tg_cut0 (u : Int) (h0 : 0 ≤ u) (h1 : u < 18446744073709551616) (i : Nat) (hi : i < Pl.dlenF 128 9 u) : tg 0 0 ((Pl.gr (Pl.dlenF 128 9 u) u).take i) = (0, 0, 3) := by
  have hb := Pl.dlenF_bd 128 9 u
  have e10 : (128 : Int) ^ (9 + 1) = 1180591620717411303424 := by decide
  have ht := Pl.dlenF_top 128 (by omega) 9 u (by rw [e10]; omega)
  have hlow : ∀ n, Pl.dlenF 128 9 u = n + 2 → 128 ^ (n + 1) ≤ u := fun n => dlenF_low 128 (by omega) 9 n u
  obtain ⟨n, hn⟩ : ∃ n, Pl.dlenF 128 9 u = n + 1 := ⟨Pl.dlenF 128 9 u - 1, by omega⟩
  rw [hn] at ht hlow hb hi ⊢
  have hz : u / 128 ^ (n + 1) = 0 := Int.ediv_eq_zero_of_lt h0 ht
  have := tg_cut u h0 h1 n 0 i (by omega) (fun _ => by
    match n, hlow, ht with
    | 0, _, _ => exact .inl rfl
    | n + 1, hlow, ht =>
      right
      have h := hlow n rfl
      have hp : (0 : Int) < 128 ^ (n + 1) := Int.pow_pos (by omega)
      have h2 : 1 ≤ u / 128 ^ (n + 1) := (Int.le_ediv_iff_mul_le hp).2 (by omega)
      have h3 : u / 128 ^ (n + 1) < 128 := by
        rw [Int.ediv_lt_iff_lt_mul hp, Int.mul_comm, ← Int.pow_succ]
        exact ht
      omega)
  rwa [hz] at this

theorem lenT_cut (l : Int) (_l0 : 0 ≤ l) (_l1 : l ≤ 2147483647) (i : Nat) (hi : i < (hd2 l).length) : lenT ((hd2 l).take i) = (0, 0, 3) := by
  match i, hi with
  | 0, _ => rfl
  | i + 1, hi =>
    by_cases h : l < 128
    · rw [hd2_small l h] at hi
      simp at hi
    · rw [hd2_big l h] at hi ⊢
      have hb := Pl.dlenF_bd 256 7 l
      have hlen := Pl.be_length (Pl.dlenF 256 7 l) l
      have hc := by8_small (128 + (Pl.dlenF 256 7 l : Int)) (by omega) (by omega)
      have hcn : (Pl.by8 (128 + (Pl.dlenF 256 7 l : Int))).toNat - 128 = Pl.dlenF 256 7 l := by omega
      simp [hlen] at hi
      show lenT (Pl.by8 (128 + (Pl.dlenF 256 7 l : Int)) :: (Pl.be (Pl.dlenF 256 7 l) l).take i) = _
      rw [lenT_cons, hcn, if_neg (by omega), if_neg (by omega), if_pos (by rw [List.length_take]; omega)]

theorem thead_cut (cl no : Int) (made : Bool) (len : Int) (n0 : 0 ≤ no) (n1 : no ≤ 268435456) (l0 : 0 ≤ len) (l1 : len ≤ 2147483647) (k : Nat) (hk : k < (headL cl no made len).length) :
    thead ((headL cl no made len).take k) = (0, 0, false, 0, 0, 3) := by
  unfold headL at hk ⊢
  rw [show max no 0 = no by omega, show max len 0 = len by omega] at hk ⊢
  have hf := up3_bd cl made
  by_cases h1 : (hd1 (up3 cl made) no).length ≤ k
  · rw [List.length_append] at hk
    rw [List.take_append, List.take_of_length_le h1]
    have hcut := lenT_cut len l0 l1 (k - (hd1 (up3 cl made) no).length) (by omega)
    obtain ⟨c, t, j, he, hl, hn, hc, hd⟩ := numT_hd1 (up3 cl made) no ((hd2 len).take (k - (hd1 (up3 cl made) no).length)) hf.1 hf.2.1 hf.2.2 n0 n1
    rw [he, thead_cons, hn]
    simp only [Int.toNat_natCast]
    rw [hd, hcut, if_neg (by simp), if_pos (by simp)]
  · rw [List.take_append_of_le_length (by omega)]
    match k, h1 with
    | 0, _ => rfl
    | k + 1, h1 =>
      by_cases h : no < 31
      · rw [hd1_small _ _ h] at h1
        simp at h1
      · rw [hd1_big _ _ h] at h1 ⊢
        have hc := by8_small (up3 cl made + 31) (by omega) (by omega)
        simp [Pl.gr_length] at h1
        have ht := tg_cut0 no n0 (by omega) k (by omega)
        show thead (Pl.by8 (up3 cl made + 31) :: (Pl.gr (Pl.dlenF 128 9 no) no).take k) = _
        have hnum : numT (Pl.by8 (up3 cl made + 31) :: (Pl.gr (Pl.dlenF 128 9 no) no).take k) = (0, 0, 3) := by
          rw [numT_cons, hc, if_neg (by omega), ht]
          simp
        rw [thead_cons, hnum, if_pos (by simp)]

/-- An element that is cut: its head is cut, or its content is too short. -/
theorem elem_cut (cl no : Int) (made : Bool) (content : List UInt8) (n0 : 0 ≤ no) (n1 : no ≤ 268435456) (hl : content.length ≤ 2147483647) (k : Nat) (hk : k < (headL cl no made content.length ++ content).length) :
    thead ((headL cl no made content.length ++ content).take k) = (0, 0, false, 0, 0, 3) ∨
    ∃ m : Nat, thead ((headL cl no made content.length ++ content).take k) = (cl % 4, no, made, (content.length : Int), (m : Int), 0) ∧ m ≤ k ∧ (k : Int) - (m : Int) < (content.length : Int) := by
  by_cases h1 : (headL cl no made content.length).length ≤ k
  · right
    rw [List.length_append] at hk
    rw [List.take_append, List.take_of_length_le h1]
    exact ⟨_, thead_headL cl no made content.length _ n0 n1 (by omega) (by omega), h1, by omega⟩
  · left
    rw [List.take_append_of_le_length (by omega)]
    exact thead_cut cl no made content.length n0 n1 (by omega) (by omega) k (by omega)

end Go.Proofs.Ytnbjkkhjphjdkaa
