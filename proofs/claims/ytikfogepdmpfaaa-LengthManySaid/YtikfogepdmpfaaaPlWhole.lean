/-
  Plain facts: what a reader of numbers reads back of bits that a writer of numbers has left.
-/
import Derived.Test.YtikfogepdmpfaaaWho11
namespace Go.Proofs.Ytikfogepdmpfaaa
open Go.RowKit

theorem dlenF_topW (B : Int) (hB : 1 < B) : ∀ (f : Nat) (v : Int), v < B ^ (f + 1) → v < B ^ Pl.dlenF B f v
  | 0, v, h => by simpa [Pl.dlenF] using h
  | f + 1, v, h => by
    by_cases hv : v < B
    · rw [Pl.dlenF_lt B _ v hv]
      rw [Int.pow_succ, Int.pow_zero, Int.one_mul]
      exact hv
    · rw [Pl.dlenF_ge B f v hv, Int.pow_succ]
      have := dlenF_topW B hB f (v / B) (by rw [Int.ediv_lt_iff_lt_mul (by omega), ← Int.pow_succ]; exact h)
      rw [Int.ediv_lt_iff_lt_mul (by omega)] at this
      exact this
theorem takeU_beW (v : Int) (h0 : 0 ≤ v) (h1 : v < 18446744073709551616) : takeUV (Pl.be (Pl.dlenF 256 7 v) v) = v ∧ takeUE (Pl.be (Pl.dlenF 256 7 v) v) = 0 := by
  have ht := dlenF_topW 256 (by omega) 7 v (by omega)
  have hb := Pl.dlenF_bd 256 7 v
  have hs : Pl.val (Pl.be (Pl.dlenF 256 7 v) v) = v := by rw [Pl.val_be, Int.emod_eq_of_lt h0 ht]
  unfold takeUV takeUE
  have a1 : ¬ Pl.dlenF 256 7 v = 0 := by omega
  have a2 : ¬ 8 < Pl.dlenF 256 7 v := by omega
  rw [hs, Pl.be_length]
  simp [a1, a2]

theorem packW_len (l : List Bool) : l.length ≤ 8 * (packW l).length := by
  by_cases h : l.length = 0
  · omega
  · rw [packW_some l h, Pl.pack_length]
    omega
theorem packW_max (l : List Bool) : (packW l).length ≤ l.length + 1 := by
  by_cases h : l.length = 0
  · rw [List.eq_nil_of_length_eq_zero h]
    simp [packW_nil]
  · rw [packW_some l h, Pl.pack_length]
    omega
theorem midW (pre x post : List Bool) : Pl.bitsAt (packW (pre ++ x ++ post)) pre.length x.length = x := by
  by_cases h : (pre ++ x ++ post).length = 0
  · have hx : x = [] := List.eq_nil_of_length_eq_zero (by simp only [List.length_append] at h; omega)
    subst hx
    rfl
  · rw [packW_some _ h, Pl.bitsAt_pack _ _ _ (by simp only [List.length_append]; omega), List.append_assoc, List.drop_left, List.take_left]
theorem octsW (pre post : List Bool) (b : List UInt8) : Pl.octsAt (packW (pre ++ Pl.octB b ++ post)) pre.length b.length = b := by
  by_cases h : (pre ++ Pl.octB b ++ post).length = 0
  · have hx : b = [] := List.eq_nil_of_length_eq_zero (by simp only [List.length_append, Pl.octB_length] at h; omega)
    subst hx
    rfl
  · rw [packW_some _ h]
    refine Pl.octsAt_pack _ _ _ ?_ (by simp only [List.length_append, Pl.octB_length]; omega)
    rw [List.append_assoc, List.drop_left, ← Pl.octB_length, List.take_left]

/-- Bits are read back. -/
theorem back_bits (L pre x post : List Bool) (h : L = pre ++ x ++ post) :
    Pl.rdE (packW L) pre.length 0 (x.length : Nat) = 0 ∧ Pl.rdA (packW L) pre.length 0 x.length = pre.length + x.length ∧ Pl.rdV (packW L) pre.length 0 x.length = Pl.num x := by
  subst h
  have hl := packW_len (pre ++ x ++ post)
  have hi := rd_in (packW (pre ++ x ++ post)) pre.length x.length (by simp only [List.length_append] at hl ⊢; omega)
  refine ⟨hi.1, hi.2.1, ?_⟩
  rw [hi.2.2, midW]
theorem back_octs (L pre post : List Bool) (b : List UInt8) (h : L = pre ++ Pl.octB b ++ post) :
    Pl.rdE (packW L) pre.length 0 ((8 * b.length : Nat) : Int) = 0 ∧ Pl.rdA (packW L) pre.length 0 (8 * b.length) = pre.length + 8 * b.length ∧ Pl.rdO (packW L) pre.length 0 b.length = b := by
  subst h
  have hl := packW_len (pre ++ Pl.octB b ++ post)
  have hi := rd_in (packW (pre ++ Pl.octB b ++ post)) pre.length (8 * b.length) (by simp only [List.length_append, Pl.octB_length] at hl ⊢; omega)
  refine ⟨hi.1, hi.2.1, ?_⟩
  unfold Pl.rdO
  rw [hi.1, if_pos rfl, octsW]

theorem wid_lt (s : Int) (h0 : 0 ≤ s) (h1 : s < 18446744073709551616) : s < 2 ^ wid s := by
  have := Pl.width_lt s.toNat (by omega)
  unfold wid
  have hp : 0 < 2 ^ Lib.bitLen s.toNat := Nat.pow_pos (by omega)
  have h := (Nat.div_eq_zero_iff_lt hp).1 this
  have e : ((2 ^ Lib.bitLen s.toNat : Nat) : Int) = 2 ^ Lib.bitLen s.toNat := by simp
  omega
theorem back_between (L pre post : List Bool) (v s : Int) (hv : 0 ≤ v) (h0 : 0 ≤ s) (h1 : s < 18446744073709551616) (h : L = pre ++ Pl.bitsOf (min v s) (wid s) ++ post) :
    btEE (packW L) pre.length 0 s = 0 ∧ btA (packW L) pre.length 0 s = pre.length + wid s ∧ btV (packW L) pre.length 0 s = min v s := by
  obtain ⟨e1, e2, e3⟩ := back_bits L pre _ post h
  rw [Pl.bitsOf_length] at e1 e2 e3
  have hw := wid_lt s h0 h1
  rw [Pl.num_bitsOf, Int.emod_eq_of_lt (by omega) (by omega)] at e3
  have hE : btEE (packW L) pre.length 0 s = 0 := by
    unfold btEE btE
    rw [if_pos rfl, e3, if_neg (by omega), e1]
  refine ⟨hE, ?_, ?_⟩
  · unfold btA
    rw [if_pos hE, e2]
  · unfold btV
    rw [if_pos hE, e3]

theorem back_small (L pre post : List Bool) (n : Int) (h0 : 0 ≤ n) (h1 : n ≤ 10000) (h : L = pre ++ smallB n ++ post) :
    smE (packW L) pre.length 0 = 0 ∧ smA (packW L) pre.length 0 = pre.length + (smallB n).length ∧ smV (packW L) pre.length 0 = n := by
  have key : (sml (packW L) pre.length).2.1 = 0 ∧ (sml (packW L) pre.length).1 = pre.length + (smallB n).length ∧ (sml (packW L) pre.length).2.2 = n := by
    by_cases h64 : max n 0 < 64
    · have hs := bits_split' 1 6 n
      rw [smallB_low n h64, show max n 0 = n by omega] at h ⊢
      rw [Pl.bitsOf_length]
      rw [hs] at h
      obtain ⟨a1, a2, a3⟩ := back_bits L pre (Pl.bitsOf (n / 2 ^ 6) 1) (Pl.bitsOf n 6 ++ post) (by rw [h]; simp only [List.append_assoc])
      obtain ⟨b1, b2, b3⟩ := back_bits L (pre ++ Pl.bitsOf (n / 2 ^ 6) 1) (Pl.bitsOf n 6) post (by rw [h]; simp only [List.append_assoc])
      rw [Pl.bitsOf_length] at a1 a2 a3 b1 b2 b3
      rw [List.length_append, Pl.bitsOf_length] at b1 b2 b3
      rw [Pl.num_bitsOf] at a3 b3
      have hz : n / 2 ^ 6 % 2 ^ 1 = 0 := by omega
      rw [hz] at a3
      unfold sml
      rw [if_pos a3]
      simp only [a1, a2, b1, b2, b3]
      refine ⟨trivial, trivial, by omega⟩
    · rw [smallB_high n h64, show max n 0 = n by omega] at h ⊢
      have hd := Pl.dlenF_bd 256 7 n
      obtain ⟨tv, te⟩ := takeU_beW n h0 (by omega)
      have hbl := Pl.be_length (Pl.dlenF 256 7 n) n
      generalize Pl.dlenF 256 7 n = d at *
      generalize Pl.be d n = bs at *
      obtain ⟨a1, a2, a3⟩ := back_bits L pre (Pl.bitsOf 1 1) (Pl.bitsOf (d : Int) 8 ++ Pl.octB bs ++ post) (by rw [h]; simp only [List.append_assoc])
      obtain ⟨b1, b2, b3⟩ := back_bits L (pre ++ Pl.bitsOf 1 1) (Pl.bitsOf (d : Int) 8) (Pl.octB bs ++ post) (by rw [h]; simp only [List.append_assoc])
      obtain ⟨c1, c2, c3⟩ := back_octs L (pre ++ Pl.bitsOf 1 1 ++ Pl.bitsOf (d : Int) 8) post bs (by rw [h]; simp only [List.append_assoc])
      rw [Pl.bitsOf_length] at a1 a2 a3 b1 b2 b3
      simp only [List.length_append, Pl.bitsOf_length] at b1 b2 b3 c1 c2 c3
      rw [Pl.num_bitsOf] at a3 b3
      rw [show (d : Int) % 2 ^ 8 = (d : Int) by omega] at b3
      rw [show (1 : Int) % 2 ^ 1 = 1 by decide] at a3
      rw [hbl] at c1 c2 c3
      unfold sml grt
      rw [a3, if_neg (by omega)]
      simp only [a1, a2, b1, b2, b3]
      rw [if_neg (by omega)]
      simp only [Int.toNat_natCast, c1, c2, c3, tv, te]
      rw [if_neg (by omega)]
      simp only [List.length_append, Pl.bitsOf_length, Pl.octB_length, hbl]
      refine ⟨trivial, by omega, trivial⟩
  have hE : smE (packW L) pre.length 0 = 0 := by
    unfold smE
    rw [if_pos rfl, key.1]
  refine ⟨hE, ?_, ?_⟩
  · unfold smA
    rw [if_pos hE, key.2.1]
  · unfold smV
    rw [if_pos hE, key.2.2]
    unfold wrap64
    omega

theorem back_end (L : List Bool) : weE (packW L) L.length 0 (decide (packW L = [0])) = 0 := by
  unfold weE
  rw [if_pos rfl]
  by_cases h : L.length = 0
  · rw [List.eq_nil_of_length_eq_zero h, packW_nil]
    rfl
  · rw [packW_some L h]
    have he := Pl.end_pack L
    rw [if_neg, he]
    rintro ⟨_, hl⟩
    unfold Pl.left at hl
    rw [Pl.pack_length] at hl
    omega
end Go.Proofs.Ytikfogepdmpfaaa
