/-
  Plain facts: of two numbers the lesser one has no more octets, and of as many is the lesser text; groups likewise. No program in sight.
-/
import Derived.Test.YtnbjkkhjphjdkaaPlOct
namespace Go.Proofs.Ytnbjkkhjphjdkaa.Pl

theorem emod_split (a P B : Int) (hP : 0 < P) : a % (P * B) = P * (a / P % B) + a % P := by
  have h1 := Int.emod_def a (P * B)
  have h2 := Int.emod_def (a / P) B
  have h3 := Int.emod_def a P
  rw [h1, h2, h3, ← Int.ediv_ediv_of_nonneg (Int.le_of_lt hP)]
  generalize a / P = q
  generalize q / B = t
  rw [Int.mul_sub, ← Int.mul_assoc]
  omega

theorem top_less (P d1 d2 r1 r2 : Int) (hP : 0 < P) (h1 : 0 ≤ r1) (h2 : r2 < P) (h : P * d1 + r1 < P * d2 + r2) : d1 < d2 ∨ d1 = d2 ∧ r1 < r2 := by
  by_cases h3 : d1 < d2
  · exact .inl h3
  · by_cases h4 : d1 = d2
    · subst h4
      exact .inr ⟨rfl, by omega⟩
    · have := Int.mul_le_mul_of_nonneg_left (show d2 + 1 ≤ d1 by omega) (Int.le_of_lt hP)
      rw [Int.mul_add, Int.mul_one] at this
      omega

theorem by8_less {x y : Int} (h : x % 256 < y % 256) : by8 x < by8 y := by
  rw [UInt8.lt_iff_toNat_lt, by8_toNat, by8_toNat]
  omega

theorem cmpB_cons_lt (x y : UInt8) (xs ys : List UInt8) (h : x < y) : cmpB (x :: xs) (y :: ys) = -1 := by simp [cmpB, h]
theorem cmpB_cons_eq (x : UInt8) (xs ys : List UInt8) : cmpB (x :: xs) (x :: ys) = cmpB xs ys := by simp [cmpB]

theorem cmp_be : ∀ (n : Nat) (a b : Int), a % 256 ^ n < b % 256 ^ n → cmpB (be n a) (be n b) = -1
  | 0, a, b, h => by
    simp at h
  | n + 1, a, b, h => by
    rw [be_cons, be_cons]
    have hP : (0 : Int) < 256 ^ n := Int.pow_pos (by omega)
    rw [Int.pow_succ, emod_split a _ 256 hP, emod_split b _ 256 hP] at h
    rcases top_less _ _ _ _ _ hP (Int.emod_nonneg a (by omega)) (Int.emod_lt_of_pos b hP) h with h | ⟨h, h2⟩
    · exact cmpB_cons_lt _ _ _ _ (by8_less h)
    · rw [by8_congr h, cmpB_cons_eq]
      exact cmp_be n a b h2

theorem cmp_gr : ∀ (n : Nat) (a b : Int), a % 128 ^ n < b % 128 ^ n → cmpB (gr n a) (gr n b) = -1
  | 0, a, b, h => by
    simp at h
  | 1, a, b, h => by
    unfold gr
    refine cmpB_cons_lt _ _ _ _ (by8_less ?_)
    rw [Int.pow_succ, Int.pow_zero, Int.one_mul] at h
    omega
  | n + 2, a, b, h => by
    show cmpB (by8 (a / 128 ^ (n + 1) % 128 + 128) :: gr (n + 1) a) (by8 (b / 128 ^ (n + 1) % 128 + 128) :: gr (n + 1) b) = -1
    have hP : (0 : Int) < 128 ^ (n + 1) := Int.pow_pos (by omega)
    rw [Int.pow_succ, emod_split a _ 128 hP, emod_split b _ 128 hP] at h
    rcases top_less _ _ _ _ _ hP (Int.emod_nonneg a (by omega)) (Int.emod_lt_of_pos b hP) h with h | ⟨h, h2⟩
    · exact cmpB_cons_lt _ _ _ _ (by8_less (by omega))
    · rw [h, cmpB_cons_eq]
      exact cmp_gr (n + 1) a b h2

theorem dlenF_mono (B : Int) (hB : 0 < B) : ∀ (f : Nat) (a b : Int), a ≤ b → dlenF B f a ≤ dlenF B f b
  | 0, _, _, _ => by simp [dlenF]
  | f + 1, a, b, h => by
    by_cases ha : a < B
    · rw [dlenF_lt B _ a ha]
      exact (dlenF_bd B _ b).1
    · rw [dlenF_ge B f a ha, dlenF_ge B f b (by omega)]
      have := dlenF_mono B hB f (a / B) (b / B) (Int.ediv_le_ediv hB h)
      omega
theorem dlenF_top (B : Int) (hB : 1 < B) : ∀ (f : Nat) (v : Int), v < B ^ (f + 1) → v < B ^ dlenF B f v
  | 0, v, h => by simpa [dlenF] using h
  | f + 1, v, h => by
    by_cases hv : v < B
    · rw [dlenF_lt B _ v hv]
      rw [Int.pow_succ, Int.pow_zero, Int.one_mul]
      exact hv
    · rw [dlenF_ge B f v hv, Int.pow_succ]
      have := dlenF_top B hB f (v / B) (by rw [Int.ediv_lt_iff_lt_mul (by omega), ← Int.pow_succ]; exact h)
      rw [Int.ediv_lt_iff_lt_mul (by omega)] at this
      exact this


theorem order_cmp (a b : Int) (h : a ≤ b) : cmpB [0] [by8 (min 1 (b - a))] = if a < b then -1 else 0 := by
  by_cases hab : a < b
  · rw [if_pos hab, show min 1 (b - a) = 1 from by omega]
    decide
  · rw [if_neg hab, show min 1 (b - a) = 0 from by omega]
    decide

theorem order_be (a b : Int) (h0 : 0 ≤ a) (h : a ≤ b) (h1 : b < 18446744073709551616) :
    dlenF 256 7 a < dlenF 256 7 b ∨ dlenF 256 7 a = dlenF 256 7 b ∧ cmpB (be (dlenF 256 7 a) a) (be (dlenF 256 7 b) b) = if a < b then -1 else 0 := by
  have hm := dlenF_mono 256 (by omega) 7 a b h
  have ha := dlenF_top 256 (by omega) 7 a (by omega)
  have hb := dlenF_top 256 (by omega) 7 b (by omega)
  rcases Nat.lt_or_ge (dlenF 256 7 a) (dlenF 256 7 b) with hl | hl
  · exact .inl hl
  · have e : dlenF 256 7 a = dlenF 256 7 b := by omega
    refine .inr ⟨e, ?_⟩
    rw [e] at ha ⊢
    by_cases hab : a < b
    · rw [if_pos hab]
      refine cmp_be _ a b ?_
      rw [Int.emod_eq_of_lt h0 ha, Int.emod_eq_of_lt (by omega) hb]
      exact hab
    · rw [if_neg hab, show a = b from by omega, cmpB_self]

theorem order_gr (a b : Int) (h0 : 0 ≤ a) (h : a ≤ b) (h1 : b < 18446744073709551616) :
    dlenF 128 9 a < dlenF 128 9 b ∨ dlenF 128 9 a = dlenF 128 9 b ∧ cmpB (gr (dlenF 128 9 a) a) (gr (dlenF 128 9 b) b) = if a < b then -1 else 0 := by
  have hm := dlenF_mono 128 (by omega) 9 a b h
  have ha := dlenF_top 128 (by omega) 9 a (by omega)
  have hb := dlenF_top 128 (by omega) 9 b (by omega)
  rcases Nat.lt_or_ge (dlenF 128 9 a) (dlenF 128 9 b) with hl | hl
  · exact .inl hl
  · have e : dlenF 128 9 a = dlenF 128 9 b := by omega
    refine .inr ⟨e, ?_⟩
    rw [e] at ha ⊢
    by_cases hab : a < b
    · rw [if_pos hab]
      refine cmp_gr _ a b ?_
      rw [Int.emod_eq_of_lt h0 ha, Int.emod_eq_of_lt (by omega) hb]
      exact hab
    · rw [if_neg hab, show a = b from by omega, cmpB_self]

end Go.Proofs.Ytnbjkkhjphjdkaa.Pl
