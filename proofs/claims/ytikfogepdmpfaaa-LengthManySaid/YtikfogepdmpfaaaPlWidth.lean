/-
  Plain facts on how many bits a number has.
-/
import Derived.Lib.BitFns
namespace Go.Proofs.Ytikfogepdmpfaaa.Pl
open Go.Lib

theorem aux_le : ∀ (f x : Nat), bitLenAux f x ≤ f
  | 0, _ => by simp [bitLenAux]
  | f + 1, x => by
    simp only [bitLenAux]
    split
    · omega
    · have := aux_le f (x / 2)
      omega

/-- A number has at most as many bits as its power of two says. -/
theorem aux_lt : ∀ (f x : Nat), x < 2 ^ f → x < 2 ^ bitLenAux f x
  | 0, x, h => by simpa [bitLenAux] using h
  | f + 1, x, h => by
    simp only [bitLenAux]
    split
    · rename_i h0
      subst h0
      decide
    · have := aux_lt f (x / 2) (by rw [Nat.pow_succ] at h; omega)
      rw [Nat.add_comm, Nat.pow_succ]
      omega

theorem aux_ge : ∀ (f x : Nat), x ≠ 0 → bitLenAux f x ≠ 0 → 2 ^ (bitLenAux f x - 1) ≤ x
  | 0, x, _, h1 => by simp [bitLenAux] at h1
  | f + 1, x, h0, _ => by
    simp only [bitLenAux, if_neg h0]
    rw [Nat.add_sub_cancel_left]
    by_cases h2 : bitLenAux f (x / 2) = 0
    · rw [h2]
      simp
      omega
    · by_cases h3 : x / 2 = 0
      · rw [h3] at h2 ⊢
        exact absurd (by cases f <;> simp [bitLenAux]) h2
      · have := aux_ge f (x / 2) h3 h2
        have e : 2 ^ bitLenAux f (x / 2) = 2 * 2 ^ (bitLenAux f (x / 2) - 1) := by
          rw [← Nat.pow_succ']
          congr 1
          omega
        rw [e]
        omega

theorem aux_mono : ∀ (f x y : Nat), x ≤ y → bitLenAux f x ≤ bitLenAux f y
  | 0, _, _, _ => by simp [bitLenAux]
  | f + 1, x, y, h => by
    simp only [bitLenAux]
    split
    · omega
    · rw [if_neg (by omega)]
      have := aux_mono f (x / 2) (y / 2) (Nat.div_le_div_right h)
      omega

theorem width_le (x : Nat) : bitLen x ≤ 64 := aux_le 64 x
theorem width_lt (x : Nat) (h : x < 18446744073709551616) : x / 2 ^ bitLen x = 0 := Nat.div_eq_of_lt (aux_lt 64 x h)
theorem width_ge (x : Nat) (h : 0 < bitLen x) : x / 2 ^ (bitLen x - 1) ≠ 0 := by
  have hx : x ≠ 0 := by
    rintro rfl
    exact absurd h (by decide)
  have := aux_ge 64 x hx (by unfold bitLen at h; omega)
  have h2 : 0 < 2 ^ (bitLen x - 1) := Nat.pos_of_ne_zero (by simp)
  have := Nat.div_pos this h2
  unfold bitLen at *
  omega
theorem width_mono {x y : Nat} (h : x ≤ y) : bitLen x ≤ bitLen y := aux_mono 64 x y h

theorem aux_zero (f : Nat) : bitLenAux f 0 = 0 := by cases f <;> simp [bitLenAux]

end Go.Proofs.Ytikfogepdmpfaaa.Pl
