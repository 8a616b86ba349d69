/-
  Plain facts: which octets are those of the number that they are, without a sign.
-/
import Derived.Test.YtikfogepdmpfaaaPlTake
namespace Go.Proofs.Ytikfogepdmpfaaa.Pl

theorem val_cons (c : UInt8) (t : List UInt8) : val (c :: t) = (c.toNat : Int) * 256 ^ t.length + val t := by
  refine snoc_ind (p := fun t => val (c :: t) = (c.toNat : Int) * 256 ^ t.length + val t) (by simp [val]) (fun t d h => ?_) t
  rw [← List.cons_append, val_snoc, val_snoc, h, List.length_append, List.length_singleton, Int.pow_succ, ← Int.mul_assoc]
  omega

theorem dlenF_eq : ∀ (f n : Nat) (v : Int), 1 ≤ n → n ≤ f + 1 → (n = 1 ∨ 256 ^ (n - 1) ≤ v) → v < 256 ^ n → dlenF 256 f v = n := by
  intro f
  induction f with
  | zero => intro n v h1 h2 _ _; simp [dlenF]; omega
  | succ f ih =>
    intro n v h1 h2 h3 h4
    by_cases hn : n = 1
    · subst hn
      exact dlenF_lt 256 _ v (by simpa using h4)
    · obtain ⟨m, rfl⟩ : ∃ m, n = m + 2 := ⟨n - 2, by omega⟩
      have h5 : 256 ^ (m + 1) ≤ v := by
        rcases h3 with h | h
        · omega
        · exact h
      rw [Int.pow_succ] at h5 h4
      have hp : (0 : Int) < 256 ^ m := Int.pow_pos (by omega)
      rw [dlenF_ge 256 f v (by omega), ih (m + 1) (v / 256) (by omega) (by omega) (by
        right
        show (256 : Int) ^ m ≤ v / 256
        omega) (by omega)]
theorem dlenF_le : ∀ (f n : Nat) (v : Int), 1 ≤ n → v < 256 ^ n → dlenF 256 f v ≤ n := by
  intro f
  induction f with
  | zero => intro n v h1 _; simp [dlenF]; omega
  | succ f ih =>
    intro n v h1 h4
    by_cases hv : v < 256
    · rw [dlenF_lt 256 _ v hv]
      exact h1
    · rw [dlenF_ge 256 f v hv]
      obtain ⟨m, rfl⟩ : ∃ m, n = m + 1 := ⟨n - 1, by omega⟩
      rw [Int.pow_succ] at h4
      by_cases hm : m = 0
      · subst hm
        simp at h4
        omega
      · have := ih m (v / 256) (by omega) (by omega)
        omega

/-- Octets are those of their number: one, or the first is not nought. -/
theorem unsigned_own (c : UInt8) (t : List UInt8) (h8 : t.length ≤ 7) : be (dlenF 256 7 (val (c :: t))) (val (c :: t)) = c :: t ↔ (t = [] ∨ c ≠ 0) := by
  have hc := c.toNat_lt
  have hv := val_nonneg t
  have hl := val_lt (c :: t)
  constructor
  · intro h
    by_cases ht : t = []
    · exact .inl ht
    · right
      intro e
      subst e
      have h1 : val (0 :: t) = val t := by rw [val_cons]; simp
      have h2 := dlenF_le 7 t.length (val t) (by have := List.length_pos_iff.2 ht; omega) (val_lt t)
      have h3 := congrArg List.length h
      rw [be_length, h1, List.length_cons] at h3
      omega
  · intro h
    have hd : dlenF 256 7 (val (c :: t)) = (c :: t).length := by
      refine dlenF_eq 7 _ _ (by simp) (by simp; omega) ?_ hl
      rcases h with h | h
      · subst h
        exact .inl rfl
      · right
        rw [val_cons]
        show (256 : Int) ^ t.length ≤ _
        have h0 : 1 ≤ c.toNat := by
          rcases Nat.eq_zero_or_pos c.toNat with h0 | h0
          · exact absurd (UInt8.toNat_inj.1 h0) h
          · exact h0
        have hp : (0 : Int) < 256 ^ t.length := Int.pow_pos (by omega)
        have := Int.mul_le_mul_of_nonneg_right (show (1 : Int) ≤ (c.toNat : Int) by omega) (Int.le_of_lt hp)
        omega
    rw [hd, be_val]

end Go.Proofs.Ytikfogepdmpfaaa.Pl
