import Derived.Test.YtnbjkkhjphjdkaaOct8
import Derived.Test.YtnbjkkhjphjdkaaPlOrder
namespace Go.Proofs.Ytnbjkkhjphjdkaa
open Go.RowKit

theorem slen_top : ∀ (f : Nat) (v : Int), -(128 * 256 ^ f) ≤ v → v < 128 * 256 ^ f → -(256 ^ Pl.slenF f v) ≤ 2 * v ∧ 2 * v < 256 ^ Pl.slenF f v
  | 0, v, h0, h1 => by
    simp [Pl.slenF] at *
    omega
  | f + 1, v, h0, h1 => by
    by_cases hv : -128 ≤ v ∧ v ≤ 127
    · rw [Pl.slenF_fit _ v hv]
      simp
      omega
    · rw [Pl.slenF_not f v hv]
      rw [Int.pow_succ] at h0 h1
      have hp : (0 : Int) < 256 ^ f := Int.pow_pos (by omega)
      have ih := slen_top f (v / 256) (by omega) (by omega)
      obtain ⟨k, hk⟩ : ∃ k, Pl.slenF f (v / 256) = k + 1 := ⟨Pl.slenF f (v / 256) - 1, by have := (Pl.slenF_bd f (v / 256)).1; omega⟩
      rw [hk] at ih ⊢
      rw [Int.pow_succ] at ih
      rw [Int.pow_succ, Int.pow_succ]
      generalize (256 : Int) ^ k = B at *
      omega

theorem sval_be (n : Nat) (v : Int) (h0 : -(256 ^ n) ≤ 2 * v) (h1 : 2 * v < 256 ^ n) : Pl.sval (Pl.be n v) = v := by
  have hl := Pl.be_length n v
  have hv := Pl.val_be n v
  have hb := Pl.val_bd (Pl.be n v)
  have hp : (0 : Int) < 256 ^ n := Int.pow_pos (by omega)
  unfold Pl.sval
  rw [hl] at hb ⊢
  rw [hv] at hb ⊢
  generalize (256 : Int) ^ n = B at *
  by_cases hn : 0 ≤ v
  · rw [Int.emod_eq_of_lt hn (by omega)] at hb ⊢
    rw [if_neg]
    intro h
    have := hb.1 h
    omega
  · have e : v % B = v + B := by
      rw [← Int.add_emod_right, Int.emod_eq_of_lt (by omega) (by omega)]
    rw [e] at hb ⊢
    rw [if_pos]
    · omega
    · by_cases h : Pl.neg (Pl.be n v) = true
      · exact h
      · have := hb.2 (by simpa using h)
        omega

theorem takeS_be (v : Int) (h0 : -9223372036854775808 ≤ v) (h1 : v ≤ 9223372036854775807) : takeSV (Pl.be (Pl.slenF 7 v) v) = v ∧ takeSE (Pl.be (Pl.slenF 7 v) v) = 0 := by
  have e : (256 : Int) ^ 7 = 72057594037927936 := by decide
  have ht := slen_top 7 v (by omega) (by omega)
  have hb := Pl.slenF_bd 7 v
  have hs := sval_be _ v ht.1 ht.2
  unfold takeSV takeSE
  have a1 : ¬ Pl.slenF 7 v = 0 := by omega
  have a2 : ¬ 8 < Pl.slenF 7 v := by omega
  rw [hs, Pl.be_length]
  simp [a1, a2]

theorem takeU_be (v : Int) (h0 : 0 ≤ v) (h1 : v < 18446744073709551616) : takeUV (Pl.be (Pl.dlenF 256 7 v) v) = v ∧ takeUE (Pl.be (Pl.dlenF 256 7 v) v) = 0 := by
  have ht := Pl.dlenF_top 256 (by omega) 7 v (by omega)
  have hb := Pl.dlenF_bd 256 7 v
  have hs : Pl.val (Pl.be (Pl.dlenF 256 7 v) v) = v := by rw [Pl.val_be, Int.emod_eq_of_lt h0 ht]
  unfold takeUV takeUE
  have a1 : ¬ Pl.dlenF 256 7 v = 0 := by omega
  have a2 : ¬ 8 < Pl.dlenF 256 7 v := by omega
  rw [hs, Pl.be_length]
  simp [a1, a2]

theorem takeS_own (l : List UInt8) (h : takeSE l = 0) : Pl.be (Pl.slenF 7 (takeSV l)) (takeSV l) = l := by
  unfold takeSE at h
  unfold takeSV
  split at h
  · omega
  · rename_i h0
    rw [if_neg h0]
    split at h
    · omega
    · rename_i h8
      rw [if_neg h8]
      split at h
      · rename_i he
        rw [if_pos he]
        exact he
      · omega
theorem takeU_own (l : List UInt8) (h : takeUE l = 0) : Pl.be (Pl.dlenF 256 7 (takeUV l)) (takeUV l) = l := by
  unfold takeUE at h
  unfold takeUV
  split at h
  · omega
  · rename_i h0
    rw [if_neg h0]
    split at h
    · omega
    · rename_i h8
      rw [if_neg h8]
      split at h
      · rename_i he
        rw [if_pos he]
        exact he
      · omega
theorem takeSE_range (l : List UInt8) : takeSE l = 0 ∨ takeSE l = 3 ∨ takeSE l = 4 := by
  unfold takeSE
  split
  · simp
  · split
    · simp
    · split <;> simp
theorem takeUE_range (l : List UInt8) : takeUE l = 0 ∨ takeUE l = 3 ∨ takeUE l = 4 := by
  unfold takeUE
  split
  · simp
  · split
    · simp
    · split <;> simp
theorem takeUV_bd (l : List UInt8) : 0 ≤ takeUV l ∧ takeUV l < 18446744073709551616 := by
  unfold takeUV
  split
  · omega
  · split
    · omega
    · split
      · have h1 := Pl.val_lt l
        have h2 := Pl.pow_le8 (n := l.length) (by omega)
        exact ⟨Pl.val_nonneg l, by omega⟩
      · omega

theorem dlenF_low (B : Int) (hB : 0 < B) : ∀ (f n : Nat) (v : Int), Pl.dlenF B f v = n + 2 → B ^ (n + 1) ≤ v
  | 0, n, v, h => by simp [Pl.dlenF] at h
  | f + 1, n, v, h => by
    by_cases hv : v < B
    · rw [Pl.dlenF_lt B _ v hv] at h
      omega
    · rw [Pl.dlenF_ge B f v hv] at h
      match n, h with
      | 0, _ =>
        rw [Int.pow_succ, Int.pow_zero, Int.one_mul]
        omega
      | n + 1, h =>
        have := dlenF_low B hB f n (v / B) (by omega)
        rw [Int.pow_succ]
        exact (Int.le_ediv_iff_mul_le hB).1 this

theorem dlenF_eqB (B : Int) (hB : 0 < B) : ∀ (f n : Nat) (v : Int), 1 ≤ n → n ≤ f + 1 → (n = 1 ∨ B ^ (n - 1) ≤ v) → v < B ^ n → Pl.dlenF B f v = n := by
  intro f
  induction f with
  | zero => intro n v h1 h2 _ _; simp [Pl.dlenF]; omega
  | succ f ih =>
    intro n v h1 h2 h3 h4
    by_cases hn : n = 1
    · subst hn
      rw [Int.pow_succ, Int.pow_zero, Int.one_mul] at h4
      exact Pl.dlenF_lt B _ v h4
    · obtain ⟨m, rfl⟩ : ∃ m, n = m + 2 := ⟨n - 2, by omega⟩
      have h5 : B ^ (m + 1) ≤ v := by
        rcases h3 with h | h
        · omega
        · exact h
      rw [Int.pow_succ] at h5 h4
      have hp : (0 : Int) < B ^ m := Int.pow_pos hB
      have h6 : B ≤ v := by
        have := Int.mul_le_mul_of_nonneg_right (show (1 : Int) ≤ B ^ m by omega) (Int.le_of_lt hB)
        omega
      rw [Pl.dlenF_ge B f v (by omega), ih (m + 1) (v / B) (by omega) (by omega) (by
        right
        show B ^ m ≤ v / B
        exact (Int.le_ediv_iff_mul_le hB).2 h5) ((Int.ediv_lt_iff_lt_mul hB).2 h4)]

theorem by8_small (z : Int) (h0 : 0 ≤ z) (h1 : z < 256) : ((Pl.by8 z).toNat : Int) = z := by
  rw [Pl.by8_val, Int.emod_eq_of_lt h0 h1]

/-- Groups that are written are read, with anything behind. -/
theorem tg_gr (u : Int) (h0 : 0 ≤ u) (h1 : u < 18446744073709551616) (more : List UInt8) : ∀ (n k : Nat), (k = 0 → n = 0 ∨ u / 128 ^ n % 128 ≠ 0) →
    tg k (u / 128 ^ (n + 1)) (Pl.gr (n + 1) u ++ more) = (u, (k : Int) + ((n + 1 : Nat) : Int), 0)
  | 0, k, _ => by
    show tg k (u / 128 ^ 1) (Pl.by8 (u % 128) :: more) = _
    have hc := by8_small (u % 128) (by omega) (by omega)
    rw [Int.pow_succ, Int.pow_zero, Int.one_mul, tg_end _ _ _ _ (by rw [hc]; omega) (by rw [hc]; omega), hc]
    rw [Int.emod_emod_of_dvd _ (by omega)]
    have : u / 128 * 128 + u % 128 = u := by omega
    rw [this]
    simp
  | n + 1, k, hk => by
    show tg k (u / 128 ^ (n + 2)) (Pl.by8 (u / 128 ^ (n + 1) % 128 + 128) :: (Pl.gr (n + 1) u ++ more)) = _
    have hc := by8_small (u / 128 ^ (n + 1) % 128 + 128) (by omega) (by omega)
    have hq : u / 128 ^ (n + 2) = u / 128 ^ (n + 1) / 128 := (Pl.div_next u 128 (by omega) (n + 1)).symm
    have hp : 0 ≤ u / 128 ^ (n + 1) := Int.ediv_nonneg h0 (Int.pow_nonneg (by omega))
    have hle : u / 128 ^ (n + 1) ≤ u := Int.ediv_le_self _ h0
    have hn : ¬ ((k = 0 ∧ u / 128 ^ (n + 1) % 128 + 128 = 128) ∨ 144115188075855872 ≤ u / 128 ^ (n + 2)) := by
      rintro (⟨h, h2⟩ | h)
      · rcases hk h with h3 | h3
        · omega
        · omega
      · omega
    rw [tg_next _ _ _ _ (by rw [hc]; exact hn) (by rw [hc]; omega), hc, hq]
    have e : u / 128 ^ (n + 1) / 128 * 128 + (u / 128 ^ (n + 1) % 128 + 128) % 128 = u / 128 ^ (n + 1) := by omega
    rw [e, tg_gr u h0 h1 more n (k + 1) (fun h => by omega)]
    simp
    omega

theorem tg_groups (u : Int) (h0 : 0 ≤ u) (h1 : u < 18446744073709551616) (more : List UInt8) :
    tg 0 0 (Pl.gr (Pl.dlenF 128 9 u) u ++ more) = (u, ((Pl.dlenF 128 9 u : Nat) : Int), 0) := by
  have hb := Pl.dlenF_bd 128 9 u
  have e10 : (128 : Int) ^ (9 + 1) = 1180591620717411303424 := by decide
  have ht := Pl.dlenF_top 128 (by omega) 9 u (by rw [e10]; omega)
  have hlow : ∀ n, Pl.dlenF 128 9 u = n + 2 → 128 ^ (n + 1) ≤ u := fun n => dlenF_low 128 (by omega) 9 n u
  obtain ⟨n, hn⟩ : ∃ n, Pl.dlenF 128 9 u = n + 1 := ⟨Pl.dlenF 128 9 u - 1, by omega⟩
  rw [hn] at ht hlow hb ⊢
  have hz : u / 128 ^ (n + 1) = 0 := Int.ediv_eq_zero_of_lt h0 ht
  have := tg_gr u h0 h1 more n 0 (fun _ => by
    match n, hlow, ht with
    | 0, _, _ => exact .inl rfl
    | n + 1, hlow, ht =>
      right
      have h := hlow n rfl
      have hp : (0 : Int) < 128 ^ (n + 1) := Int.pow_pos (by omega)
      have h2 : 1 ≤ u / 128 ^ (n + 1) := (Int.le_ediv_iff_mul_le hp).2 (by omega)
      have h3 : u / 128 ^ (n + 1) < 128 := by
        rw [Int.ediv_lt_iff_lt_mul hp, Int.mul_comm, ← Int.pow_succ]
        exact ht
      omega)
  rw [hz] at this
  simpa using this

/-- k groups that others come behind. -/
def grm : Nat → Int → List UInt8
  | 0, _ => []
  | k + 1, v => grm k (v / 128) ++ [Pl.by8 (v % 128 + 128)]
theorem grm_cons : ∀ (n : Nat) (v : Int), grm (n + 1) v = Pl.by8 (v / 128 ^ n % 128 + 128) :: grm n v
  | 0, v => by simp [grm]
  | n + 1, v => by
    show grm (n + 1) (v / 128) ++ [Pl.by8 (v % 128 + 128)] = _
    rw [grm_cons n (v / 128)]
    have e : v / 128 / 128 ^ n = v / 128 ^ (n + 1) := by
      rw [Int.ediv_ediv_of_nonneg (by omega), Int.pow_succ, Int.mul_comm]
    rw [e]
    rfl
theorem gr_snoc : ∀ (n : Nat) (v : Int), Pl.gr (n + 1) v = grm n (v / 128) ++ [Pl.by8 (v % 128)]
  | 0, v => by simp [Pl.gr, grm]
  | n + 1, v => by
    show Pl.by8 (v / 128 ^ (n + 1) % 128 + 128) :: Pl.gr (n + 1) v = _
    rw [gr_snoc n v, grm_cons n (v / 128)]
    have e : v / 128 / 128 ^ n = v / 128 ^ (n + 1) := by
      rw [Int.ediv_ediv_of_nonneg (by omega), Int.pow_succ, Int.mul_comm]
    rw [e]
    rfl

theorem tg_back (r m : Int) : ∀ (l : List UInt8) (k : Nat) (v : Int), 0 ≤ v → v < 128 ^ k → (k = 0 ∨ 128 ^ (k - 1) ≤ v) → tg k v l = (r, m, 0) →
    ∃ j, j < l.length ∧ m = (k : Int) + (j : Int) + 1 ∧ grm k v ++ l.take (j + 1) = Pl.gr (k + j + 1) r ∧ 0 ≤ r ∧ r < 128 ^ (k + j + 1) ∧ (k + j = 0 ∨ 128 ^ (k + j) ≤ r) ∧ r < 18446744073709551616
  | [], k, v, _, _, _, h => by simp [tg] at h
  | c :: l, k, v, h0, h1, h2, h => by
    have hc := c.toNat_lt
    have hp : (0 : Int) < 128 ^ k := Int.pow_pos (by omega)
    by_cases hf : (k = 0 ∧ (c.toNat : Int) = 128) ∨ 144115188075855872 ≤ v
    · rw [tg_form _ _ _ _ hf] at h
      simp at h
    · have hlow : k = 0 ∨ 128 ^ k ≤ v * 128 := by
        rcases h2 with h2 | h2
        · exact .inl h2
        · rcases Nat.eq_zero_or_pos k with hk | hk
          · exact .inl hk
          · right
            obtain ⟨k', rfl⟩ : ∃ k', k = k' + 1 := ⟨k - 1, by omega⟩
            rw [Int.pow_succ]
            have : (128 : Int) ^ k' ≤ v := h2
            omega
      by_cases he : (c.toNat : Int) < 128
      · rw [tg_end _ _ _ _ hf he] at h
        simp only [Prod.mk.injEq] at h
        obtain ⟨hr, hm, _⟩ := h
        refine ⟨0, by simp, by omega, ?_, by omega, ?_, ?_, by omega⟩
        · rw [Nat.add_zero, gr_snoc k r, show r / 128 = v from by omega, Pl.by8_congr (show (r % 128) % 256 = (c.toNat : Int) % 256 from by omega), Pl.by8_of]
          rfl
        · rw [Nat.add_zero, Int.pow_succ]
          omega
        · rw [Nat.add_zero]
          rcases hlow with hl | hl
          · exact .inl hl
          · right
            omega
      · rw [tg_next _ _ _ _ hf he] at h
        obtain ⟨j, hj, hm, hg, g0, g1, g2, g3⟩ := tg_back r m l (k + 1) (v * 128 + (c.toNat : Int) % 128) (by omega) (by rw [Int.pow_succ]; omega) (by
          right
          show (128 : Int) ^ k ≤ _
          rcases hlow with hl | hl
          · subst hl
            simp
            omega
          · omega) h
        refine ⟨j + 1, by simp; omega, by omega, ?_, g0, ?_, ?_, g3⟩
        · rw [show k + (j + 1) + 1 = k + 1 + j + 1 from by omega, ← hg]
          show grm k v ++ c :: l.take (j + 1) = grm k ((v * 128 + (c.toNat : Int) % 128) / 128) ++ [Pl.by8 ((v * 128 + (c.toNat : Int) % 128) % 128 + 128)] ++ l.take (j + 1)
          rw [show (v * 128 + (c.toNat : Int) % 128) / 128 = v from by omega, Pl.by8_congr (show ((v * 128 + (c.toNat : Int) % 128) % 128 + 128) % 256 = (c.toNat : Int) % 256 from by omega), Pl.by8_of]
          simp
        · rw [show k + (j + 1) + 1 = k + 1 + j + 1 from by omega]
          exact g1
        · right
          rw [show k + (j + 1) = k + 1 + j from by omega]
          rcases g2 with g | g
          · omega
          · exact g

/-- Groups that are read are those that are written. -/
theorem tg_own (l : List UInt8) (r m : Int) (h : tg 0 0 l = (r, m, 0)) : 0 ≤ r ∧ r < 18446744073709551616 ∧ ∃ j : Nat, 1 ≤ j ∧ j ≤ l.length ∧ m = (j : Int) ∧ Pl.dlenF 128 9 r = j ∧ Pl.gr j r = l.take j := by
  obtain ⟨j, hj, hm, hg, g0, g1, g2, g3⟩ := tg_back r m l 0 0 (by omega) (by simp) (.inl rfl) h
  refine ⟨g0, g3, j + 1, by omega, by omega, by omega, ?_, ?_⟩
  · refine dlenF_eqB 128 (by omega) 9 (j + 1) r (by omega) ?_ ?_ ?_
    · by_cases h10 : j ≤ 9
      · omega
      · exfalso
        rcases g2 with g | g
        · omega
        · have e : (128 : Int) ^ (0 + j) = 128 ^ (j - 10) * 1180591620717411303424 := by
            rw [show 0 + j = (j - 10) + 10 from by omega, Int.pow_add]
            rfl
          have hp : (0 : Int) < 128 ^ (j - 10) := Int.pow_pos (by omega)
          omega
    · rcases g2 with g | g
      · left
        omega
      · right
        rw [Nat.add_sub_cancel]
        rwa [Nat.zero_add] at g
    · rwa [Nat.zero_add] at g1
  · have e : Pl.gr (0 + j + 1) r = l.take (j + 1) := by rw [← hg]; simp [grm]
    rwa [Nat.zero_add] at e

theorem tg_range (l : List UInt8) : ∀ (k : Nat) (v : Int), (tg k v l).2.2 = 0 ∨ (tg k v l).2.2 = 3 ∨ (tg k v l).2.2 = 4 := by
  induction l with
  | nil => intro k v; simp [tg]
  | cons c l ih =>
    intro k v
    unfold tg
    split
    · simp
    · split
      · simp
      · exact ih _ _

end Go.Proofs.Ytnbjkkhjphjdkaa
