import Derived.Test.YtnbjkkhjphjdkaaPlHead
namespace Go.Proofs.Ytnbjkkhjphjdkaa
open Go.RowKit

theorem by8_back (c : UInt8) (z : Int) (h : z = (c.toNat : Int)) : Pl.by8 z = c := by rw [h, Pl.by8_of]

theorem numT_back (c : UInt8) (t : List UInt8) (h : (numT (c :: t)).2.2 = 0) : ∃ j : Nat, (numT (c :: t)).2.1 = (j : Int) ∧ j ≤ t.length ∧ 0 ≤ (numT (c :: t)).1 ∧ (numT (c :: t)).1 ≤ 268435456 ∧ hd1 ((c.toNat : Int) / 32 * 32) (numT (c :: t)).1 = (c :: t).take (1 + j) := by
  have hc := c.toNat_lt
  rw [numT_cons] at h ⊢
  by_cases h1 : (c.toNat : Int) % 32 < 31
  · rw [if_pos h1]
    refine ⟨0, rfl, by omega, by simp; omega, by simp; omega, ?_⟩
    show hd1 _ ((c.toNat : Int) % 32) = _
    rw [hd1_small _ _ h1, by8_back c _ (by omega)]
    rfl
  · rw [if_neg h1] at h ⊢
    by_cases h2 : (tg 0 0 t).2.2 = 0
    · rw [if_neg (by simpa using h2)] at h ⊢
      by_cases h3 : (tg 0 0 t).1 < 31 ∨ 268435456 < (tg 0 0 t).1
      · rw [if_pos h3] at h
        simp at h
      · rw [if_neg h3]
        obtain ⟨_, _, j, j1, j2, hm, hd, hg⟩ := tg_own t (tg 0 0 t).1 (tg 0 0 t).2.1 (Prod.ext rfl (Prod.ext rfl h2))
        refine ⟨j, hm, j2, by simp; omega, by simp; omega, ?_⟩
        show hd1 _ (tg 0 0 t).1 = _
        rw [hd1_big _ _ (by omega), hd, hg, by8_back c _ (by omega), Nat.add_comm 1 j]
        rfl
    · rw [if_pos h2] at h
      exact absurd h h2

theorem lenT_back (l : List UInt8) (h : (lenT l).2.2 = 0) : ∃ j : Nat, (lenT l).2.1 = (j : Int) ∧ 1 ≤ j ∧ j ≤ l.length ∧ hd2 (lenT l).1 = l.take j := by
  cases l with
  | nil =>
    rw [lenT_nil] at h
    simp at h
  | cons c t =>
    have hc := c.toNat_lt
    rw [lenT_cons] at h ⊢
    by_cases h1 : (c.toNat : Int) < 128
    · rw [if_pos h1]
      refine ⟨1, rfl, by omega, by simp, ?_⟩
      show hd2 (c.toNat : Int) = _
      rw [hd2_small _ h1, by8_back c _ rfl]
      rfl
    · rw [if_neg h1] at h ⊢
      by_cases h2 : c.toNat - 128 = 0 ∨ 8 < c.toNat - 128
      · rw [if_pos h2] at h
        simp at h
      · rw [if_neg h2] at h ⊢
        by_cases h3 : t.length < c.toNat - 128
        · rw [if_pos h3] at h
          simp at h
        · rw [if_neg h3] at h ⊢
          by_cases h4 : takeUE (t.take (c.toNat - 128)) ≠ 0 ∨ takeUV (t.take (c.toNat - 128)) < 128 ∨ 2147483647 < takeUV (t.take (c.toNat - 128))
          · rw [if_pos h4] at h
            simp at h
          · rw [if_neg h4]
            obtain ⟨kk, hk⟩ : ∃ kk, c.toNat - 128 = kk := ⟨_, rfl⟩
            rw [hk] at h2 h3 h4 ⊢
            have hu : takeUE (t.take kk) = 0 := by
              by_cases h5 : takeUE (t.take kk) = 0
              · exact h5
              · exact absurd (.inl h5) h4
            have hb := takeU_own _ hu
            have hlen := congrArg List.length hb
            rw [Pl.be_length, List.length_take, Nat.min_eq_left (by omega)] at hlen
            refine ⟨1 + kk, by simp, by omega, by rw [List.length_cons]; omega, ?_⟩
            show hd2 (takeUV (t.take kk)) = _
            rw [hd2_big _ (by omega), hb, hlen, by8_back c _ (by omega), Nat.add_comm 1 kk]
            rfl

/-- A head that is taken, written again, is the same octets. -/
theorem head_own (l : List UInt8) (cl no L k : Int) (md : Bool) (h : thead l = (cl, no, md, L, k, 0)) :
    ∃ j : Nat, k = (j : Int) ∧ 2 ≤ j ∧ j ≤ l.length ∧ headL cl no md L = l.take j ∧ 0 ≤ no ∧ no ≤ 268435456 ∧ 0 ≤ L ∧ L ≤ 2147483647 := by
  cases l with
  | nil =>
    have h6 := congrArg (fun x => x.2.2.2.2.2) h
    have h7 : (3 : Int) = 0 := h6
    omega
  | cons c t =>
    have hc := c.toNat_lt
    rw [thead_cons] at h
    by_cases h1 : (numT (c :: t)).2.2 = 0
    · rw [if_neg (by simpa using h1)] at h
      by_cases h2 : (lenT (t.drop (numT (c :: t)).2.1.toNat)).2.2 = 0
      · rw [if_neg (by simpa using h2)] at h
        obtain ⟨j, hj, hjt, hn0, hn1, hd1e⟩ := numT_back c t h1
        obtain ⟨i, hi, hi1, hil, hd2e⟩ := lenT_back _ h2
        have hLb := lenT_bd (t.drop (numT (c :: t)).2.1.toNat)
        rw [hj, Int.toNat_natCast] at hi hil hd2e hLb h
        simp only [Prod.mk.injEq] at h
        obtain ⟨e1, e2, e3, e4, e5, _⟩ := h
        rw [List.length_drop] at hil
        refine ⟨1 + j + i, by omega, by omega, by rw [List.length_cons]; omega, ?_, by omega, by omega, by omega, by omega⟩
        have hup : up3 cl md = (c.toNat : Int) / 32 * 32 := by
          unfold up3
          rw [← e1, ← e3]
          by_cases hb : (c.toNat : Int) / 32 % 2 = 1
          · simp [hb]
            omega
          · simp [hb]
            omega
        unfold headL
        rw [hup, show max no 0 = no by omega, show max L 0 = L by omega, ← e2, ← e4, hd1e, hd2e]
        have e : (c :: t).take (1 + j + i) = (c :: t).take (1 + j) ++ ((c :: t).drop (1 + j)).take i := List.take_add
        rw [e, show (c :: t).drop (1 + j) = t.drop j by rw [Nat.add_comm]; rfl]
      · rw [if_pos h2] at h
        simp only [Prod.mk.injEq] at h
        exact absurd h.2.2.2.2.2 h2
    · rw [if_pos h1] at h
      simp only [Prod.mk.injEq] at h
      exact absurd h.2.2.2.2.2 h1

end Go.Proofs.Ytnbjkkhjphjdkaa
