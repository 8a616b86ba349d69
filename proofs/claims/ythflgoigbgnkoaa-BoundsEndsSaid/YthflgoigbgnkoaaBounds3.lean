import Derived.Test.YthflgoigbgnkoaaBounds2
namespace Go.Proofs.Ythflgoigbgnkoaa
open Go.RowKit

set_option maxHeartbeats 1600000 in
theorem refCheck_any (h hl hh m sz : Bool) (lo hi : Int) (w : World) :
    Calls Try.prog 34 #[.agg #[.bool h, .bool hl, .bool hh, .bool m, .int .i64 lo, .int .i64 hi], .bool sz] w fun e w' => e = .returned (.int .i64 (checkV h hl hh lo hi sz)) ∧ Below w.heap.size w w' := by
  cases h
  · go_enter Try.func34, Try.ntmps34
    go_wp2
    go_ret
    exact ⟨rfl, (Below.refl _ _).alloc (Nat.le_refl _) _⟩
  have hv : ∀ x, checkB true hl hh lo hi sz = x → checkV true hl hh lo hi sz = if x then 11 else 0 := fun x hx => by unfold checkV; rw [hx]
  by_cases g1 : (hl && hh && decide (hi < lo)) = true
  · simp only [Bool.and_eq_true, decide_eq_true_eq] at g1
    obtain ⟨⟨rfl, rfl⟩, hlt⟩ := g1
    have e1 : checkB true true true lo hi sz = true := by unfold checkB; simp [hlt]
    have HV := hide (hv _ e1)
    clear hv e1
    go_enter Try.func34, Try.ntmps34
    go_wp2
    go_ret
    exact ⟨ret_int (by rw [HV.out]; rfl), (Below.refl _ _).alloc (Nat.le_refl _) _⟩
  have g1' : (hl && hh && decide (hi < lo)) = false := by simpa using g1
  have e1 : checkB true hl hh lo hi sz = (sz && !lensB hl hh lo hi) := by unfold checkB; rw [g1']; simp
  have HV := hide (hv _ e1)
  have hnl : hl = true → hh = true → ¬ hi < lo := fun a b c => g1 (by simp [a, b, c])
  clear hv e1 g1 g1'
  cases sz
  · cases hl <;> cases hh
    case true.true =>
      have := hnl rfl rfl
      go_enter Try.func34, Try.ntmps34
      go_wp2
      go_ret
      exact ⟨ret_int (by rw [HV.out]; rfl), (Below.refl _ _).alloc (Nat.le_refl _) _⟩
    all_goals
      clear hnl
      go_enter Try.func34, Try.ntmps34
      go_wp2
      go_ret
      exact ⟨ret_int (by rw [HV.out]; rfl), (Below.refl _ _).alloc (Nat.le_refl _) _⟩
  cases hl
  · clear hnl
    go_enter Try.func34, Try.ntmps34
    go_wp2
    go_ret
    exact ⟨ret_int (by rw [HV.out]; rfl), (Below.refl _ _).alloc (Nat.le_refl _) _⟩
  by_cases g2 : 0 ≤ lo ∧ lo ≤ 70000
  case neg =>
    have e2 : lensB true hh lo hi = false := by unfold lensB; simp; intros; exfalso; omega
    have HE := hide e2
    clear e2
    by_cases g3 : lo < 0
    all_goals
      cases hh
    case pos.false | neg.false =>
      clear hnl
      go_enter Try.func34, Try.ntmps34
      go_wp2
      go_ret
      exact ⟨ret_int (by rw [HV.out, HE.out]; rfl), (Below.refl _ _).alloc (Nat.le_refl _) _⟩
    all_goals
      have := hnl rfl rfl
      clear hnl
      go_enter Try.func34, Try.ntmps34
      go_wp2
      go_ret
      exact ⟨ret_int (by rw [HV.out, HE.out]; rfl), (Below.refl _ _).alloc (Nat.le_refl _) _⟩
  obtain ⟨g2, g3⟩ := g2
  cases hh
  · clear hnl
    have e2 : lensB true false lo hi = true := by unfold lensB; simp; omega
    have HE := hide e2
    clear e2
    go_enter Try.func34, Try.ntmps34
    go_wp2
    go_ret
    exact ⟨ret_int (by rw [HV.out, HE.out]; rfl), (Below.refl _ _).alloc (Nat.le_refl _) _⟩
  have g0 := hnl rfl rfl
  clear hnl
  by_cases g4 : hi ≤ 70000
  · have e2 : lensB true true lo hi = true := by unfold lensB; simp; omega
    have HE := hide e2
    clear e2
    have g5 : 0 ≤ hi := by omega
    go_enter Try.func34, Try.ntmps34
    go_wp2
    go_ret
    exact ⟨ret_int (by rw [HV.out, HE.out]; rfl), (Below.refl _ _).alloc (Nat.le_refl _) _⟩
  · have e2 : lensB true true lo hi = false := by unfold lensB; simp; omega
    have HE := hide e2
    clear e2
    have g5 : 0 ≤ hi := by omega
    go_enter Try.func34, Try.ntmps34
    go_wp2
    go_ret
    exact ⟨ret_int (by rw [HV.out, HE.out]; rfl), (Below.refl _ _).alloc (Nat.le_refl _) _⟩

end Go.Proofs.Ythflgoigbgnkoaa
