import Derived.Test.YthflgoigbgnkoaaMem
import Derived.Test.YthflgoigbgnkoaaProg
import Derived.KernelRfl
namespace Go.Proofs.Ythflgoigbgnkoaa
open Go.RowKit

theorem both_any (h hl hh m : Bool) (lo hi : Int) (w : World) :
    Calls Try.prog 54 #[.agg #[.bool h, .bool hl, .bool hh, .bool m, .int .i64 lo, .int .i64 hi]] w fun e w' => e = .returned (.bool (h && hl && hh)) ∧ Below w.heap.size w w' := by
  cases h <;> cases hl <;> cases hh
  all_goals
    go_enter Try.func54, Try.ntmps54
    go_wp2
    go_ret
    exact ⟨rfl, (Below.refl _ _).alloc (Nat.le_refl _) _⟩

theorem crossed_any (h hl hh m : Bool) (lo hi : Int) (w : World) :
    Calls Try.prog 55 #[.agg #[.bool h, .bool hl, .bool hh, .bool m, .int .i64 lo, .int .i64 hi]] w fun e w' => e = .returned (.bool (h && hl && hh && decide (hi < lo))) ∧ Below w.heap.size w w' := by
  by_cases hlt : hi < lo
  all_goals
    cases h <;> cases hl <;> cases hh
  all_goals
    go_enter Try.func55, Try.ntmps55
    go_wp2_with (fail)
    refine (both_any _ _ _ _ _ _ _).mono ?_
    rintro e w1 ⟨rfl, hb⟩
    have hc := old_cells hb
    go_wp2
    go_ret
    exact ⟨by simp [hlt], below_call hb⟩

/-- May the bounds be those of a length? -/
def lensB (hl hh : Bool) (lo hi : Int) : Bool := hl && decide (0 ≤ lo) && decide (lo ≤ 70000) && (!hh || decide (0 ≤ hi) && decide (hi ≤ 70000))

set_option maxHeartbeats 1600000 in
theorem lengths_any (h hl hh m : Bool) (lo hi : Int) (w : World) :
    Calls Try.prog 57 #[.agg #[.bool h, .bool hl, .bool hh, .bool m, .int .i64 lo, .int .i64 hi]] w fun e w' => e = .returned (.bool (lensB hl hh lo hi)) ∧ Below w.heap.size w w' := by
  cases hl
  · go_enter Try.func57, Try.ntmps57
    go_wp2
    go_ret
    exact ⟨rfl, (Below.refl _ _).alloc (Nat.le_refl _) _⟩
  by_cases h1 : 0 ≤ lo
  case neg =>
    go_enter Try.func57, Try.ntmps57
    go_wp2
    go_ret
    exact ⟨by unfold lensB; simp; intros; exfalso; omega, (Below.refl _ _).alloc (Nat.le_refl _) _⟩
  by_cases h2 : lo ≤ 70000
  case neg =>
    go_enter Try.func57, Try.ntmps57
    go_wp2
    go_ret
    exact ⟨by unfold lensB; simp; intros; exfalso; omega, (Below.refl _ _).alloc (Nat.le_refl _) _⟩
  cases hh
  · go_enter Try.func57, Try.ntmps57
    go_wp2
    go_ret
    exact ⟨by unfold lensB; simp [h1, h2], (Below.refl _ _).alloc (Nat.le_refl _) _⟩
  by_cases h3 : 0 ≤ hi
  case neg =>
    go_enter Try.func57, Try.ntmps57
    go_wp2
    go_ret
    exact ⟨by unfold lensB; simp; intros; exfalso; omega, (Below.refl _ _).alloc (Nat.le_refl _) _⟩
  by_cases h4 : hi ≤ 70000
  all_goals
    go_enter Try.func57, Try.ntmps57
    go_wp2
    go_ret
    exact ⟨by unfold lensB; simp [h1, h2, h3, h4], (Below.refl _ _).alloc (Nat.le_refl _) _⟩

def withinB (h hl hh : Bool) (lo hi v : Int) : Bool := !h || (!hl || decide (lo ≤ v)) && (!hh || decide (v ≤ hi))

set_option maxHeartbeats 1600000 in
theorem within_any (h hl hh m : Bool) (lo hi v : Int) (w : World) :
    Calls Try.prog 30 #[.agg #[.bool h, .bool hl, .bool hh, .bool m, .int .i64 lo, .int .i64 hi], .int .i64 v] w fun e w' => e = .returned (.bool (withinB h hl hh lo hi v)) ∧ Below w.heap.size w w' := by
  cases h
  · go_enter Try.func30, Try.ntmps30
    go_wp2
    go_ret
    exact ⟨rfl, (Below.refl _ _).alloc (Nat.le_refl _) _⟩
  by_cases h1 : lo ≤ v <;> by_cases h2 : v ≤ hi <;> cases hl <;> cases hh
  all_goals
    go_enter Try.func30, Try.ntmps30
    go_wp2
    go_ret
    exact ⟨ret_bool (by unfold withinB; simp; try omega), (Below.refl _ _).alloc (Nat.le_refl _) _⟩

set_option maxHeartbeats 1600000 in
theorem refWithin_any (h hl hh m : Bool) (lo hi v : Int) (w : World) :
    Calls Try.prog 35 #[.agg #[.bool h, .bool hl, .bool hh, .bool m, .int .i64 lo, .int .i64 hi], .int .i64 v] w fun e w' => e = .returned (.bool (withinB h hl hh lo hi v)) ∧ Below w.heap.size w w' := by
  cases h
  · go_enter Try.func35, Try.ntmps35
    go_wp2
    go_ret
    exact ⟨rfl, (Below.refl _ _).alloc (Nat.le_refl _) _⟩
  by_cases h1 : lo ≤ v <;> by_cases h2 : v ≤ hi <;> cases hl <;> cases hh
  all_goals
    go_enter Try.func35, Try.ntmps35
    go_wp2
    go_ret
    exact ⟨ret_bool (by unfold withinB; simp; try omega), (Below.refl _ _).alloc (Nat.le_refl _) _⟩

end Go.Proofs.Ythflgoigbgnkoaa
