import Derived.Test.YthflgoigbgnkoaaBounds
import Derived.Laws.Bits64
namespace Go.Proofs.Ythflgoigbgnkoaa
open Go.RowKit

def spanB (h hl hh : Bool) (lo hi : Int) : Bool := h && hl && hh && decide (lo ≤ hi)
def spanV (h hl hh : Bool) (lo hi : Int) : Int := if spanB h hl hh lo hi then hi - lo else 0

def InI (x : Int) : Prop := -9223372036854775808 ≤ x ∧ x ≤ 9223372036854775807

theorem u64_sub {lo hi : Int} (hlo : InI lo) (hhi : InI hi) (h : lo ≤ hi) : IntKind.u64.wrap (IntKind.u64.wrap hi - IntKind.u64.wrap lo) = hi - lo := by
  unfold InI at hlo hhi
  simp only [IntKind.wrap_u64]
  omega

set_option maxHeartbeats 1600000 in
theorem span_any (h hl hh m : Bool) (lo hi : Int) (hlo : InI lo) (hhi : InI hi) (w : World) :
    Calls Try.prog 27 #[.agg #[.bool h, .bool hl, .bool hh, .bool m, .int .i64 lo, .int .i64 hi]] w fun e w' => e = .returned (.tuple #[.int .u64 (spanV h hl hh lo hi), .bool (spanB h hl hh lo hi)]) ∧ Below w.heap.size w w' := by
  cases h <;> cases hl <;> cases hh
  case true.true.true =>
    by_cases hlt : hi < lo
    · go_enter Try.func27, Try.ntmps27
      go_wp2_with (fail)
      refine (both_any _ _ _ _ _ _ _).mono ?_
      rintro e w1 ⟨rfl, hb⟩
      have hc := old_cells hb
      go_wp2_with (fail)
      refine (crossed_any _ _ _ _ _ _ _).mono ?_
      rintro e w2 ⟨rfl, hb2⟩
      clear hc
      go_wp2
      go_ret2
      have e1 : spanB true true true lo hi = false := by unfold spanB; simp; omega
      exact ⟨by unfold spanV; rw [e1]; rfl, below_next (below_call2 hb) hb2⟩
    · have hs := u64_sub hlo hhi (by omega)
      go_enter Try.func27, Try.ntmps27
      go_wp2_with (fail)
      refine (both_any _ _ _ _ _ _ _).mono ?_
      rintro e w1 ⟨rfl, hb⟩
      have hc := old_cells hb
      go_wp2_with (fail)
      refine (crossed_any _ _ _ _ _ _ _).mono ?_
      rintro e w2 ⟨rfl, hb2⟩
      have hz : w.heap.size + 1 < w1.heap.size := by have := hb.size; simp at this; omega
      have hc2 := old_cells hb2
      go_wp2
      go_ret2
      have e1 : spanB true true true lo hi = true := by unfold spanB; simp; omega
      exact ⟨by unfold spanV; rw [e1]; rfl, below_next (below_call2 hb) hb2⟩
  all_goals
    go_enter Try.func27, Try.ntmps27
    go_wp2_with (fail)
    refine (both_any _ _ _ _ _ _ _).mono ?_
    rintro e w1 ⟨rfl, hb⟩
    have hc := old_cells hb
    go_wp2
    go_ret2
    exact ⟨rfl, below_call2 hb⟩

set_option maxHeartbeats 1600000 in
theorem refSpan_any (h hl hh m : Bool) (lo hi : Int) (hlo : InI lo) (hhi : InI hi) (w : World) :
    Calls Try.prog 32 #[.agg #[.bool h, .bool hl, .bool hh, .bool m, .int .i64 lo, .int .i64 hi]] w fun e w' => e = .returned (.tuple #[.int .u64 (spanV h hl hh lo hi), .bool (spanB h hl hh lo hi)]) ∧ Below w.heap.size w w' := by
  cases h <;> cases hl <;> cases hh
  case true.true.true =>
    by_cases hlt : hi < lo
    · go_enter Try.func32, Try.ntmps32
      go_wp2
      go_ret2
      have e1 : spanB true true true lo hi = false := by unfold spanB; simp; omega
      exact ⟨by unfold spanV; rw [e1]; rfl, (Below.refl _ _).alloc (Nat.le_refl _) _⟩
    · have hs := u64_sub hlo hhi (by omega)
      go_enter Try.func32, Try.ntmps32
      go_wp2
      go_ret2
      have e1 : spanB true true true lo hi = true := by unfold spanB; simp; omega
      exact ⟨by unfold spanV; rw [e1]; rfl, (Below.refl _ _).alloc (Nat.le_refl _) _⟩
  all_goals
    go_enter Try.func32, Try.ntmps32
    go_wp2
    go_ret2
    exact ⟨rfl, (Below.refl _ _).alloc (Nat.le_refl _) _⟩

/-- May the constraint be? -/
def checkB (h hl hh : Bool) (lo hi : Int) (sz : Bool) : Bool := h && (hl && hh && decide (hi < lo) || sz && !lensB hl hh lo hi)
def checkV (h hl hh : Bool) (lo hi : Int) (sz : Bool) : Int := if checkB h hl hh lo hi sz then 11 else 0

set_option maxHeartbeats 1600000 in
theorem check_any (h hl hh m sz : Bool) (lo hi : Int) (w : World) :
    Calls Try.prog 33 #[.agg #[.bool h, .bool hl, .bool hh, .bool m, .int .i64 lo, .int .i64 hi], .bool sz] w fun e w' => e = .returned (.int .i64 (checkV h hl hh lo hi sz)) ∧ Below w.heap.size w w' := by
  cases h
  · go_enter Try.func33, Try.ntmps33
    go_wp2
    go_ret
    exact ⟨rfl, ((Below.refl _ _).alloc (Nat.le_refl _) _).alloc (by simp) _⟩
  obtain ⟨x, hx⟩ : ∃ x, x = (true && hl && hh && decide (hi < lo)) := ⟨_, rfl⟩
  obtain ⟨y, hy⟩ : ∃ y, y = lensB hl hh lo hi := ⟨_, rfl⟩
  have hv : checkV true hl hh lo hi sz = if (x || sz && !y) then 11 else 0 := by unfold checkV checkB; rw [hx, hy]; simp
  rw [hv]
  have c1 := fun w => crossed_any true hl hh m lo hi w
  have c2 := fun w => lengths_any true hl hh m lo hi w
  rw [← hx] at c1
  rw [← hy] at c2
  have C1 := hide c1
  have C2 := hide c2
  clear c1 c2 hx hy hv
  cases x <;> cases sz <;> cases y
  all_goals
    go_enter Try.func33, Try.ntmps33
    go_wp2_with (fail)
    refine (C1.out _).mono ?_
    rintro e w1 ⟨rfl, hb⟩
    have hc := old_cells hb
    go_wp2_with (fail)
  all_goals first
    | (go_at_call 57
       refine (C2.out _).mono ?_
       rintro e w2 ⟨rfl, hb2⟩
       clear hc
       go_wp2
       go_ret
       exact ⟨rfl, below_next (below_call2 hb) hb2⟩)
    | (go_wp2
       go_ret
       exact ⟨rfl, below_call2 hb⟩)

end Go.Proofs.Ythflgoigbgnkoaa
