import Derived.Test.YthflgoigbgnkoaaLawBounds
namespace Go.Proofs.Ythflgoigbgnkoaa
open Go.RowKit

/-- What the callees answer of two bounds a ≤ b. -/
theorem ends_span (a b : Int) (h : a ≤ b) (wa : InI a) (wb : InI b) (w : World) : Calls Try.prog 27 #[.agg #[.bool true, .bool true, .bool true, .bool false, .int .i64 a, .int .i64 b]] w fun e w' => e = .returned (.tuple #[.int .u64 (b - a), .bool true]) ∧ Below w.heap.size w w' := by
  have e1 : spanB true true true a b = true := by unfold spanB; simp [h]
  have e2 : spanV true true true a b = b - a := by unfold spanV; rw [e1]; rfl
  have := span_any true true true false a b wa wb w
  rw [e1, e2] at this
  exact this
theorem ends_span2 (a b : Int) (h : a < b) (wa : InI a) (wb : InI b) (w : World) : Calls Try.prog 27 #[.agg #[.bool true, .bool true, .bool true, .bool false, .int .i64 b, .int .i64 a]] w fun e w' => e = .returned (.tuple #[.int .u64 0, .bool false]) ∧ Below w.heap.size w w' := by
  have e1 : spanB true true true b a = false := by unfold spanB; simp; omega
  have e2 : spanV true true true b a = 0 := by unfold spanV; rw [e1]; rfl
  have := span_any true true true false b a wb wa w
  rw [e1, e2] at this
  exact this
theorem ends_check (a b : Int) (h : a ≤ b) (w : World) : Calls Try.prog 33 #[.agg #[.bool true, .bool true, .bool true, .bool false, .int .i64 a, .int .i64 b], .bool false] w fun e w' => e = .returned (.int .i64 0) ∧ Below w.heap.size w w' := by
  have e1 : checkV true true true a b false = 0 := by
    have : checkB true true true a b false = false := by unfold checkB; simp; omega
    unfold checkV; rw [this]; rfl
  have := check_any true true true false false a b w
  rw [e1] at this
  exact this
theorem ends_check2 (a b : Int) (h : a < b) (w : World) : Calls Try.prog 33 #[.agg #[.bool true, .bool true, .bool true, .bool false, .int .i64 b, .int .i64 a], .bool false] w fun e w' => e = .returned (.int .i64 11) ∧ Below w.heap.size w w' := by
  have e1 : checkV true true true b a false = 11 := by
    have : checkB true true true b a false = true := by unfold checkB; simp [h]
    unfold checkV; rw [this]; rfl
  have := check_any true true true false false b a w
  rw [e1] at this
  exact this
theorem ends_in (a b v : Int) (h : a ≤ v ∧ v ≤ b) (w : World) : Calls Try.prog 30 #[.agg #[.bool true, .bool true, .bool true, .bool false, .int .i64 a, .int .i64 b], .int .i64 v] w fun e w' => e = .returned (.bool true) ∧ Below w.heap.size w w' := by
  have e1 : withinB true true true a b v = true := by unfold withinB; simp [h]
  have := within_any true true true false a b v w
  rw [e1] at this
  exact this
theorem ends_out (a b v : Int) (h : ¬ (a ≤ v ∧ v ≤ b)) (w : World) : Calls Try.prog 30 #[.agg #[.bool true, .bool true, .bool true, .bool false, .int .i64 a, .int .i64 b], .int .i64 v] w fun e w' => e = .returned (.bool false) ∧ Below w.heap.size w w' := by
  have e1 : withinB true true true a b v = false := by unfold withinB; simp; omega
  have := within_any true true true false a b v w
  rw [e1] at this
  exact this


set_option maxRecDepth 100000 in
set_option maxHeartbeats 1600000 in
theorem ends_lt (lo hi : Int) (w : World) (wl : InI lo) (wh : InI hi) (h : (min lo hi) < (max lo hi)) :
    Calls Try.prog 10 #[.int .i64 lo, .int .i64 hi] w fun e w' => e = .returned (.bool true) ∧ Below w.heap.size w w' := by
  have wa : InI (min lo hi) := by unfold InI at *; omega
  have wb : InI (max lo hi) := by unfold InI at *; omega
  have hab : (min lo hi) ≤ (max lo hi) := by omega
  have c1 := hide (fun w => ends_span (min lo hi) (max lo hi) hab wa wb w)
  have c3 := hide (fun w => ends_check (min lo hi) (max lo hi) hab w)
  have c2 := hide (fun w => ends_span2 (min lo hi) (max lo hi) h wa wb w)
  have c4 := hide (fun w => ends_check2 (min lo hi) (max lo hi) h w)
  have c5 := hide (fun w => ends_in (min lo hi) (max lo hi) (min lo hi) ⟨Int.le_refl _, hab⟩ w)
  have c6 := hide (fun w => ends_in (min lo hi) (max lo hi) (max lo hi) ⟨hab, Int.le_refl _⟩ w)
  have c7 := hide (fun w => ends_out (min lo hi) (max lo hi) ((min lo hi) - 1) (by omega) w)
  have c8 := hide (fun w => ends_out (min lo hi) (max lo hi) ((max lo hi) + 1) (by omega) w)
  have hsub := u64_sub (lo := (min lo hi)) (hi := (max lo hi)) wa wb hab
  obtain ⟨l1, l2⟩ := wa
  obtain ⟨h1, h2⟩ := wb
  clear wl wh
  go_enter Try.func10, Try.ntmps10
  go_wp2_with (fail)
  generalize min lo hi = a at *
  generalize max lo hi = b at *
  refine (c1.out _).mono ?_
  rintro e w1 ⟨rfl, hb⟩
  have hc := old_cells hb
  go_wp2_with (fail)
  refine (c2.out _).mono ?_
  rintro e w2 ⟨rfl, hn2⟩
  replace hb := below_next hb hn2
  clear hc hn2
  have hc := old_cells hb
  go_wp2_with (fail)
  refine (awake08_any _).mono ?_
  rintro e w3 ⟨rfl, hn3⟩
  replace hb := below_next hb hn3
  clear hc hn3
  have hc := old_cells hb
  go_wp2_with (fail)
  refine (c3.out _).mono ?_
  rintro e w4 ⟨rfl, hn4⟩
  replace hb := below_next hb hn4
  clear hc hn4
  have hc := old_cells hb
  go_wp2_with (fail)
  refine (c4.out _).mono ?_
  rintro e w5 ⟨rfl, hn5⟩
  replace hb := below_next hb hn5
  clear hc hn5
  have hc := old_cells hb
  go_wp2_with (fail)
  refine (c5.out _).mono ?_
  rintro e w6 ⟨rfl, hn6⟩
  replace hb := below_next hb hn6
  clear hc hn6
  have hc := old_cells hb
  go_wp2_with (fail)
  refine (c6.out _).mono ?_
  rintro e w7 ⟨rfl, hn7⟩
  replace hb := below_next hb hn7
  clear hc hn7
  have hc := old_cells hb
  by_cases hm : -9223372036854775808 < a <;> by_cases hM : b < 9223372036854775807
  · go_wp2_with (fail)
    refine (c7.out _).mono ?_
    rintro e w8 ⟨rfl, hn8⟩
    replace hb := below_next hb hn8
    clear hc hn8
    have hc := old_cells hb
    go_wp2_with (fail)
    refine (c8.out _).mono ?_
    rintro e w9 ⟨rfl, hn9⟩
    replace hb := below_next hb hn9
    clear hc hn9
    have hc := old_cells hb
    go_wp2
    go_ret
    exact ⟨rfl, below_call2 hb⟩
  · go_wp2_with (fail)
    refine (c7.out _).mono ?_
    rintro e w8 ⟨rfl, hn8⟩
    replace hb := below_next hb hn8
    clear hc hn8
    have hc := old_cells hb
    go_wp2
    go_ret
    exact ⟨rfl, below_call2 hb⟩
  · obtain rfl : a = -9223372036854775808 := by omega
    go_wp2_with (fail)
    refine (c8.out _).mono ?_
    rintro e w8 ⟨rfl, hn8⟩
    replace hb := below_next hb hn8
    clear hc hn8
    have hc := old_cells hb
    go_wp2
    go_ret
    exact ⟨rfl, below_call2 hb⟩
  · go_wp2
    go_ret
    exact ⟨rfl, below_call2 hb⟩

set_option maxRecDepth 100000 in
set_option maxHeartbeats 1600000 in
theorem ends_eq (lo hi : Int) (w : World) (wl : InI lo) (wh : InI hi) (h : (max lo hi) ≤ (min lo hi)) :
    Calls Try.prog 10 #[.int .i64 lo, .int .i64 hi] w fun e w' => e = .returned (.bool true) ∧ Below w.heap.size w w' := by
  have wa : InI (min lo hi) := by unfold InI at *; omega
  have wb : InI (max lo hi) := by unfold InI at *; omega
  have hab : (min lo hi) ≤ (max lo hi) := by omega
  have c1 := hide (fun w => ends_span (min lo hi) (max lo hi) hab wa wb w)
  have c3 := hide (fun w => ends_check (min lo hi) (max lo hi) hab w)
  have c2 := hide (fun w => ends_span (max lo hi) (min lo hi) h wb wa w)
  have c4 := hide (fun w => ends_check (max lo hi) (min lo hi) h w)
  have c5 := hide (fun w => ends_in (min lo hi) (max lo hi) (min lo hi) ⟨Int.le_refl _, hab⟩ w)
  have c6 := hide (fun w => ends_in (min lo hi) (max lo hi) (max lo hi) ⟨hab, Int.le_refl _⟩ w)
  have c7 := hide (fun w => ends_out (min lo hi) (max lo hi) ((min lo hi) - 1) (by omega) w)
  have c8 := hide (fun w => ends_out (min lo hi) (max lo hi) ((max lo hi) + 1) (by omega) w)
  have hsub := u64_sub (lo := (min lo hi)) (hi := (max lo hi)) wa wb hab
  obtain ⟨l1, l2⟩ := wa
  obtain ⟨h1, h2⟩ := wb
  clear wl wh
  go_enter Try.func10, Try.ntmps10
  go_wp2_with (fail)
  generalize min lo hi = a at *
  generalize max lo hi = b at *
  obtain rfl : a = b := by omega
  refine (c1.out _).mono ?_
  rintro e w1 ⟨rfl, hb⟩
  have hc := old_cells hb
  go_wp2_with (fail)
  refine (c2.out _).mono ?_
  rintro e w2 ⟨rfl, hn2⟩
  replace hb := below_next hb hn2
  clear hc hn2
  have hc := old_cells hb
  go_wp2_with (fail)
  refine (awake08_any _).mono ?_
  rintro e w3 ⟨rfl, hn3⟩
  replace hb := below_next hb hn3
  clear hc hn3
  have hc := old_cells hb
  go_wp2_with (fail)
  refine (c3.out _).mono ?_
  rintro e w4 ⟨rfl, hn4⟩
  replace hb := below_next hb hn4
  clear hc hn4
  have hc := old_cells hb
  go_wp2_with (fail)
  refine (c4.out _).mono ?_
  rintro e w5 ⟨rfl, hn5⟩
  replace hb := below_next hb hn5
  clear hc hn5
  have hc := old_cells hb
  go_wp2_with (fail)
  refine (c5.out _).mono ?_
  rintro e w6 ⟨rfl, hn6⟩
  replace hb := below_next hb hn6
  clear hc hn6
  have hc := old_cells hb
  go_wp2_with (fail)
  refine (c6.out _).mono ?_
  rintro e w7 ⟨rfl, hn7⟩
  replace hb := below_next hb hn7
  clear hc hn7
  have hc := old_cells hb
  by_cases hm : -9223372036854775808 < a <;> by_cases hM : a < 9223372036854775807
  · go_wp2_with (fail)
    refine (c7.out _).mono ?_
    rintro e w8 ⟨rfl, hn8⟩
    replace hb := below_next hb hn8
    clear hc hn8
    have hc := old_cells hb
    go_wp2_with (fail)
    refine (c8.out _).mono ?_
    rintro e w9 ⟨rfl, hn9⟩
    replace hb := below_next hb hn9
    clear hc hn9
    have hc := old_cells hb
    go_wp2
    go_ret
    exact ⟨rfl, below_call2 hb⟩
  · go_wp2_with (fail)
    refine (c7.out _).mono ?_
    rintro e w8 ⟨rfl, hn8⟩
    replace hb := below_next hb hn8
    clear hc hn8
    have hc := old_cells hb
    go_wp2
    go_ret
    exact ⟨rfl, below_call2 hb⟩
  · obtain rfl : a = -9223372036854775808 := by omega
    go_wp2_with (fail)
    refine (c8.out _).mono ?_
    rintro e w8 ⟨rfl, hn8⟩
    replace hb := below_next hb hn8
    clear hc hn8
    have hc := old_cells hb
    go_wp2
    go_ret
    exact ⟨rfl, below_call2 hb⟩
  · exfalso
    omega

theorem boundsEnds_walk (lo hi : Int) (w : World) (wl : (Lit.int .i64 lo).wf = true) (wh : (Lit.int .i64 hi).wf = true) :
    Calls Try.prog 10 #[.int .i64 lo, .int .i64 hi] w fun e w' => e = .returned (.bool true) ∧ Below w.heap.size w w' := by
  by_cases h : min lo hi < max lo hi
  · exact ends_lt lo hi w (bd_i64 wl) (bd_i64 wh) h
  · exact ends_eq lo hi w (bd_i64 wl) (bd_i64 wh) (by omega)

end Go.Proofs.Ythflgoigbgnkoaa
