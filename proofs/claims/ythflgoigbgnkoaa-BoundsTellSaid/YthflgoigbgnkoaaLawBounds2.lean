import Derived.Test.YthflgoigbgnkoaaLawBounds
namespace Go.Proofs.Ythflgoigbgnkoaa
open Go.RowKit

theorem hide_all {α : Type} {p : α → Prop} (h : ∀ a, p a) : Hid (∀ a, p a) := h

theorem keepCon {w wa wb : World} {c0 c1 c2 c3 c4 c5 : Value} (h : wa.cell? ⟨w.heap.size, 0, none⟩ = some c0 ∧ wa.cell? ⟨w.heap.size, 1, none⟩ = some c1 ∧ wa.cell? ⟨w.heap.size, 2, none⟩ = some c2 ∧ wa.cell? ⟨w.heap.size, 3, none⟩ = some c3 ∧ wa.cell? ⟨w.heap.size, 4, none⟩ = some c4 ∧ wa.cell? ⟨w.heap.size, 5, none⟩ = some c5 ∧ w.heap.size < wa.heap.size ∧ Below w.heap.size w wa) (hb : Below wa.heap.size wa wb) : wb.cell? ⟨w.heap.size, 0, none⟩ = some c0 ∧ wb.cell? ⟨w.heap.size, 1, none⟩ = some c1 ∧ wb.cell? ⟨w.heap.size, 2, none⟩ = some c2 ∧ wb.cell? ⟨w.heap.size, 3, none⟩ = some c3 ∧ wb.cell? ⟨w.heap.size, 4, none⟩ = some c4 ∧ wb.cell? ⟨w.heap.size, 5, none⟩ = some c5 ∧ w.heap.size < wb.heap.size ∧ Below w.heap.size w wb := by
  obtain ⟨h0, h1, h2, h3, h4, h5, hs, hw⟩ := h
  have hc := old_cells hb
  exact ⟨(hc _ _ hs).trans h0, (hc _ _ hs).trans h1, (hc _ _ hs).trans h2, (hc _ _ hs).trans h3, (hc _ _ hs).trans h4, (hc _ _ hs).trans h5, Nat.lt_of_lt_of_le hs hb.size, hw.trans (hb.mono (Nat.le_of_lt hs))⟩

set_option maxRecDepth 100000 in
set_option maxHeartbeats 1600000 in
theorem boundsTell_walk (h hl hh m : Bool) (lo hi : Int) (sz : Bool) (v n : Int) (w : World) (wl : InI lo) (wh : InI hi) (_wv : (Lit.int .i64 v).wf = true) (wn : (Lit.int .u64 n).wf = true) :
    Calls Try.prog 9 #[.agg #[.bool h, .bool hl, .bool hh, .bool m, .int .i64 lo, .int .i64 hi], .bool sz, .int .i64 v, .int .u64 n] w fun e w' => e = .returned (.bool true) ∧ Below w.heap.size w w' := by
  obtain ⟨n0, n1⟩ := bd_u64 wn
  clear wn
  have c1 := hide (fun w => span_any h hl hh m lo hi wl wh w)
  have c2 := hide (fun w => refSpan_any h hl hh m lo hi wl wh w)
  have c3 := hide (fun w => check_any h hl hh m sz lo hi w)
  have c4 := hide (fun w => refCheck_any h hl hh m sz lo hi w)
  have c5 := hide (fun w => within_any h hl hh m lo hi v w)
  have c6 := hide (fun w => refWithin_any h hl hh m lo hi v w)
  have c7 := hide (fun w => width_any n w n0 n1)
  have c8 := hide (fun w => refWidth_any n w n0 n1)
  clear n0 n1 wl wh
  generalize spanV h hl hh lo hi = sv at c1 c2
  generalize spanB h hl hh lo hi = sb at c1 c2
  generalize checkV h hl hh lo hi sz = cv at c3 c4
  generalize withinB h hl hh lo hi v = wb at c5 c6
  generalize widthI n = wd at c7 c8
  go_enter Try.func9, Try.ntmps9
  go_wp2_with (fail)
  refine (c1.out _).mono ?_
  rintro e w1 ⟨rfl, hb1⟩
  have hc1 := old_cells hb1
  go_wp2_with (fail)
  refine (c2.out _).mono ?_
  rintro e w2 ⟨rfl, hb2⟩
  have hb12 := below_next hb1 hb2
  clear hc1 hb1 hb2
  have hc2 := old_cells hb12
  have k0 := hc2 w.heap.size 0 (by simp)
  have k1 := hc2 w.heap.size 1 (by simp)
  have k2 := hc2 w.heap.size 2 (by simp)
  have k3 := hc2 w.heap.size 3 (by simp)
  have k4 := hc2 w.heap.size 4 (by simp)
  have k5 := hc2 w.heap.size 5 (by simp)
  simp only [World.cell?_alloc_new] at k0 k1 k2 k3 k4 k5
  clear hc2
  have hz : w.heap.size < w2.heap.size := by have := hb12.size; simp at this; omega
  have hb := below_call hb12
  clear hb12
  go_wp2
  go_region_held3 (fun w' => w'.cell? ⟨w.heap.size, 0, none⟩ = some (.bool h) ∧ w'.cell? ⟨w.heap.size, 1, none⟩ = some (.bool hl) ∧ w'.cell? ⟨w.heap.size, 2, none⟩ = some (.bool hh) ∧ w'.cell? ⟨w.heap.size, 3, none⟩ = some (.bool m) ∧ w'.cell? ⟨w.heap.size, 4, none⟩ = some (.int .i64 lo) ∧ w'.cell? ⟨w.heap.size, 5, none⟩ = some (.int .i64 hi) ∧ w.heap.size < w'.heap.size ∧ Below w.heap.size w w')
    (first | exact ⟨k0, k1, k2, k3, k4, k5, hz, hb.drew⟩ | exact keepCon ‹_› ‹_› | assumption)
    (first
      | (go_at_call 29; refine (awake08_any _).mono ?_; rintro e w3 ⟨rfl, hb3⟩)
      | (go_at_call 33; refine (c3.out _).mono ?_; rintro e w3 ⟨rfl, hb3⟩)
      | (go_at_call 34; refine (c4.out _).mono ?_; rintro e w3 ⟨rfl, hb3⟩)
      | (go_at_call 30; refine (c5.out _).mono ?_; rintro e w3 ⟨rfl, hb3⟩)
      | (go_at_call 35; refine (c6.out _).mono ?_; rintro e w3 ⟨rfl, hb3⟩)
      | (go_at_call 28; refine (c7.out _).mono ?_; rintro e w3 ⟨rfl, rfl⟩)
      | (go_at_call 36; refine (c8.out _).mono ?_; rintro e w3 ⟨rfl, rfl⟩))
  all_goals
    have hend : Below w.heap.size w w3 := (And.right (And.right (And.right (And.right (And.right (And.right (And.right ‹_ ∧ _ ∧ _ ∧ _ ∧ _ ∧ _ ∧ _ ∧ _›)))))))
    go_wp2
    go_ret
    exact ⟨rfl, hend⟩
end Go.Proofs.Ythflgoigbgnkoaa
