import Derived.Test.YtnbjkkhjphjdkaaPlHead
namespace Go.Proofs.Ytnbjkkhjphjdkaa
open Go.RowKit

set_option maxHeartbeats 800000 in
theorem takeShort1_any (A : Option Addr) (n c : Nat) (l : List UInt8) (w : World) (h : Rd w A n c (bv l)) (ht : thead l = (0, 0, false, 0, 0, 3)) :
    Calls Try.prog 19 #[.slice A n c] w fun e w' => e = .returned (.tuple #[.agg #[.int .i64 0, .int .i64 0], .bool false, .slice none 0 0, .int .i64 0, .int .i64 3]) ∧ Below w.heap.size w w' := by
  have hm := h.lenmax
  have kT := hide (fun w h => takeHead_any A n c l w h)
  rw [ht] at kT
  simp only at kT
  have H := hide (h.alloc (.cells #[.int .i64 0, .int .i64 0] 23))
  clear h ht
  go_enter Try.func19, Try.ntmps19
  go_wp2_with (fail)
  refine (kT.out _ H.out).mono ?_
  rintro e w1 ⟨rfl, hb⟩
  have hc0 := (hb.cell (p := ⟨w.heap.size, 0, none⟩) (by simp)).trans (show _ = some (Value.int .i64 0) by simp)
  have hc1 := (hb.cell (p := ⟨w.heap.size, 1, none⟩) (by simp)).trans (show _ = some (Value.int .i64 0) by simp)
  have hf0 := (hb.frozen (p := ⟨w.heap.size, 0, none⟩) (by simp)).trans (show _ = false by simp)
  have hf1 := (hb.frozen (p := ⟨w.heap.size, 1, none⟩) (by simp)).trans (show _ = false by simp)
  have hz : w.heap.size < w1.heap.size := by have := hb.size; simp at this; omega
  have hb1 := below_call hb
  clear hb
  go_wp2
  refine bodyPost_ret (v := .tuple #[.agg #[.int .i64 0, .int .i64 0], .bool false, .slice none 0 0, .int .i64 0, .int .i64 3]) ?_ rfl ⟨rfl, ?_⟩
  · rw [results_cell4 rfl]
    go_simp
  · refine ((hb1.setCell (Nat.le_refl _) _).setCell (Nat.le_refl _) _).alloc ?_ _
    simp
    omega

set_option maxHeartbeats 800000 in
theorem takeShort2_any (A : Option Addr) (n c : Nat) (l : List UInt8) (w : World) (h : Rd w A n c (bv l)) (cl no : Int) (md : Bool) (L hn : Int) (ht : thead l = (cl, no, md, L, hn, 0)) (h0 : 0 ≤ hn) (h1 : hn ≤ (n : Int)) (hL : (n : Int) - hn < L) :
    Calls Try.prog 19 #[.slice A n c] w fun e w' => e = .returned (.tuple #[.agg #[.int .i64 0, .int .i64 0], .bool false, .slice none 0 0, .int .i64 0, .int .i64 3]) ∧ Below w.heap.size w w' := by
  have hm := h.lenmax
  have kT := hide (fun w h => takeHead_any A n c l w h)
  rw [ht] at kT
  simp only at kT
  have H := hide (h.alloc (.cells #[.int .i64 0, .int .i64 0] 23))
  clear h ht
  go_enter Try.func19, Try.ntmps19
  go_wp2_with (fail)
  refine (kT.out _ H.out).mono ?_
  rintro e w1 ⟨rfl, hb⟩
  have hc0 := (hb.cell (p := ⟨w.heap.size, 0, none⟩) (by simp)).trans (show _ = some (Value.int .i64 0) by simp)
  have hc1 := (hb.cell (p := ⟨w.heap.size, 1, none⟩) (by simp)).trans (show _ = some (Value.int .i64 0) by simp)
  have hf0 := (hb.frozen (p := ⟨w.heap.size, 0, none⟩) (by simp)).trans (show _ = false by simp)
  have hf1 := (hb.frozen (p := ⟨w.heap.size, 1, none⟩) (by simp)).trans (show _ = false by simp)
  have hsub : IntKind.i64.wrap ((n : Int) - hn) = (n : Int) - hn := IntWalk.i64_in _ ⟨by omega, by omega⟩
  have hz : w.heap.size < w1.heap.size := by have := hb.size; simp at this; omega
  have hb1 := below_call hb
  clear hb
  go_wp2
  refine bodyPost_ret (v := .tuple #[.agg #[.int .i64 0, .int .i64 0], .bool false, .slice none 0 0, .int .i64 0, .int .i64 3]) ?_ rfl ⟨rfl, ?_⟩
  · rw [results_cell4 rfl]
    go_simp
  · refine ((hb1.setCell (Nat.le_refl _) _).setCell (Nat.le_refl _) _).alloc ?_ _
    simp
    omega

end Go.Proofs.Ytnbjkkhjphjdkaa
