import Derived.Test.YtnbjkkhjphjdkaaRefTake
import Derived.Test.YtnbjkkhjphjdkaaElem
import Derived.Test.YtnbjkkhjphjdkaaKept
import Derived.Test.YtnbjkkhjphjdkaaSpoil
namespace Go.Proofs.Ytnbjkkhjphjdkaa
open Go.RowKit

theorem box_new (w : World) (u v : Value) (t : Nat) : (w.alloc (.cells #[u, v] t)).cell? ⟨w.heap.size, 0, none⟩ = some u ∧ (w.alloc (.cells #[u, v] t)).cell? ⟨w.heap.size, 1, none⟩ = some v := ⟨by simp, by simp⟩
theorem box_below {W W' : World} {q : Nat} {u v : Value} (h : W.cell? ⟨q, 0, none⟩ = some u ∧ W.cell? ⟨q, 1, none⟩ = some v) (b : Below W.heap.size W W') : W'.cell? ⟨q, 0, none⟩ = some u ∧ W'.cell? ⟨q, 1, none⟩ = some v :=
  ⟨(b.cell (World.block_lt_of_cell? W _ h.1)).trans h.1, (b.cell (World.block_lt_of_cell? W _ h.2)).trans h.2⟩
theorem below_drewT {B : Nat} {a : World} : ∀ (q : Nat) {w : World}, Below B a w → Below B a (w.drewN q)
  | 0, _, h => h
  | q + 1, w, h => by
    have := below_drewT q (w := w) h
    exact ⟨this.os, this.tape, this.output, this.size, this.block⟩

set_option maxRecDepth 100000 in
set_option maxHeartbeats 3200000 in
theorem tlvTakes_walk (A : Option Addr) (n c : Nat) (l : List UInt8) (w : World) (h : Rd w A n c (bv l)) :
    Calls Try.prog 5 #[.slice A n c] w fun e w' => e = .returned (.bool true) ∧ Below w.heap.size w w' := by
  have hm := h.lenmax
  have H := hide h
  clear h
  by_cases hg : n ≤ 3000
  · have k1 := hide (fun A n c w (h : Rd w A n c (bv l)) => takeHead_any A n c l w h)
    have k2 := fun A n c w (h : Rd w A n c (bv l)) => rhead_any A n c l w h
    unfold HeadOut at k2
    have k2 := hide k2
    have k3 := fun A c w (h : Rd w A n c (bv l)) => take_any A n c l w h (by omega)
    have k4 := fun A c w (h : Rd w A n c (bv l)) => rtake_any A n c l w h (by omega)
    unfold TkOut at k3 k4
    have k3 := hide k3
    have k4 := hide k4
    generalize (thead l).1 = h1 at *
    generalize (thead l).2.1 = h2 at *
    generalize (thead l).2.2.1 = h3 at *
    generalize (thead l).2.2.2.1 = h4 at *
    generalize (thead l).2.2.2.2.1 = h5 at *
    generalize (thead l).2.2.2.2.2 = h6 at *
    generalize (tkOut l).1 = p1 at *
    generalize (tkOut l).2.1 = p2 at *
    generalize (tkOut l).2.2.1 = p3 at *
    generalize (tkOut l).2.2.2.1 = pt at *
    generalize (tkOut l).2.2.2.2.1 = p5 at *
    generalize (tkOut l).2.2.2.2.2 = p6 at *
    have hn9 : n ≤ 1099511627776 := by omega
    go_enter Try.func5, Try.ntmps5
    go_wp2_with (fail)
    refine (ownByte_any A n c l 71 w H.out hn9).mono ?_
    rintro e w1 ⟨rfl, hown, hb⟩
    have hin : Rd w1 (some ⟨w.heap.size, 0, none⟩) n (n + 3) (bv l) := by
      have hl := RdB.length H.out
      have := Rd.of_full hown (n := n) (by omega)
      rwa [List.take_left' (by rw [bv_length]; omega)] at this
    have R1 := hide (show Rd w1 (some ⟨w.heap.size, 0, none⟩) (n + 3) (n + 3) (bv l ++ List.replicate 3 (.int .u8 71)) ∧ Rd w1 (some ⟨w.heap.size, 0, none⟩) n (n + 3) (bv l) ∧ Rd w1 A n c (bv l) ∧ Below w.heap.size w w1 from ⟨Rd.of_own hown, hin, H.out.below hb (Nat.le_refl _), hb⟩)
    have step : Hid (∀ w1 w2, (Rd w1 (some ⟨w.heap.size, 0, none⟩) (n + 3) (n + 3) (bv l ++ List.replicate 3 (.int .u8 71)) ∧ Rd w1 (some ⟨w.heap.size, 0, none⟩) n (n + 3) (bv l) ∧ Rd w1 A n c (bv l) ∧ Below w.heap.size w w1) → Below w1.heap.size w1 w2 → (Rd w2 (some ⟨w.heap.size, 0, none⟩) (n + 3) (n + 3) (bv l ++ List.replicate 3 (.int .u8 71)) ∧ Rd w2 (some ⟨w.heap.size, 0, none⟩) n (n + 3) (bv l) ∧ Rd w2 A n c (bv l) ∧ Below w.heap.size w w2)) := fun _ _ h hb => ⟨h.1.below hb (Nat.le_refl _), h.2.1.below hb (Nat.le_refl _), h.2.2.1.below hb (Nat.le_refl _), below_next h.2.2.2 hb⟩
    clear hown hin hb
    go_wp2_with (fail)
    refine (k1.out _ _ _ _ R1.out.2.1).mono ?_
    rintro e w2 ⟨rfl, hb⟩
    have hal := (Below.refl w2.heap.size w2).alloc (Nat.le_refl _) (.cells #[.int .i64 h1, .int .i64 h2] 23)
    have R2 := hide (step.out _ _ (step.out _ _ R1.out hb) hal)
    have X1 := hide (box_new w2 (.int .i64 h1) (.int .i64 h2) 23)
    clear hb hal
    go_wp2_with (fail)
    refine (k2.out _ _ _ _ R2.out.2.2.1).mono ?_
    rintro e w3 ⟨rfl, hb⟩
    have hal := (Below.refl w3.heap.size w3).alloc (Nat.le_refl _) (.cells #[.int .i64 h1, .int .i64 h2] 23)
    have R3 := hide (step.out _ _ (step.out _ _ R2.out hb) hal)
    have X1 := hide (box_below (box_below X1.out hb) hal)
    have X2 := hide (box_new w3 (.int .i64 h1) (.int .i64 h2) 23)
    clear hb hal
    go_wp2_with (fail)
    refine (k3.out _ _ _ R3.out.2.1).mono ?_
    rintro e w4 ⟨A4, c4, rfl, hf4⟩
    have hal := (Below.refl w4.heap.size w4).alloc (Nat.le_refl _) (.cells #[.int .i64 p1, .int .i64 p2] 23)
    have R4 := hide (step.out _ _ (step.out _ _ R3.out hf4.2) hal)
    have X1 := hide (box_below (box_below X1.out hf4.2) hal)
    have X2 := hide (box_below (box_below X2.out hf4.2) hal)
    have X3 := hide (box_new w4 (.int .i64 p1) (.int .i64 p2) 23)
    have O4 := hide (own_below hf4.1 hal)
    have B4 := hide (hf4.2.trans (hal.mono hf4.2.size))
    clear hal hf4
    go_wp2_with (fail)
    refine (k4.out _ _ _ R4.out.2.2.1).mono ?_
    rintro e w5 ⟨A5, c5, rfl, hf5⟩
    have hal := (Below.refl w5.heap.size w5).alloc (Nat.le_refl _) (.cells #[.int .i64 p1, .int .i64 p2] 23)
    have R5 := hide (step.out _ _ (step.out _ _ R4.out hf5.2) hal)
    have X1 := hide (box_below (box_below X1.out hf5.2) hal)
    have X2 := hide (box_below (box_below X2.out hf5.2) hal)
    have X3 := hide (box_below (box_below X3.out hf5.2) hal)
    have X4 := hide (box_new w5 (.int .i64 p1) (.int .i64 p2) 23)
    have O5 := hide (own_below (own_below O4.out hf5.2) hal)
    have Q5 := hide (own_below hf5.1 hal)
    have B5 := hide ((B4.out.trans (hf5.2.mono B4.out.size)).trans (hal.mono (Nat.le_trans B4.out.size hf5.2.size)))
    clear hal hf5
    go_wp2_with (fail)
    refine (awake03_any _).mono ?_
    rintro e w6 ⟨rfl, hb⟩
    have R6 := hide (step.out _ _ R5.out hb)
    obtain ⟨x10, x11⟩ := box_below X1.out hb
    obtain ⟨x20, x21⟩ := box_below X2.out hb
    obtain ⟨x30, x31⟩ := box_below X3.out hb
    obtain ⟨x40, x41⟩ := box_below X4.out hb
    have O6 := hide (own_below O5.out hb)
    have Q6 := hide (own_below Q5.out hb)
    have B6 := hide (B5.out.trans (hb.mono B5.out.size))
    have kS := hide (sameBytes_any _ _ _ _ _ _ _ _ w6 (Rd.of_own O6.out) (Rd.of_own Q6.out))
    clear hb X1 X2 X3 X4
    go_wp2_with (fail)
    refine kS.out.mono ?_
    rintro e w7 ⟨rfl, rfl⟩
    simp only [decide_true]
    go_wp2_with (fail)
    refine (spoil_any _ _ _ _ pt _ O6.out (B6.out.size)).mono ?_
    rintro e w8 ⟨rfl, hb8⟩
    have hb9 := B6.out.trans hb8
    have R9 := hide (show Rd w8 (some ⟨w.heap.size, 0, none⟩) (n + 3) (n + 3) (bv l ++ List.replicate 3 (.int .u8 71)) ∧ Rd w8 A n c (bv l) ∧ Below w.heap.size w w8 from ⟨R3.out.1.below hb9 (Nat.le_refl _), R3.out.2.2.1.below hb9 (Nat.le_refl _), R3.out.2.2.2.trans (hb9.mono R3.out.2.2.2.size)⟩)
    clear hb8 hb9 x10 x11 x20 x21 x30 x31 x40 x41
    go_wp2_with (fail)
    refine (keptByte_any _ n _ _ _ l 71 _ R9.out.1 R9.out.2.1).mono ?_
    rintro e w10 ⟨rfl, q, rfl⟩
    go_wp2
    go_ret
    exact ⟨rfl, below_drewT _ R9.out.2.2⟩
  · go_enter Try.func5, Try.ntmps5
    go_wp2_with (fail)
    refine (awake03_any _).mono ?_
    rintro e w1 ⟨rfl, hb1⟩
    go_wp2
    go_ret
    exact ⟨rfl, hb1⟩
end Go.Proofs.Ytnbjkkhjphjdkaa
