import Derived.Test.YthflgoigbgnkoaaKept
import Derived.Test.YthflgoigbgnkoaaOct9
import Derived.Test.YthflgoigbgnkoaaAwake02
namespace Go.Proofs.Ythflgoigbgnkoaa
open Go.RowKit

theorem below_drewN {B : Nat} {a : World} : ∀ (q : Nat) {w : World}, Below B a w → Below B a (w.drewN q)
  | 0, _, h => h
  | q + 1, w, h => by
    have := below_drewN q (w := w) h
    exact ⟨this.os, this.tape, this.output, this.size, this.block⟩

theorem octetsRead_walk (A : Option Addr) (n c : Nat) (l : List UInt8) (w : World) (h : Rd w A n c (bv l)) :
    Calls Try.prog 12 #[.slice A n c] w fun e w' => e = .returned (.bool true) ∧ Below w.heap.size w w' := by
  have hm := h.lenmax
  have H := hide h
  clear h
  by_cases hg : n ≤ 3000
  · have k1 := hide (fun A n c w (h : Rd w A n c (bv l)) => takeSigned_any A n c l w h)
    have k2 := hide (fun A n c w (h : Rd w A n c (bv l)) => refTakeSigned_any A n c l w h)
    have k3 := hide (fun A n c w (h : Rd w A n c (bv l)) => takeUnsigned_any A n c l w h)
    have k4 := hide (fun A n c w (h : Rd w A n c (bv l)) => refTakeUnsigned_any A n c l w h)
    have k5 := hide (fun A n c w (h : Rd w A n c (bv l)) => takeGroups_any A n c l w h)
    have k6 := hide (fun A n c w (h : Rd w A n c (bv l)) => refTakeGroups_any A n c l w h)
    generalize takeSV l = sv at *
    generalize takeSE l = se at *
    generalize takeUV l = uv at *
    generalize takeUE l = ue at *
    generalize (tg 0 0 l).1 = gv at *
    generalize (tg 0 0 l).2.1 = gn at *
    generalize (tg 0 0 l).2.2 = ge at *
    go_enter Try.func12, Try.ntmps12
    go_wp2_with (fail)
    refine (ownByte_any A n c l 71 w H.out (by omega)).mono ?_
    rintro e w1 ⟨rfl, hown, hb⟩
    have hin : Rd w1 (some ⟨w.heap.size, 0, none⟩) n (n + 3) (bv l) := by
      have hl := RdB.length H.out
      have := Rd.of_full hown (n := n) (by omega)
      rwa [List.take_left' (by rw [bv_length]; omega)] at this
    have R1 := hide (show Rd w1 (some ⟨w.heap.size, 0, none⟩) (n + 3) (n + 3) (bv l ++ List.replicate 3 (.int .u8 71)) ∧ Rd w1 (some ⟨w.heap.size, 0, none⟩) n (n + 3) (bv l) ∧ Rd w1 A n c (bv l) ∧ Below w.heap.size w w1 from ⟨Rd.of_own hown, hin, H.out.below hb (Nat.le_refl _), hb⟩)
    have step : Hid (∀ w1 w2, (Rd w1 (some ⟨w.heap.size, 0, none⟩) (n + 3) (n + 3) (bv l ++ List.replicate 3 (.int .u8 71)) ∧ Rd w1 (some ⟨w.heap.size, 0, none⟩) n (n + 3) (bv l) ∧ Rd w1 A n c (bv l) ∧ Below w.heap.size w w1) → Below w1.heap.size w1 w2 → (Rd w2 (some ⟨w.heap.size, 0, none⟩) (n + 3) (n + 3) (bv l ++ List.replicate 3 (.int .u8 71)) ∧ Rd w2 (some ⟨w.heap.size, 0, none⟩) n (n + 3) (bv l) ∧ Rd w2 A n c (bv l) ∧ Below w.heap.size w w2)) := fun _ _ h hb => ⟨h.1.below hb (Nat.le_refl _), h.2.1.below hb (Nat.le_refl _), h.2.2.1.below hb (Nat.le_refl _), below_next h.2.2.2 hb⟩
    clear hown hin hb
    go_wp2_with (fail)
    refine (k1.out _ _ _ _ R1.out.2.1).mono ?_
    rintro e w2 ⟨rfl, hb⟩
    have R2 := hide (step.out _ _ R1.out hb)
    clear hb
    go_wp2_with (fail)
    refine (k2.out _ _ _ _ R2.out.2.2.1).mono ?_
    rintro e w3 ⟨rfl, hb⟩
    have R3 := hide (step.out _ _ R2.out hb)
    clear hb
    go_wp2_with (fail)
    refine (k3.out _ _ _ _ R3.out.2.1).mono ?_
    rintro e w4 ⟨rfl, rfl⟩
    go_wp2_with (fail)
    refine (k4.out _ _ _ _ R3.out.2.2.1).mono ?_
    rintro e w4 ⟨rfl, hb⟩
    have R4 := hide (step.out _ _ R3.out hb)
    clear hb
    go_wp2_with (fail)
    refine (k5.out _ _ _ _ R4.out.2.1).mono ?_
    rintro e w5 ⟨rfl, rfl⟩
    go_wp2_with (fail)
    refine (k6.out _ _ _ _ R4.out.2.2.1).mono ?_
    rintro e w5 ⟨rfl, rfl⟩
    go_wp2_with (fail)
    refine (awake02_any _).mono ?_
    rintro e w5 ⟨rfl, hb⟩
    have R5 := hide (step.out _ _ R4.out hb)
    clear hb
    go_wp2_with (fail)
    refine (keptByte_any _ n _ _ _ l 71 _ R5.out.1 R5.out.2.2.1).mono ?_
    rintro e w6 ⟨rfl, q, rfl⟩
    go_wp2
    go_ret
    exact ⟨rfl, below_drewN _ R5.out.2.2.2⟩
  · go_enter Try.func12, Try.ntmps12
    go_wp2_with (fail)
    refine (awake02_any _).mono ?_
    rintro e w1 ⟨rfl, hb1⟩
    go_wp2
    go_ret
    exact ⟨rfl, hb1⟩

end Go.Proofs.Ythflgoigbgnkoaa
