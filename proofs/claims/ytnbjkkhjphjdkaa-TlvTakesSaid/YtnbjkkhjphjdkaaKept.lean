import Derived.Test.YtnbjkkhjphjdkaaOwn
import Derived.Test.YtnbjkkhjphjdkaaSameB
namespace Go.Proofs.Ytnbjkkhjphjdkaa
open Go.RowKit

def KeptRel (n : Nat) (i : Value) : Prop :=
  ∃ (j : Nat), n ≤ j ∧ j ≤ n + 3 ∧ i = .int .i64 (j : Int)

theorem keptByte_any (A : Option Addr) (n k : Nat) (A2 : Option Addr) (c2 : Nat) (l : List UInt8) (f : Int) (w : World) (h : Rd w A (n + 3) k (bv l ++ List.replicate 3 (.int .u8 f))) (h2 : Rd w A2 n c2 (bv l)) :
    Calls Try.prog 16 #[.slice A n k, .slice A2 n c2, .int .u8 f] w fun e w' => e = .returned (.bool true) ∧ ∃ q, w' = w.drewN q := by
  have hl := RdB.length h2
  have m1 := h.cap
  have m2 := h.lenmax
  have m3 := h.max
  have hpre : Rd w A n k (bv l) := by
    have := h.take (k := n) (by omega)
    rwa [List.take_left' (by rw [bv_length]; omega)] at this
  have k1 := hide (plainByte_any A A2 n k n c2 l l w hpre h2)
  have H := hide h
  have H2 := hide h2
  have HL := hide hl
  clear h h2 hl hpre
  go_enter Try.func16, Try.ntmps16
  go_wp2_with (fail)
  refine k1.out.mono ?_
  rintro e w1 ⟨rfl, q, rfl⟩
  simp only [decide_true]
  go_wp2
  go_loop [8] (KeptRel n) (fun i => n + 3 - (intOf i).toNat)
  case atStart => exact ⟨n, Nat.le_refl _, by omega, rfl⟩
  case round =>
    obtain ⟨j, hj1, hj2, rfl⟩ := hrel
    by_cases hlt : j < n + 3
    · obtain ⟨b, o, u, rfl, hb, hu, hcell⟩ := Rd.at_ (H.out.drewN q) hlt
      have hu2 : u = .int .u8 f := by
        rw [List.getElem?_append_right (by rw [bv_length]; have := HL.out; omega), List.getElem?_replicate] at hu
        split at hu
        · exact (Option.some.inj hu).symm
        · cases hu
      subst hu2
      clear hu
      have hff : (f != f) = false := by simp
      go_wp2
      go_round
      case rel => exact ⟨j + 1, by omega, by omega, by go_num⟩
      case measure => simp [intOf]; omega
    · go_wp2
      go_ret
      exact ⟨rfl, q, rfl⟩

end Go.Proofs.Ytnbjkkhjphjdkaa
