import Derived.Test.YtikfogepdmpfaaaMem
import Derived.Test.YtikfogepdmpfaaaProg
import Derived.KernelRfl
import Derived.Deep.QuietTactic
import Derived.BigQuiet
namespace Go.Proofs.Ytikfogepdmpfaaa
open Go.RowKit

def SameBRel (n : Nat) (xs ys : List UInt8) (w0 : World) (i : Value) (wr : World) : Prop :=
  ∃ k q : Nat, k ≤ n ∧ i = .int .i64 (k : Int) ∧ xs.take k = ys.take k ∧ wr = w0.drewN q

theorem take_snoc_eqB {α : Type} {xs ys : List α} {k : Nat} (hx : k < xs.length) (hy : k < ys.length) (h : xs.take k = ys.take k) : (xs.take (k + 1) = ys.take (k + 1)) ↔ xs[k] = ys[k] := by
  rw [List.take_succ_eq_append_getElem hx, List.take_succ_eq_append_getElem hy, h]
  constructor
  · intro e
    have := List.append_cancel_left e
    simpa using this
  · intro e
    rw [e]

theorem plainByte1_any (x y : Int) (w : World) : Calls Try.prog 110 #[.int .u8 x, .int .u8 y] w fun e w' => e = .returned (.bool (x == y)) ∧ w' = w := by
  go_enter Try.func110, Try.ntmps110
  go_wp2
  go_ret
  exact ⟨rfl, rfl⟩

set_option maxRecDepth 100000 in
set_option maxHeartbeats 400000 in
theorem sameByte_any (A1 A2 : Option Addr) (n1 c1 n2 c2 : Nat) (xs ys : List UInt8) (w : World) (h1 : Rd w A1 n1 c1 (bv xs)) (h2 : Rd w A2 n2 c2 (bv ys)) :
    Calls Try.prog 109 #[.slice A1 n1 c1, .slice A2 n2 c2, .func (.func 110) #[] #[]] w fun e w' => e = .returned (.bool (decide (xs = ys))) ∧ ∃ q, w' = w.drewN q := by
  have m1 := h1.lenmax
  have m2 := h2.lenmax
  have l1 := hide (RdB.length h1)
  have l2 := hide (RdB.length h2)
  by_cases hn : n1 = n2
  · subst hn
    have hl : xs.length = ys.length := by have := l1.out; have := l2.out; omega
    have HL := hide hl
    have H1 := hide h1
    have H2 := hide h2
    clear hl h1 h2
    go_enter Try.func109, Try.ntmps109
    go_wp2
    go_loopw [7] (SameBRel n1 xs ys w) (fun i _ => n1 - (intOf i).toNat)
    case atStart => exact ⟨0, 0, Nat.zero_le _, rfl, by simp, rfl⟩
    case round =>
      obtain ⟨k, q, hk, rfl, ht, hw⟩ := hrel
      have HT := hide ht
      have R1 := hide (show Rd wr _ _ _ _ from hw ▸ H1.out.drewN q)
      have R2 := hide (show Rd wr _ _ _ _ from hw ▸ H2.out.drewN q)
      have HW := hide hw
      clear ht hw
      by_cases hlt : k < n1
      · have hkx : k < xs.length := by have := l1.out; omega
        have hky : k < ys.length := by have := l2.out; omega
        obtain ⟨b1, o1, rfl, _, hc1⟩ := RdB.at_ R1.out hkx
        obtain ⟨b2, o2, rfl, _, hc2⟩ := RdB.at_ R2.out hky
        have hki : (0 : Int) ≤ (k : Int) := by omega
        have hki2 : (k : Int) < (n1 : Int) := by omega
        go_wp2
        go_quiet ((go_at_call 110; exact Calls.quiet_of_same (plainByte1_any _ _ _)))
        go_wp2
        · have he : (!((xs[k].toNat : Int) == (ys[k].toNat : Int))) = true := by assumption
          go_ret
          refine ⟨ret_bool ?_, _, by rw [HW.out, World.drewN_drewN]⟩
          symm
          rw [decide_eq_false_iff_not]
          rintro rfl
          simp at he
        · have he : (!((xs[k].toNat : Int) == (ys[k].toNat : Int))) = false := by assumption
          go_roundw
          case rel => exact ⟨k + 1, _, by omega, by go_num, (take_snoc_eqB hkx hky HT.out).2 (by simp at he; exact UInt8.toNat_inj.1 (by omega)), by rw [HW.out, World.drewN_drewN]⟩
          case measure => simp [intOf]; omega
      · go_wp2
        go_ret
        refine ⟨ret_bool ?_, _, HW.out⟩
        symm
        rw [decide_eq_true_iff]
        have ht := HT.out
        rw [List.take_of_length_le (by have := l1.out; omega), List.take_of_length_le (by have := l2.out; omega)] at ht
        exact ht
  · have hne : ((n1 : Int) != (n2 : Int)) = true := by rw [bne_iff_ne]; omega
    have hd : decide (xs = ys) = false := by
      rw [decide_eq_false_iff_not]
      rintro rfl
      exact hn (l1.out.trans l2.out.symm)
    have HD := hide hd
    clear hd
    go_enter Try.func109, Try.ntmps109
    go_wp2
    go_ret
    exact ⟨ret_bool (by rw [HD.out]), 0, rfl⟩

theorem plainByte_any (A1 A2 : Option Addr) (n1 c1 n2 c2 : Nat) (xs ys : List UInt8) (w : World) (h1 : Rd w A1 n1 c1 (bv xs)) (h2 : Rd w A2 n2 c2 (bv ys)) :
    Calls Try.prog 85 #[.slice A1 n1 c1, .slice A2 n2 c2] w fun e w' => e = .returned (.bool (decide (xs = ys))) ∧ ∃ q, w' = w.drewN q := by
  go_enter Try.func85, Try.ntmps85
  go_wp2_with (go_at_call 109; refine (sameByte_any _ _ _ _ _ _ xs ys _ h1 h2).mono ?_; rintro e w' ⟨rfl, q, rfl⟩)
  go_ret
  exact ⟨rfl, _, rfl⟩

end Go.Proofs.Ytikfogepdmpfaaa
