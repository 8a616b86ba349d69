import Derived.Test.YthflgoigbgnkoaaCuts
import Derived.Deep.QuietTactic
import Derived.BigQuiet
namespace Go.Proofs.Ythflgoigbgnkoaa
open Go.RowKit

def SameRel (n : Nat) (xs ys : List Int) (w0 : World) (i : Value) (wr : World) : Prop :=
  ∃ k q : Nat, k ≤ n ∧ i = .int .i64 (k : Int) ∧ xs.take k = ys.take k ∧ wr = w0.drewN q

theorem take_snoc_eq {α : Type} {xs ys : List α} {k : Nat} (hx : k < xs.length) (hy : k < ys.length) (h : xs.take k = ys.take k) : (xs.take (k + 1) = ys.take (k + 1)) ↔ xs[k] = ys[k] := by
  rw [List.take_succ_eq_append_getElem hx, List.take_succ_eq_append_getElem hy, h]
  constructor
  · intro e
    have := List.append_cancel_left e
    simpa using this
  · intro e
    rw [e]

set_option maxRecDepth 100000 in
set_option maxHeartbeats 400000 in
theorem sameInt_any (A1 A2 : Option Addr) (n1 c1 n2 c2 : Nat) (xs ys : List Int) (w : World) (h1 : Rd w A1 n1 c1 (iv xs)) (h2 : Rd w A2 n2 c2 (iv ys)) :
    Calls Try.prog 49 #[.slice A1 n1 c1, .slice A2 n2 c2, .func (.func 50) #[] #[]] w fun e w' => e = .returned (.bool (decide (xs = ys))) ∧ ∃ q, w' = w.drewN q := by
  have m1 := h1.lenmax
  have m2 := h2.lenmax
  have l1 := hide (RdI.length h1)
  have l2 := hide (RdI.length h2)
  by_cases hn : n1 = n2
  · subst hn
    have hl : xs.length = ys.length := by have := l1.out; have := l2.out; omega
    have HL := hide hl
    have H1 := hide h1
    have H2 := hide h2
    clear hl h1 h2
    go_enter Try.func49, Try.ntmps49
    go_wp2
    go_loopw [7] (SameRel n1 xs ys w) (fun i _ => n1 - (intOf i).toNat)
    case atStart => exact ⟨0, 0, Nat.zero_le _, rfl, by simp, rfl⟩
    case round =>
      obtain ⟨k, q, hk, rfl, ht, hw⟩ := hrel
      have HT := hide ht
      have R1 := hide (show Rd wr _ _ _ _ from hw ▸ H1.out.drewN q)
      have R2 := hide (show Rd wr _ _ _ _ from hw ▸ H2.out.drewN q)
      have HW := hide hw
      clear ht hw
      by_cases hlt : k < n1
      · have hkx : k < xs.length := by have := l1.out; omega
        have hky : k < ys.length := by have := l2.out; omega
        obtain ⟨b1, o1, rfl, _, hc1⟩ := RdI.at_ R1.out hkx
        obtain ⟨b2, o2, rfl, _, hc2⟩ := RdI.at_ R2.out hky
        have hki : (0 : Int) ≤ (k : Int) := by omega
        have hki2 : (k : Int) < (n1 : Int) := by omega
        go_wp2
        go_quiet ((go_at_call 50; exact Calls.quiet_of_same (plainInt1_any _ _ _)))
        go_wp2
        · have he : (!(xs[k] == ys[k])) = true := by assumption
          go_ret
          refine ⟨ret_bool ?_, _, by rw [HW.out, World.drewN_drewN]⟩
          symm
          rw [decide_eq_false_iff_not]
          rintro rfl
          simp at he
        · have he : (!(xs[k] == ys[k])) = false := by assumption
          go_roundw
          case rel => exact ⟨k + 1, _, by omega, by go_num, (take_snoc_eq hkx hky HT.out).2 (by simpa using he), by rw [HW.out, World.drewN_drewN]⟩
          case measure => simp [intOf]; omega
      · go_wp2
        go_ret
        refine ⟨ret_bool ?_, _, HW.out⟩
        symm
        rw [decide_eq_true_iff]
        have ht := HT.out
        rw [List.take_of_length_le (by have := l1.out; omega), List.take_of_length_le (by have := l2.out; omega)] at ht
        exact ht
  · have hne : ((n1 : Int) != (n2 : Int)) = true := by rw [bne_iff_ne]; omega
    have hd : decide (xs = ys) = false := by
      rw [decide_eq_false_iff_not]
      rintro rfl
      exact hn (l1.out.trans l2.out.symm)
    have HD := hide hd
    clear hd
    go_enter Try.func49, Try.ntmps49
    go_wp2
    go_ret
    exact ⟨ret_bool (by rw [HD.out]), 0, rfl⟩

theorem plainInt_any (A1 A2 : Option Addr) (n1 c1 n2 c2 : Nat) (xs ys : List Int) (w : World) (h1 : Rd w A1 n1 c1 (iv xs)) (h2 : Rd w A2 n2 c2 (iv ys)) :
    Calls Try.prog 15 #[.slice A1 n1 c1, .slice A2 n2 c2] w fun e w' => e = .returned (.bool (decide (xs = ys))) ∧ ∃ q, w' = w.drewN q := by
  go_enter Try.func15, Try.ntmps15
  go_wp2_with (go_at_call 49; refine (sameInt_any _ _ _ _ _ _ xs ys _ h1 h2).mono ?_; rintro e w' ⟨rfl, q, rfl⟩)
  go_ret
  exact ⟨rfl, _, rfl⟩

theorem below_drewN {B : Nat} {a w : World} (h : Below B a w) (n : Nat) : Below B a (w.drewN n) := ⟨h.os, h.tape, h.output, h.size, h.block⟩

theorem cuts70000 : Pl.cuts 70000 = [65536, 4464] := by
  rw [Pl.cuts_big 70000 (by decide)]
  have : Pl.cutK 70000 = 65536 := by decide
  rw [this, Pl.cuts_small _ (by decide)]

theorem awake18_any (w : World) : Calls Try.prog 14 #[] w fun e w' => e = .returned (.bool true) ∧ Below w.heap.size w w' := by
  go_enter Try.func14, Try.ntmps14
  go_wp2_with (fail)
  refine (cuts_any 70000 (by omega) _).mono ?_
  rintro e w' ⟨A, c, rfl, hf⟩
  have e : Pl.cuts (70000 : Int).toNat = [65536, 4464] := cuts70000
  rw [e] at hf ⊢
  have hr := hf.rd
  have hb := hf.below
  obtain ⟨b, o, rfl, _, hc0⟩ := RdI.at_ (l := [65536, 4464]) hr (k := 0) (by simp)
  obtain ⟨b', o', he, _, hc1⟩ := RdI.at_ (l := [65536, 4464]) hr (k := 1) (by simp)
  cases he
  simp only [List.getElem_cons_zero, List.getElem_cons_succ, Nat.add_zero] at hc0 hc1
  clear hf hr e
  simp only [List.length_cons, List.length_nil]
  go_wp2
  go_ret
  exact ⟨rfl, hb⟩

theorem lengthCuts_walk (n : Int) (w : World) (_h0 : (Lit.int .i64 n).wf = true) :
    Calls Try.prog 3 #[.int .i64 n] w fun e w' => e = .returned (.bool true) ∧ Below w.heap.size w w' := by
  by_cases hg : n ≤ 16777216
  all_goals
    go_enter Try.func3, Try.ntmps3
    go_wp2_with (fail)
    refine (awake18_any _).mono ?_
    rintro e w1 ⟨rfl, hb1⟩
    go_wp2_with (fail)
    refine (cuts_any _ (by omega) _).mono ?_
    rintro e w2 ⟨A2, c2, rfl, hf2⟩
    go_wp2_with (fail)
    refine (refCuts_any _ (by omega) _).mono ?_
    rintro e w3 ⟨A3, c3, rfl, hf3⟩
    go_wp2_with (fail)
    refine (plainInt_any _ _ _ _ _ _ _ _ _ (hf2.rd.below hf3.below (Nat.le_refl _)) hf3.rd).mono ?_
    rintro e w4 ⟨rfl, q, rfl⟩
    simp only [decide_true]
    go_wp2
    go_ret
    exact ⟨rfl, below_drewN (hb1.trans ((hf2.below.mono hb1.size).trans (hf3.below.mono (Nat.le_trans hb1.size hf2.below.size)))) _⟩

end Go.Proofs.Ythflgoigbgnkoaa
