import Derived.Test.YthflgoigbgnkoaaBounds3
import Derived.Test.YthflgoigbgnkoaaWidth
import Derived.Deep.RegionHeld3
import Derived.Test.YthflgoigbgnkoaaOpen
namespace Go.Proofs.Ythflgoigbgnkoaa
open Go.RowKit

theorem awake08_any (w : World) : Calls Try.prog 29 #[] w fun e w' => e = .returned (.bool true) ∧ Below w.heap.size w w' := by
  go_enter Try.func29, Try.ntmps29
  go_wp2_with (fail)
  refine (span_any true true true false 0 7 (by unfold InI; omega) (by unfold InI; omega) _).mono ?_
  rintro e w1 ⟨rfl, hb⟩
  have e1 : spanB true true true 0 7 = true := by decide
  have e2 : spanV true true true 0 7 = 7 := by decide
  rw [e1, e2]
  clear e1 e2
  go_wp2_with (fail)
  refine (width_any 7 _ (by omega) (by omega)).mono ?_
  rintro e w2 ⟨rfl, rfl⟩
  have e3 : widthI 7 = 3 := by decide
  rw [e3]
  clear e3
  go_wp2
  go_ret
  exact ⟨rfl, hb⟩

theorem shr_zero (n : Int) (h0 : 0 ≤ n) (h1 : n < 18446744073709551616) : n / 2 ^ (widthI n).toNat = 0 := by
  have h := Pl.width_lt n.toNat (by omega)
  have e : (widthI n).toNat = Lib.bitLen n.toNat := by unfold widthI; omega
  rw [e]
  have : ((n.toNat / 2 ^ Lib.bitLen n.toNat : Nat) : Int) = 0 := by rw [h]; rfl
  rw [Int.natCast_ediv, Int.natCast_pow, Int.toNat_of_nonneg h0] at this
  exact this
theorem shr_not (n : Int) (h0 : 0 ≤ n) (hw : 0 < widthI n) : ¬ n / 2 ^ (widthI n - 1).toNat = 0 := by
  have e : (widthI n - 1).toNat = Lib.bitLen n.toNat - 1 := by unfold widthI; omega
  have h := Pl.width_ge n.toNat (by unfold widthI at hw; omega)
  rw [e]
  intro h2
  have : ((n.toNat / 2 ^ (Lib.bitLen n.toNat - 1) : Nat) : Int) = 0 := by
    rw [Int.natCast_ediv, Int.natCast_pow, Int.toNat_of_nonneg h0]
    exact h2
  exact h (by exact_mod_cast this)
theorem widthI_mono {x y : Int} (h : x ≤ y) : widthI x ≤ widthI y := by
  have := Pl.width_mono (x := x.toNat) (y := y.toNat) (by omega)
  unfold widthI
  omega

set_option maxHeartbeats 1600000 in
theorem boundsFit_walk (h hl hh m : Bool) (lo hi v n : Int) (w : World) (wl : InI lo) (wh : InI hi) (wv : (Lit.int .i64 v).wf = true) (wn0 : (Lit.int .u64 n).wf = true) :
    Calls Try.prog 7 #[.agg #[.bool h, .bool hl, .bool hh, .bool m, .int .i64 lo, .int .i64 hi], .int .i64 v, .int .u64 n] w fun e w' => e = .returned (.bool true) ∧ Below w.heap.size w w' := by
  obtain ⟨n0, n1⟩ := bd_u64 wn0
  clear wn0
  have hz := shr_zero n n0 n1
  have hbd := widthI_bd n
  have hnz := shr_not n n0
  obtain ⟨x, hx⟩ : ∃ x, x = widthI n := ⟨_, rfl⟩
  rw [← hx] at hz hbd hnz
  have cw := hide (fun w => hx ▸ width_any n w n0 n1)
  clear hx n1
  have hq : 0 < x → (n / 2 ^ (x.toNat - 1) == 0) = false := fun h => by
    have := hnz h
    rw [show (x - 1).toNat = x.toNat - 1 from by omega] at this
    simpa using this
  clear hnz
  obtain ⟨hx0, hx1⟩ := hbd
  cases hs : spanB h hl hh lo hi
  · have hspan := hide (fun w => span_any h hl hh m lo hi wl wh w)
    rw [hs] at hspan
    clear hs
    by_cases hp : 0 < x
    all_goals
      first
        | (have hq' := hq hp; clear hq)
        | clear hq
      go_enter Try.func7, Try.ntmps7
      go_wp2_with (fail)
      refine (hspan.out _).mono ?_
      rintro e w1 ⟨rfl, hb1⟩
      go_wp2_with (fail)
      refine (cw.out _).mono ?_
      rintro e w2 ⟨rfl, rfl⟩
      go_wp2_with (fail)
      refine (awake08_any _).mono ?_
      rintro e w2 ⟨rfl, hb2⟩
      go_wp2
    all_goals
      go_ret
      exact ⟨rfl, below_next (below_call hb1) hb2⟩
  · obtain ⟨rfl, rfl, rfl, hlh⟩ : h = true ∧ hl = true ∧ hh = true ∧ lo ≤ hi := by
      unfold spanB at hs
      simp at hs
      exact ⟨hs.1.1.1, hs.1.1.2, hs.1.2, hs.2⟩
    have hv : spanV true true true lo hi = hi - lo := by unfold spanV; rw [hs]; rfl
    have hspan := hide (fun w => span_any true true true m lo hi wl wh w)
    rw [hs, hv] at hspan
    clear hs hv
    have hv2 := bd_i64 wv
    clear wv
    by_cases hin : lo ≤ v ∧ v ≤ hi
    · have hwi : withinB true true true lo hi v = true := by unfold withinB; simp [hin]
      have cin := hide (fun w => within_any true true true m lo hi v w)
      rw [hwi] at cin
      clear hwi
      have hsub := u64_sub wl (show InI v from hv2) hin.1
      have hwd := widthI_mono (x := v - lo) (y := hi - lo) (by omega)
      have hd1 : v - lo ≤ hi - lo := by omega
      have cd := hide (fun w => width_any (v - lo) w (by omega) (by unfold InI at wl; omega))
      have cs := hide (fun w => width_any (hi - lo) w (by omega) (by unfold InI at wl wh; omega))
      have hwl := hide wl
      have hwh := hide wh
      clear wl wh hv2 hlh hin
      by_cases hp : 0 < x
      all_goals
        first
          | (have hq' := hq hp; clear hq)
          | clear hq
        go_enter Try.func7, Try.ntmps7
        go_wp2_with (fail)
        refine (hspan.out _).mono ?_
        rintro e w1 ⟨rfl, hb1⟩
        go_wp2_with (fail)
        refine (cw.out _).mono ?_
        rintro e w2 ⟨rfl, rfl⟩
        go_wp2_with (fail)
        refine (awake08_any _).mono ?_
        rintro e w2 ⟨rfl, hb2⟩
        have hb12 := below_next hb1 hb2
        have hc := old_cells hb12
        go_wp2_with (first
          | (go_at_call 30; refine (cin.out _).mono ?_; rintro e w3 ⟨rfl, hb3⟩; have hb123 := below_next hb12 hb3; clear hc; have hc := old_cells hb123))
      all_goals
        refine (cd.out _).mono ?_
        rintro e w4 ⟨rfl, rfl⟩
        go_wp2_with (fail)
        refine (cs.out _).mono ?_
        rintro e w4 ⟨rfl, rfl⟩
        go_wp2
        go_ret
        exact ⟨rfl, below_call hb123⟩
    · have hwi : withinB true true true lo hi v = false := by unfold withinB; simp; omega
      have cin := hide (fun w => within_any true true true m lo hi v w)
      rw [hwi] at cin
      clear hwi
      have hwl := hide wl
      have hwh := hide wh
      clear wl wh hv2 hlh hin
      by_cases hp : 0 < x
      all_goals
        first
          | (have hq' := hq hp; clear hq)
          | clear hq
        go_enter Try.func7, Try.ntmps7
        go_wp2_with (fail)
        refine (hspan.out _).mono ?_
        rintro e w1 ⟨rfl, hb1⟩
        go_wp2_with (fail)
        refine (cw.out _).mono ?_
        rintro e w2 ⟨rfl, rfl⟩
        go_wp2_with (fail)
        refine (awake08_any _).mono ?_
        rintro e w2 ⟨rfl, hb2⟩
        have hb12 := below_next hb1 hb2
        have hc := old_cells hb12
        go_wp2_with (first
          | (go_at_call 30; refine (cin.out _).mono ?_; rintro e w3 ⟨rfl, hb3⟩; have hb123 := below_next hb12 hb3; clear hc; have hc := old_cells hb123))
      all_goals
        go_ret
        exact ⟨rfl, below_call hb123⟩

end Go.Proofs.Ythflgoigbgnkoaa
