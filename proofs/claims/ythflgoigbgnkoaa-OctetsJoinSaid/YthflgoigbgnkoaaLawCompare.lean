import Derived.Test.YthflgoigbgnkoaaAwake02
import Derived.Test.YthflgoigbgnkoaaOpen
namespace Go.Proofs.Ythflgoigbgnkoaa
open Go.RowKit

/-- A number taken modulo a length and one. -/
theorem mod_len (cut : Int) (n : Nat) : ∃ k : Nat, k ≤ n ∧ (IntKind.u64.wrap cut).tmod ((n : Int) + 1) = (k : Int) := by
  have h0 : 0 ≤ IntKind.u64.wrap cut := wrap_u64_nonneg cut
  refine ⟨((IntKind.u64.wrap cut).tmod ((n : Int) + 1)).toNat, ?_, ?_⟩
  · have h1 := Int.tmod_nonneg ((n : Int) + 1) h0
    have h2 := Int.tmod_lt_of_pos (IntKind.u64.wrap cut) (show (0 : Int) < (n : Int) + 1 by omega)
    omega
  · rw [Int.toNat_of_nonneg (Int.tmod_nonneg _ h0)]

theorem octetsCompare_core (A1 : Option Addr) (n1 c1 : Nat) (a : List UInt8) (A2 : Option Addr) (n2 c2 : Nat) (b : List UInt8) (cut : Int) (w : World) (h1 : Rd w A1 n1 c1 (bv a)) (h2 : Rd w A2 n2 c2 (bv b)) (g1 : n1 ≤ 2000) (g2 : n2 ≤ 2000)
    (r s : Int) (q : Bool) (hr : Pl.cmpB a b = r) (hs : Pl.cmpB b a = s) (hq : decide (a = b) = q) (e1 : (r == -s) = true) (e2 : (r == 0) = q) (hb : -1 ≤ s ∧ s ≤ 1) :
    Calls Try.prog 4 #[.slice A1 n1 c1, .slice A2 n2 c2, .int .i64 cut] w fun e w' => e = .returned (.bool true) ∧ Below w.heap.size w w' := by
  have m1 := h1.cap
  obtain ⟨k, hk, hT⟩ := mod_len cut n1
  have hl := RdB.length h1
  have k1 := hide (fun w (h1 : Rd w A1 n1 c1 (bv a)) (h2 : Rd w A2 n2 c2 (bv b)) => hr ▸ compare_any _ _ _ _ _ _ a b w h1 h2)
  have k2 := hide (fun w (h1 : Rd w A1 n1 c1 (bv a)) (h2 : Rd w A2 n2 c2 (bv b)) => hs ▸ compare_any _ _ _ _ _ _ b a w h2 h1)
  have k3 := hide (fun w (h1 : Rd w A1 n1 c1 (bv a)) (h2 : Rd w A2 n2 c2 (bv b)) => hq ▸ sameBytes_any _ _ _ _ _ _ a b w h1 h2)
  have ht := Pl.cmpB_take k a (by omega)
  have HL := hide hl
  have HT := hide ht
  have H1 := hide h1
  have H2 := hide h2
  clear hl ht h1 h2 hr hs hq
  subst e2
  by_cases hlt : k < n1
  all_goals
    go_enter Try.func4, Try.ntmps4
    go_wp2_with (fail)
    refine (k1.out _ H1.out H2.out).mono ?_
    rintro e w' ⟨rfl, rfl⟩
    go_wp2_with (fail)
    refine (k2.out _ H1.out H2.out).mono ?_
    rintro e w' ⟨rfl, rfl⟩
    go_wp2_with (fail)
    refine (awake02_any _).mono ?_
    rintro e w1 ⟨rfl, hb1⟩
    go_wp2_with (fail)
    refine (k3.out _ (H1.out.below hb1 (Nat.le_refl _)) (H2.out.below hb1 (Nat.le_refl _))).mono ?_
    rintro e w' ⟨rfl, rfl⟩
    go_wp2_with (fail)
    refine (compare_any _ _ _ _ _ _ (a.take k) a _ (bv_take a k ▸ (H1.out.take hk).below hb1 (Nat.le_refl _)) (H1.out.below hb1 (Nat.le_refl _))).mono ?_
    rintro e w' ⟨rfl, rfl⟩
    rw [HT.out]
    have := HL.out
  · rw [if_pos (by omega)]
    go_wp2
    go_ret
    exact ⟨rfl, hb1⟩
  · rw [if_neg (by omega)]
    go_wp2
    go_ret
    exact ⟨rfl, hb1⟩

theorem octetsCompare_walk (A1 : Option Addr) (n1 c1 : Nat) (a : List UInt8) (A2 : Option Addr) (n2 c2 : Nat) (b : List UInt8) (cut : Int) (w : World) (h1 : Rd w A1 n1 c1 (bv a)) (h2 : Rd w A2 n2 c2 (bv b)) (_hc : (Lit.int .i64 cut).wf = true) :
    Calls Try.prog 4 #[.slice A1 n1 c1, .slice A2 n2 c2, .int .i64 cut] w fun e w' => e = .returned (.bool true) ∧ Below w.heap.size w w' := by
  by_cases hg : n1 ≤ 2000 ∧ n2 ≤ 2000
  · have hneg := Pl.cmpB_neg a b
    have hz := Pl.cmpB_zero a b
    have hrg := Pl.cmpB_range b a
    refine octetsCompare_core A1 n1 c1 a A2 n2 c2 b cut w h1 h2 hg.1 hg.2 _ _ _ rfl rfl rfl ?_ ?_ ?_
    · rw [beq_iff_eq]
      exact hneg
    · rw [Bool.eq_iff_iff]
      simp [hz]
    · omega
  · have m1 := h1.lenmax
    have m2 := h2.lenmax
    clear h1 h2
    by_cases g1 : n1 ≤ 2000
    · have g2 : ¬ n2 ≤ 2000 := by omega
      clear hg
      go_enter Try.func4, Try.ntmps4
      go_wp2_with (fail)
      refine (awake02_any _).mono ?_
      rintro e w1 ⟨rfl, hb1⟩
      go_wp2
      go_ret
      exact ⟨rfl, hb1⟩
    · clear hg
      go_enter Try.func4, Try.ntmps4
      go_wp2_with (fail)
      refine (awake02_any _).mono ?_
      rintro e w1 ⟨rfl, hb1⟩
      go_wp2
      go_ret
      exact ⟨rfl, hb1⟩

end Go.Proofs.Ythflgoigbgnkoaa
