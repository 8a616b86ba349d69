import Derived.Test.YtikfogepdmpfaaaWho3
import Derived.Test.YtikfogepdmpfaaaLawBitO
namespace Go.Proofs.Ytikfogepdmpfaaa
open Go.RowKit

def nd (z : Int) : Nat := if z ≤ 0 then 0 else if z < 256 then 1 else if z < 65536 then 2 else 3
theorem nd_step (z : Int) (h0 : 0 < z) (h1 : z < 16777216) : nd z = nd (z / 256) + 1 := by
  unfold nd
  repeat' split
  all_goals omega
theorem nd_zero (z : Int) (h : z ≤ 0) : nd z = 0 := by unfold nd; rw [if_pos h]
theorem nd_dlen (z : Int) (h0 : 0 < z) (h1 : z < 16777216) : Pl.dlenF 256 7 z = nd z := by
  unfold nd
  rw [if_neg (by omega)]
  by_cases a : z < 256
  · rw [if_pos a, Pl.dlenF_lt 256 _ z a]
  · rw [if_neg a, Pl.dlenF_ge 256 6 z (by omega)]
    by_cases b : z < 65536
    · rw [if_pos b, Pl.dlenF_lt 256 _ _ (by omega)]
    · rw [if_neg b, Pl.dlenF_ge 256 5 _ (by omega), Pl.dlenF_lt 256 _ _ (by omega)]
theorem nd_le (z : Int) : nd z ≤ 3 := by
  unfold nd
  repeat' split
  all_goals omega
theorem smallB_len (n : Int) (h0 : 0 ≤ n) (h1 : n < 16777216) : ((smallB n).length : Int) = if n < 64 then 7 else 9 + 8 * (nd n : Int) := by
  by_cases h : n < 64
  · rw [if_pos h, smallB_low n (by omega), Pl.bitsOf_length]
    rfl
  · rw [if_neg h, smallB_high n (by omega), show max n 0 = n by omega]
    simp only [List.length_append, Pl.bitsOf_length, Pl.octB_length, Pl.be_length]
    rw [nd_dlen n (by omega) h1]
    omega

def WWRel (m : Int) (a b : Value) : Prop :=
  ∃ (j : Nat) (z : Int), a = .int .i64 (9 + 8 * (j : Int)) ∧ b = .int .i64 z ∧ 0 ≤ z ∧ z ≤ 100000 ∧ j ≤ 3 ∧ Hid (j + nd z = nd m)

set_option maxRecDepth 100000 in
set_option maxHeartbeats 1600000 in
theorem wholeWidths_walk (v s n0 : Int) (w : World) (hv : (Lit.int .u64 v).wf = true) (hs : (Lit.int .u64 s).wf = true) (_hn : (Lit.int .i64 n0).wf = true) :
    Calls Try.prog 7 #[.int .u64 v, .int .u64 s, .int .i64 n0] w fun e w' => e = .returned (.bool true) ∧ Below w.heap.size w w' := by
  have hv2 : 0 ≤ v ∧ v < 18446744073709551616 := by
    simp [Lit.wf, IntKind.min, IntKind.max, IntKind.signed, IntKind.bits] at hv
    omega
  have hs2 : 0 ≤ s ∧ s < 18446744073709551616 := by
    simp [Lit.wf, IntKind.min, IntKind.max, IntKind.signed, IntKind.bits] at hs
    omega
  have HV := hide hv2
  have HS := hide hs2
  obtain ⟨m, hm⟩ : ∃ m : Int, IntKind.u64.wrap n0 % 100000 = m := ⟨_, rfl⟩
  have hw0 : 0 ≤ IntKind.u64.wrap n0 := by rw [IntKind.wrap_u64]; omega
  have hxm : (IntKind.u64.wrap n0).tmod 100000 = m := by
    rw [Int.tmod_eq_emod_of_nonneg hw0]
    omega
  have hm0 : 0 ≤ m := by omega
  have hm1 : m ≤ 99999 := by omega
  have hsl := hide (smallB_len m hm0 (by omega))
  clear hm hw0 _hn hv hs hv2 hs2
  have WN1 := (Wr.new w w.heap.size 53).alloc (.cells #[.slice none 0 0, .int .i64 0] 53)
  have WN2 := Wr.new (w.alloc (.cells #[.slice none 0 0, .int .i64 0] 53)) w.heap.size 53
  have hb0 := ((Below.refl w.heap.size w).alloc (Nat.le_refl _) (.cells #[.slice none 0 0, .int .i64 0] 53)).alloc (by simp) (.cells #[.slice none 0 0, .int .i64 0] 53)
  rw [show (w.alloc (.cells #[.slice none 0 0, .int .i64 0] 53)).heap.size = w.heap.size + 1 by simp] at WN2
  have N1 := hide WN1
  have N2 := hide WN2
  have B0 := hide hb0
  clear WN1 WN2 hb0
  go_enter Try.func7, Try.ntmps7
  go_wp2_with (fail)
  refine (wBetween_any v s w.heap.size w.heap.size none [] _ N1.out (by simp) B0.out.size HV.out.1 HV.out.2 HS.out.1 HS.out.2).mono ?_
  rintro e w1 ⟨rfl, g1, hw1, hu1, hm1'⟩
  rw [List.nil_append] at hw1
  have W1 := hide hw1
  have V1 := hide (N2.out.upd hu1 (by omega) (by simp) (by simp) (.inl rfl))
  have hs1 : Sep (w.heap.size + 1) none w.heap.size g1 := N2.out.sepmv hm1' ⟨by omega, by simp, by simp, .inl rfl⟩
  have S1 := hide hs1.symm
  have B1 := hide (B0.out.trans (hu1.below (B := w.heap.size) (Nat.le_refl _) (fun k hk => by cases hk) B0.out.size))
  clear hw1 hu1 hm1' N1 N2 B0 hs1
  go_wp2_with (fail)
  refine (wSmall_any m w.heap.size (w.heap.size + 1) none [] _ V1.out (by simp) B1.out.size (by omega)).mono ?_
  rintro e w2 ⟨rfl, g2, hw2, hu2, hm2⟩
  rw [List.nil_append] at hw2
  have V2 := hide hw2
  have W2 := hide (W1.out.sep hu2 S1.out)
  have B2 := hide (B1.out.trans (hu2.below (B := w.heap.size) (by omega) (fun k hk => by cases hk) B1.out.size))
  clear hw2 hu2 hm2 V1 W1 S1 B1
  have hbl : ((Pl.bitsOf (min v s) (wid s)).length : Int) = widthI s := by
    rw [Pl.bitsOf_length]
    rfl
  have kL1 := (fun W (hb : Below w2.heap.size w2 W) => wLen_any _ _ _ _ _ (W2.out.below hb))
  have kL2 := (fun W (hb : Below w2.heap.size w2 W) => wLen_any _ _ _ _ _ (V2.out.below hb))
  rw [hbl] at kL1
  rw [hsl.out] at kL2
  have KL1 := hide kL1
  have kW := hide (fun W => refWidth_any s W HS.out.1 HS.out.2)
  clear kL1 hbl
  generalize widthI s = WI at *
  by_cases h64 : m < 64
  · rw [if_pos h64] at kL2
    have KL2 := hide kL2
    clear kL2
    go_wp2_with (fail)
    refine (awake17_any _).mono ?_
    rintro e w3 ⟨rfl, hb3⟩
    have l1 := hide (KL1.out _ hb3)
    have l2 := hide (KL2.out _ hb3)
    have B3 := hide (B2.out.trans (hb3.mono B2.out.size))
    clear hb3
    go_wp2_with (fail)
    refine l1.out.mono ?_
    rintro e w4 ⟨rfl, rfl⟩
    go_wp2_with (fail)
    refine (kW.out _).mono ?_
    rintro e w4 ⟨rfl, rfl⟩
    go_wp2_with (fail)
    refine l2.out.mono ?_
    rintro e w4 ⟨rfl, rfl⟩
    go_wp2
    go_ret
    exact ⟨by simp, B3.out⟩
  · rw [if_neg h64] at kL2
    have KL2 := hide kL2
    clear kL2
    go_wp2_with (fail)
    go_loop [9, 10] (WWRel m) (fun _ b => (intOf b).toNat)
    case atStart => exact ⟨0, m, by simp, rfl, hm0, by omega, by omega, by unfold Hid; omega⟩
    case round =>
      obtain ⟨j, z, rfl, rfl, hz0, hz1, hj, hinv⟩ := hrel
      by_cases hz : 0 < z
      · have hst := hide (nd_step z hz (by omega))
        have hj4 : Hid (j + 1 ≤ 3) := by
          have := hst.out
          have := hinv.out
          have := nd_le m
          unfold Hid
          omega
        go_wp2
        go_round
        case rel => exact ⟨j + 1, z / 256, congrArg (Value.int .i64) (by omega), rfl, by omega, by omega, hj4.out, by have := hst.out; have := hinv.out; unfold Hid; omega⟩
        case measure => simp [intOf]; omega
      · have hjm : Hid (j = nd m) := by
          have := hinv.out
          rw [nd_zero z (by omega)] at this
          exact this
        rw [← hjm.out] at KL2
        clear hinv
        go_wp2_with (fail)
        refine (awake17_any _).mono ?_
        rintro e w3 ⟨rfl, hb3⟩
        have l1 := hide (KL1.out _ hb3)
        have l2 := hide (KL2.out _ hb3)
        have B3 := hide (B2.out.trans (hb3.mono B2.out.size))
        clear hb3
        go_wp2_with (fail)
        refine l1.out.mono ?_
        rintro e w4 ⟨rfl, rfl⟩
        go_wp2_with (fail)
        refine (kW.out _).mono ?_
        rintro e w4 ⟨rfl, rfl⟩
        go_wp2_with (fail)
        refine l2.out.mono ?_
        rintro e w4 ⟨rfl, rfl⟩
        go_wp2
        go_ret
        exact ⟨by simp, B3.out⟩
end Go.Proofs.Ytikfogepdmpfaaa
