import Derived.Test.YthflgoigbgnkoaaLawRead
import Derived.Test.YthflgoigbgnkoaaJoin
namespace Go.Proofs.Ythflgoigbgnkoaa
open Go.RowKit

/-- A condition on worlds that stays while nothing but new memory comes. -/
theorem stay_step {S : World → Prop} (h : ∀ w1 w2, S w1 → Below w1.heap.size w1 w2 → S w2) {w1 w2 : World} (h1 : S w1) (hb : Below w1.heap.size w1 w2) : S w2 := h _ _ h1 hb

def WriteRel (ls : List (List UInt8)) (w0 : World) (b i : Value) (wr : World) : Prop :=
  ∃ (k : Nat) (A : Option Addr) (c m : Nat), k ≤ ls.length ∧ k ≤ 40 ∧ m ≤ 500 * k ∧ i = .int .i64 (k : Int) ∧ b = .slice A m c ∧ wr.ownsRow w0.heap.size 5 1 (.slice A m c) m (bv (ls.take k).flatten) ∧ Below w0.heap.size w0 wr ∧ Hid (m = (ls.take k).flatten.length)

set_option maxHeartbeats 1600000 in
theorem octetsWrite_main (v u : Int) (Ap : Option Addr) (np cp : Nat) (ls : List (List UInt8)) (A1 : Option Addr) (n1 c1 : Nat) (a : List UInt8) (A2 : Option Addr) (n2 c2 : Nat) (b : List UInt8) (w : World)
    (v0 : -9223372036854775808 ≤ v) (v1 : v ≤ 9223372036854775807) (u0 : 0 ≤ u) (u1 : u < 18446744073709551616) (hp : RdP w Ap np cp ls) (h1 : Rd w A1 n1 c1 (bv a)) (h2 : Rd w A2 n2 c2 (bv b)) (gp : np ≤ 40) (g1 : n1 ≤ 3000) (g2 : n2 ≤ 3000) :
    Calls Try.prog 11 #[.int .i64 v, .int .u64 u, .slice Ap np cp, .slice A1 n1 c1, .slice A2 n2 c2] w fun e w' => e = .returned (.bool true) ∧ Below w.heap.size w w' := by
  obtain ⟨i0, hi, hz0, hz1, hz2⟩ := info_parts Try.info_byte
  have hl := hp.length
  have HP := hide hp
  have H1 := hide h1
  have H2 := hide h2
  have HL := hide hl
  clear hp h1 h2 hl
  have k1 := hide (fun w => signed_any v w)
  have k2 := hide (fun w => refSigned_any v v0 v1 w)
  have k3 := hide (fun w => unsigned_any u u0 w)
  have k4 := hide (fun w => refUnsigned_any u u0 u1 w)
  have k5 := hide (fun w => groups_any u u0 u1 w)
  have k6 := hide (fun w => refGroups_any u u0 u1 w)
  have k8 := hide (fun A1 n1 c1 w h1 A2 n2 c2 h2 => compare_any A1 A2 n1 c1 n2 c2 a b w h1 h2)
  have k9 := hide (fun A1 n1 c1 w h1 A2 n2 c2 h2 => refCompare_any A1 A2 n1 c1 n2 c2 a b w h1 h2)
  generalize Pl.slenF 7 v = s1 at *
  generalize Pl.be s1 v = x1 at *
  generalize Pl.dlenF 256 7 u = s2 at *
  generalize Pl.be s2 u = x2 at *
  generalize Pl.dlenF 128 9 u = s3 at *
  generalize Pl.gr s3 u = x3 at *
  generalize Pl.cmpB a b = r at *
  go_enter Try.func11, Try.ntmps11
  go_wp2
  go_loopw [11, 12] (WriteRel ls w) (fun _ i _ => np - (intOf i).toNat)
  case atStart => exact ⟨0, none, 0, 0, Nat.zero_le _, by omega, by omega, rfl, rfl, World.ownsRow_nil _ _ _ _, Below.refl _ _, rfl⟩
  case round =>
    obtain ⟨k, B, cb, m, hk, hk40, hm500, rfl, rfl, hown, hb, hmm⟩ := hrel
    by_cases hlt : k < np
    · have hkl : k < ls.length := by have := HL.out; omega
      obtain ⟨bb, o, A', n', c', rfl, hbz, hcell, hrd⟩ := RdP.at_ (HP.out.below hb (Nat.le_refl _)) hkl
      have hn' := hrd.lenmax
      by_cases h500 : n' ≤ 500
      · have hl' := RdB.length hrd
        have hsucc := flat_take_succ ls k hkl
        have hmn : m + n' = (ls.take (k + 1)).flatten.length := by rw [hsucc, List.length_append, ← hmm.out, ← hl']
        have hmb : m + n' ≤ 1099511627776 := by omega
        have HM := hide hmn
        have HS := hide hsucc
        clear hl' hsucc hmn
        go_wp2_with (at_builtin; refine wpList_app _ rfl (.tmp 41) (.tmp 45) _ rfl w.heap.size 5 i0 (.int .u8 0) 1 Try.underlying27 hi hz0 hz1 hz2 rfl _ _ _ rfl hown _ _ _ _ rfl hrd (bv_one _) hmb (by omega) ?_ ?_)
        · exact hb.size
        · intro A1 c1 w1 hown1 hg1 hl1
          have hbel := hb.grown hg1 hb.size (fun j hj => (hown.lt j hj).1)
          have HO := hide hown1
          clear hown1 hg1 hl1 hb
          go_wp2
          go_roundw
          case measure => simp [intOf]; omega
          case rel =>
            refine ⟨k + 1, A1, c1, m + n', by omega, by omega, by omega, by go_num, rfl, ?_, hbel, HM.out⟩
            rw [HS.out, bv_append]
            exact HO.out
      · go_wp2_with (fail)
        refine (awake02_any _).mono ?_
        rintro e w1 ⟨rfl, hb1⟩
        have hbel := below_next hb hb1
        go_wp2
        go_ret
        exact ⟨rfl, hbel⟩
    · have hkn : k = ls.length := by have := HL.out; omega
      have hall : Rd wr B m cb (bv ls.flatten) := by
        have := Rd.of_own hown
        rwa [hkn, List.take_length] at this
      have hm := hmm.out
      rw [hkn, List.take_length] at hm
      have hmb : m ≤ 1099511627776 := by omega
      have k7 := hide (fun w (h : RdP w Ap np cp ls) => join_any Ap np cp ls w h (by omega))
      rw [← hm] at k7
      have hA := H1.out.below hb (Nat.le_refl _)
      have hBb := H2.out.below hb (Nat.le_refl _)
      have hPp := HP.out.below hb (Nat.le_refl _)
      clear hown hmm hm
      go_wp2_with (fail)
      refine (ownByte_any A1 n1 c1 a 71 _ hA (by omega)).mono ?_
      rintro e w1 ⟨rfl, hown, hb1⟩
      have hin : Rd w1 (some ⟨wr.heap.size, 0, none⟩) n1 (n1 + 3) (bv a) := by
        have hl := RdB.length hA
        have := Rd.of_full hown (n := n1) (by omega)
        rwa [List.take_left' (by rw [bv_length]; omega)] at this
      obtain ⟨S, hS, R1⟩ : ∃ S : World → Prop, (S = fun w' => Rd w' (some ⟨wr.heap.size, 0, none⟩) (n1 + 3) (n1 + 3) (bv a ++ List.replicate 3 (.int .u8 71)) ∧ Rd w' (some ⟨wr.heap.size, 0, none⟩) n1 (n1 + 3) (bv a) ∧ Rd w' A1 n1 c1 (bv a) ∧ Rd w' A2 n2 c2 (bv b) ∧ RdP w' Ap np cp ls ∧ Rd w' B m cb (bv ls.flatten) ∧ Below w.heap.size w w') ∧ S w1 :=
        ⟨_, rfl, Rd.of_own hown, hin, hA.below hb1 (Nat.le_refl _), hBb.below hb1 (Nat.le_refl _), hPp.below hb1 (Nat.le_refl _), hall.below hb1 (Nat.le_refl _), below_next hb hb1⟩
      have step : Hid (∀ w1 w2, S w1 → Below w1.heap.size w1 w2 → S w2) := by
        subst hS
        exact fun _ _ h hb => ⟨h.1.below hb (Nat.le_refl _), h.2.1.below hb (Nat.le_refl _), h.2.2.1.below hb (Nat.le_refl _), h.2.2.2.1.below hb (Nat.le_refl _), h.2.2.2.2.1.below hb (Nat.le_refl _), h.2.2.2.2.2.1.below hb (Nat.le_refl _), below_next h.2.2.2.2.2.2 hb⟩
      have HS : Hid (∀ w', S w' → Rd w' (some ⟨wr.heap.size, 0, none⟩) (n1 + 3) (n1 + 3) (bv a ++ List.replicate 3 (.int .u8 71)) ∧ Rd w' (some ⟨wr.heap.size, 0, none⟩) n1 (n1 + 3) (bv a) ∧ Rd w' A1 n1 c1 (bv a) ∧ Rd w' A2 n2 c2 (bv b) ∧ RdP w' Ap np cp ls ∧ Rd w' B m cb (bv ls.flatten) ∧ Below w.heap.size w w') := by
        subst hS
        exact fun _ h => h
      clear hS hown hin hb1 hA hBb hPp hall hb
      go_wp2_with (fail)
      refine (awake02_any _).mono ?_
      rintro e w2 ⟨rfl, hb2⟩
      have R2 := step.out _ _ R1 hb2
      clear hb2 R1
      go_wp2_with (fail)
      refine (k1.out _).mono ?_
      rintro e w3 ⟨A3, c3, rfl, hf3⟩
      have R3 := step.out _ _ R2 hf3.below
      clear R2
      go_wp2_with (fail)
      refine (k2.out _).mono ?_
      rintro e w4 ⟨A4, c4, rfl, hf4⟩
      have R4 := step.out _ _ R3 hf4.below
      clear R3
      go_wp2_with (fail)
      refine (sameBytes_any _ _ _ _ _ _ _ _ _ (hf3.rd.below hf4.below (Nat.le_refl _)) hf4.rd).mono ?_
      rintro e w5 ⟨rfl, rfl⟩
      clear hf3 hf4
      rw [decide_eq_true (rfl : x1 = x1)]
      go_wp2_with (fail)
      refine (k3.out _).mono ?_
      rintro e w5 ⟨A5, c5, rfl, hf5⟩
      have R5 := step.out _ _ R4 hf5.below
      clear R4
      go_wp2_with (fail)
      refine (k4.out _).mono ?_
      rintro e w6 ⟨A6, c6, rfl, hf6⟩
      have R6 := step.out _ _ R5 hf6.below
      clear R5
      go_wp2_with (fail)
      refine (sameBytes_any _ _ _ _ _ _ _ _ _ (hf5.rd.below hf6.below (Nat.le_refl _)) hf6.rd).mono ?_
      rintro e w7 ⟨rfl, rfl⟩
      clear hf5 hf6
      rw [decide_eq_true (rfl : x2 = x2)]
      go_wp2_with (fail)
      refine (k5.out _).mono ?_
      rintro e w7 ⟨A7, c7, rfl, hf7⟩
      have R7 := step.out _ _ R6 hf7.below
      clear R6
      go_wp2_with (fail)
      refine (k6.out _).mono ?_
      rintro e w8 ⟨A8, c8, rfl, hf8⟩
      have R8 := step.out _ _ R7 hf8.below
      clear R7
      go_wp2_with (fail)
      refine (sameBytes_any _ _ _ _ _ _ _ _ _ (hf7.rd.below hf8.below (Nat.le_refl _)) hf8.rd).mono ?_
      rintro e w9 ⟨rfl, rfl⟩
      clear hf7 hf8
      rw [decide_eq_true (rfl : x3 = x3)]
      go_wp2_with (fail)
      refine (k7.out _ (HS.out _ R8).2.2.2.2.1).mono ?_
      rintro e w9 ⟨A9, c9, rfl, hf9⟩
      have R9 := step.out _ _ R8 hf9.below
      clear R8
      go_wp2_with (fail)
      refine (sameBytes_any _ _ _ _ _ _ _ _ _ hf9.rd (HS.out _ R9).2.2.2.2.2.1).mono ?_
      rintro e w10 ⟨rfl, rfl⟩
      clear hf9
      rw [decide_eq_true (rfl : ls.flatten = ls.flatten)]
      go_wp2_with (fail)
      refine (k8.out _ _ _ _ (HS.out _ R9).2.1 _ _ _ (HS.out _ R9).2.2.2.1).mono ?_
      rintro e w10 ⟨rfl, rfl⟩
      go_wp2_with (fail)
      refine (k9.out _ _ _ _ (HS.out _ R9).2.2.1 _ _ _ (HS.out _ R9).2.2.2.1).mono ?_
      rintro e w10 ⟨rfl, rfl⟩
      have hrr : (r == r) = true := by simp
      go_wp2_with (fail)
      refine (keptByte_any _ n1 _ _ _ a 71 _ (HS.out _ R9).1 (HS.out _ R9).2.2.1).mono ?_
      rintro e w10 ⟨rfl, q, rfl⟩
      have hend := below_drewN q (HS.out _ R9).2.2.2.2.2.2
      go_wp2
      go_ret
      exact ⟨rfl, hend⟩

theorem octetsWrite_walk (v u : Int) (Ap : Option Addr) (np cp : Nat) (ls : List (List UInt8)) (A1 : Option Addr) (n1 c1 : Nat) (a : List UInt8) (A2 : Option Addr) (n2 c2 : Nat) (b : List UInt8) (w : World)
    (hv : (Lit.int .i64 v).wf = true) (hu : (Lit.int .u64 u).wf = true) (hp : RdP w Ap np cp ls) (h1 : Rd w A1 n1 c1 (bv a)) (h2 : Rd w A2 n2 c2 (bv b)) :
    Calls Try.prog 11 #[.int .i64 v, .int .u64 u, .slice Ap np cp, .slice A1 n1 c1, .slice A2 n2 c2] w fun e w' => e = .returned (.bool true) ∧ Below w.heap.size w w' := by
  obtain ⟨v0, v1⟩ := bd_i64 hv
  obtain ⟨u0, u1⟩ := bd_u64 hu
  have m1 := h1.lenmax
  have m2 := h2.lenmax
  have m3 := hp.lenmax
  by_cases g1 : np ≤ 40
  · by_cases g2 : n1 ≤ 3000
    · by_cases g3 : n2 ≤ 3000
      · exact octetsWrite_main v u Ap np cp ls A1 n1 c1 a A2 n2 c2 b w v0 v1 u0 u1 hp h1 h2 g1 g2 g3
      · clear hp h1 h2 hv hu
        go_enter Try.func11, Try.ntmps11
        go_wp2_with (fail)
        refine (awake02_any _).mono ?_
        rintro e w1 ⟨rfl, hb1⟩
        go_wp2
        go_ret
        exact ⟨rfl, hb1⟩
    · clear hp h1 h2 hv hu
      go_enter Try.func11, Try.ntmps11
      go_wp2_with (fail)
      refine (awake02_any _).mono ?_
      rintro e w1 ⟨rfl, hb1⟩
      go_wp2
      go_ret
      exact ⟨rfl, hb1⟩
  · clear hp h1 h2 hv hu
    go_enter Try.func11, Try.ntmps11
    go_wp2_with (fail)
    refine (awake02_any _).mono ?_
    rintro e w1 ⟨rfl, hb1⟩
    go_wp2
    go_ret
    exact ⟨rfl, hb1⟩

end Go.Proofs.Ythflgoigbgnkoaa
