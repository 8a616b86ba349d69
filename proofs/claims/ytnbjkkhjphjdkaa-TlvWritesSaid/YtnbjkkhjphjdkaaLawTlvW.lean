import Derived.Test.YtnbjkkhjphjdkaaElem
import Derived.Deep.RegionHeld3
namespace Go.Proofs.Ytnbjkkhjphjdkaa
open Go.RowKit

theorem below_drewN {B : Nat} {a : World} : ∀ (q : Nat) {w : World}, Below B a w → Below B a (w.drewN q)
  | 0, _, h => h
  | q + 1, w, h => by
    have := below_drewN q (w := w) h
    exact ⟨this.os, this.tape, this.output, this.size, this.block⟩

/-- Fresh octets, as long as nothing but new memory comes. -/
theorem Fresh.later {w w' : World} {T : TypeId} {A : Option Addr} {n c : Nat} {xs : List Value} (h : Fresh w w' T A n c xs) : ∀ w'', Below w'.heap.size w' w'' → Rd w'' A n c xs :=
  fun _ hb => h.rd.below hb (Nat.le_refl _)

/-- One slice in a block that has been made, read later. -/
theorem RdP.one_later {w w' : World} {A : Option Addr} {n c : Nat} {a : List UInt8} {t : TypeId} (hb : Below (w.alloc (.cells #[.slice A n c] t)).heap.size (w.alloc (.cells #[.slice A n c] t)) w') (h : Rd w' A n c (bv a)) : RdP w' (some ⟨w.heap.size, 0, none⟩) 1 1 [a] := by
  have hc : w'.cell? ⟨w.heap.size, 0, none⟩ = some (.slice A n c) := (hb.cell (p := ⟨w.heap.size, 0, none⟩) (by simp)).trans (by simp)
  refine ⟨[.slice A n c], ⟨rfl, by omega, by unfold maxLen; omega, fun _ => ⟨_, _, rfl, fun i x hx => ?_⟩⟩, rfl, fun i l hi => ?_⟩
  · match i, hx with
    | 0, hx => simp at hx; subst hx; simpa using hc
  · match i, hi with
    | 0, hi => simp at hi; subst hi; exact ⟨_, _, _, rfl, h⟩

theorem keepTag {T : World → Prop} {wa wb : World} {p q : Addr} {u v : Value} (hT : Hid (∀ w1 w2, T w1 → Below w1.heap.size w1 w2 → T w2)) (h : wa.cell? p = some u ∧ wa.cell? q = some v ∧ T wa) (hb : Below wa.heap.size wa wb) : wb.cell? p = some u ∧ wb.cell? q = some v ∧ T wb :=
  ⟨(hb.cell (World.block_lt_of_cell? wa _ h.1)).trans h.1, (hb.cell (World.block_lt_of_cell? wa _ h.2.1)).trans h.2.1, hT.out _ _ h.2.2 hb⟩

def TwRel (ls : List (List UInt8)) (B0 : Nat) (w0 : World) (b i : Value) (wr : World) : Prop :=
  ∃ (k : Nat) (A : Option Addr) (c m : Nat), k ≤ ls.length ∧ k ≤ 20 ∧ m ≤ 500 * k ∧ i = .int .i64 (k : Int) ∧ b = .slice A m c ∧ wr.ownsRow B0 5 1 (.slice A m c) m (bv (ls.take k).flatten) ∧ Below B0 w0 wr ∧ Hid (m = (ls.take k).flatten.length)

set_option maxHeartbeats 3200000 in
theorem tlvWrites_main (cl no : Int) (made : Bool) (len : Int) (Ap : Option Addr) (np cp : Nat) (ls : List (List UInt8)) (w : World)
    (n1 : no ≤ 9223372036854775807) (l1 : len ≤ 9223372036854775807) (hp : RdP w Ap np cp ls) (gp : np ≤ 20) :
    Calls Try.prog 3 #[.agg #[.int .i64 cl, .int .i64 no], .bool made, .int .i64 len, .slice Ap np cp] w fun e w' => e = .returned (.bool true) ∧ Below w.heap.size w w' := by
  obtain ⟨i0, hi, hz0, hz1, hz2⟩ := info_parts Try.info_byte
  have hl := hp.length
  have HP := hide (hp.alloc (.cells #[.int .i64 cl, .int .i64 no] 23))
  have HL := hide hl
  clear hp hl
  go_enter Try.func3, Try.ntmps3
  have hw0 : ((w.alloc (.cells #[.int .i64 cl, .int .i64 no] 23)).cell? ⟨w.heap.size, 0, none⟩ = some (.int .i64 cl) ∧ (w.alloc (.cells #[.int .i64 cl, .int .i64 no] 23)).cell? ⟨w.heap.size, 1, none⟩ = some (.int .i64 no)) ∧ Below w.heap.size w (w.alloc (.cells #[.int .i64 cl, .int .i64 no] 23)) := ⟨⟨by simp, by simp⟩, (Below.refl _ _).alloc (Nat.le_refl _) _⟩
  go_wp2
  generalize w.alloc (.cells #[.int .i64 cl, .int .i64 no] 23) = W at *
  have HW := hide hw0
  clear hw0
  go_loopw [9, 10] (TwRel ls W.heap.size W) (fun _ i _ => np - (intOf i).toNat)
  case atStart => exact ⟨0, none, 0, 0, Nat.zero_le _, by omega, by omega, rfl, rfl, World.ownsRow_nil _ _ _ _, Below.refl _ _, rfl⟩
  case round =>
    obtain ⟨k, B, cb, m, hk, hk40, hm500, rfl, rfl, hown, hb, hmm⟩ := hrel
    by_cases hlt : k < np
    · have hkl : k < ls.length := by have := HL.out; omega
      obtain ⟨bb, o, A', n', c', rfl, hbz, hcell, hrd⟩ := RdP.at_ (HP.out.below hb (Nat.le_refl _)) hkl
      have hn' := hrd.lenmax
      by_cases h500 : n' ≤ 500
      · have hl' := RdB.length hrd
        have hsucc := flat_take_succ ls k hkl
        have hmn : m + n' = (ls.take (k + 1)).flatten.length := by rw [hsucc, List.length_append, ← hmm.out, ← hl']
        have hmb : m + n' ≤ 1099511627776 := by omega
        have HM := hide hmn
        have HS := hide hsucc
        clear hl' hsucc hmn
        go_wp2_with (at_builtin; refine wpList_app _ rfl (.tmp 29) (.tmp 33) _ rfl W.heap.size 5 i0 (.int .u8 0) 1 Try.underlying26 hi hz0 hz1 hz2 rfl _ _ _ rfl hown _ _ _ _ rfl hrd (bv_one _) hmb (by omega) ?_ ?_)
        · exact hb.size
        · intro A1 c1 w1 hown1 hg1 hl1
          have hbel := hb.grown hg1 hb.size (fun j hj => (hown.lt j hj).1)
          have HO := hide hown1
          clear hown1 hg1 hl1 hb
          go_wp2
          go_roundw
          case measure => simp [intOf]; omega
          case rel =>
            refine ⟨k + 1, A1, c1, m + n', by omega, by omega, by omega, by go_num, rfl, ?_, hbel, HM.out⟩
            rw [HS.out, bv_append]
            exact HO.out
      · go_wp2_with (fail)
        refine (awake03_any _).mono ?_
        rintro e w1 ⟨rfl, hb1⟩
        have hbel := HW.out.2.trans ((below_next hb hb1).mono HW.out.2.size)
        go_wp2
        go_ret
        exact ⟨rfl, hbel⟩
    · have hkn : k = ls.length := by have := HL.out; omega
      have hall : Rd wr B m cb (bv ls.flatten) := by
        have := Rd.of_own hown
        rwa [hkn, List.take_length] at this
      have hm := hmm.out
      rw [hkn, List.take_length] at hm
      have hm1 : m ≤ 1000000 := by omega
      have hPp := HP.out.below hb (Nat.le_refl _)
      have hcells := And.intro ((hb.cell (World.block_lt_of_cell? W _ HW.out.1.1)).trans HW.out.1.1) ((hb.cell (World.block_lt_of_cell? W _ HW.out.1.2)).trans HW.out.1.2)
      have hbw : Below w.heap.size w wr := HW.out.2.trans (hb.mono HW.out.2.size)
      have HH := hide (And.intro hcells hbw)
      have kE := hide (fun w (h : RdP w Ap np cp ls) => element_any cl no made Ap np cp ls w n1 h (by omega))
      have kE2 := hide (fun A n c w (h : RdP w A n c [ls.flatten]) => element_any cl no made A n c [ls.flatten] w n1 h (by simp; simp at hm; omega))
      rw [show ([ls.flatten] : List (List UInt8)).flatten = ls.flatten by simp] at kE2
      have kR := hide (fun w (h : Rd w B m cb (bv ls.flatten)) => refElement_any cl no made B m cb ls.flatten w n1 h hm1)
      rw [← hm] at kE kE2
      have kH := hide (fun w => head_any cl no len made w n1 l1)
      have kH2 := hide (fun w => refHead_any cl no len made w n1 l1)
      clear hown hmm hm hcells hbw hb
      generalize headL cl no made (m : Int) ++ ls.flatten = E1 at *
      generalize headL cl no made len = hd at *
      generalize ls.flatten = all at *
      go_wp2_with (fail)
      refine (ownByte_any B m cb all 71 _ hall (by omega)).mono ?_
      rintro e w1 ⟨rfl, hown, hb1⟩
      have hin : Rd w1 (some ⟨wr.heap.size, 0, none⟩) m (m + 3) (bv all) := by
        have hl := RdB.length hall
        have := Rd.of_full hown (n := m) (by omega)
        rwa [List.take_left' (by rw [bv_length]; omega)] at this
      obtain ⟨T, hS, R1⟩ : ∃ T : World → Prop, (T = fun w' => Rd w' (some ⟨wr.heap.size, 0, none⟩) (m + 3) (m + 3) (bv all ++ List.replicate 3 (.int .u8 71)) ∧ Rd w' (some ⟨wr.heap.size, 0, none⟩) m (m + 3) (bv all) ∧ RdP w' Ap np cp ls ∧ Rd w' B m cb (bv all) ∧ Below w.heap.size w w') ∧ T w1 :=
        ⟨_, rfl, Rd.of_own hown, hin, hPp.below hb1 (Nat.le_refl _), hall.below hb1 (Nat.le_refl _), below_next HH.out.2 hb1⟩
      have step : Hid (∀ w1 w2, T w1 → Below w1.heap.size w1 w2 → T w2) := by
        subst hS
        exact fun _ _ h hb => ⟨h.1.below hb (Nat.le_refl _), h.2.1.below hb (Nat.le_refl _), h.2.2.1.below hb (Nat.le_refl _), h.2.2.2.1.below hb (Nat.le_refl _), below_next h.2.2.2.2 hb⟩
      have HS : Hid (∀ w', T w' → Rd w' (some ⟨wr.heap.size, 0, none⟩) (m + 3) (m + 3) (bv all ++ List.replicate 3 (.int .u8 71)) ∧ Rd w' (some ⟨wr.heap.size, 0, none⟩) m (m + 3) (bv all) ∧ RdP w' Ap np cp ls ∧ Rd w' B m cb (bv all) ∧ Below w.heap.size w w') := by
        subst hS
        exact fun _ h => h
      have stepq : Hid (∀ w1 q, T w1 → T (w1.drewN q)) := by
        subst hS
        exact fun _ q h => ⟨h.1.drewN q, h.2.1.drewN q, h.2.2.1.drewN q, h.2.2.2.1.drewN q, below_drewN q h.2.2.2.2⟩
      have S1 := hide (show w1.drew.cell? ⟨w.heap.size, 0, none⟩ = some (.int .i64 cl) ∧ w1.drew.cell? ⟨w.heap.size, 1, none⟩ = some (.int .i64 no) ∧ T w1.drew from
        ⟨(hb1.cell (World.block_lt_of_cell? wr _ HH.out.1.1)).trans HH.out.1.1, (hb1.cell (World.block_lt_of_cell? wr _ HH.out.1.2)).trans HH.out.1.2, stepq.out _ 1 R1⟩)
      clear hS hown hin hb1 hPp hall R1
      have mk := hide (fun A n c w (h : Rd w A n c (bv all)) => h)
      clear mk
      go_wp2
      go_region_held3 (fun w' => w'.cell? ⟨w.heap.size, 0, none⟩ = some (.int .i64 cl) ∧ w'.cell? ⟨w.heap.size, 1, none⟩ = some (.int .i64 no) ∧ T w')
        (first | with_reducible exact S1.out | with_reducible assumption | with_reducible exact keepTag step ‹_› ‹_› | exact keepTag step ‹_› ((Below.refl _ _).alloc (Nat.le_refl _) _) | exact ⟨(And.left ‹_ ∧ _ ∧ T _›), (And.left (And.right ‹_ ∧ _ ∧ T _›)), stepq.out _ _ (And.right (And.right ‹_ ∧ _ ∧ T _›))⟩)
        (first
          | (go_at_call 9; with_reducible refine (awake03_any _).mono ?_; rintro e w9 ⟨rfl, hb9⟩)
          | (go_at_call 12; with_reducible refine (kH.out _).mono ?_; rintro e w9 ⟨A9, c9, rfl, hf9⟩; have hr9 := hf9.later; have hb9 := hf9.below; clear hf9)
          | (go_at_call 13; with_reducible refine (kH2.out _).mono ?_; rintro e w9 ⟨A9, c9, rfl, hf9⟩; have hr9 := hf9.later; have hb9 := hf9.below; clear hf9)
          | (go_at_call 14; with_reducible refine (kE.out _ ?_).mono ?_; exact (HS.out _ (And.right (And.right ‹_ ∧ _ ∧ T _›))).2.2.1; rintro e w9 ⟨A9, n9, c9, rfl, hf9⟩; have hr9 := hf9.later; have hb9 := hf9.below; clear hf9)
          | (go_at_call 14; with_reducible refine (kE2.out _ _ _ _ ?_).mono ?_; (first | exact RdP.one_later (Below.refl _ _) (HS.out _ (And.right (And.right ‹_ ∧ _ ∧ T _›))).2.1 | exact RdP.one_later hb9 (HS.out _ (And.right (And.right ‹_ ∧ _ ∧ T _›))).2.1); rintro e w9 ⟨A9, n9, c9, rfl, hf9⟩; have hr9 := hf9.later; have hb9 := hf9.below; clear hf9)
          | (go_at_call 15; with_reducible refine (kR.out _ ?_).mono ?_; exact (HS.out _ (And.right (And.right ‹_ ∧ _ ∧ T _›))).2.2.2.1; rintro e w9 ⟨A9, n9, c9, rfl, hf9⟩; have hr9 := hf9.later; have hb9 := hf9.below; clear hf9)
          | (go_at_call 11; with_reducible refine (sameBytes_any _ _ _ _ _ _ hd hd _ ?_ ?_).mono ?_; exact (‹∀ w'', Below _ _ w'' → Rd w'' _ _ _ (bv hd)› _ (by first | assumption | exact Below.refl _ _)); exact (‹∀ w'', Below _ _ w'' → Rd w'' _ _ _ (bv hd)› _ (by first | assumption | exact Below.refl _ _)); rw [decide_eq_true (rfl : hd = hd)]; rintro e w9 ⟨rfl, rfl⟩)
          | (go_at_call 11; with_reducible refine (sameBytes_any _ _ _ _ _ _ E1 E1 _ ?_ ?_).mono ?_; exact (‹∀ w'', Below _ _ w'' → Rd w'' _ _ _ (bv E1)› _ (by first | assumption | exact Below.refl _ _)); exact (‹∀ w'', Below _ _ w'' → Rd w'' _ _ _ (bv E1)› _ (by first | assumption | exact Below.refl _ _)); rw [decide_eq_true (rfl : E1 = E1)]; rintro e w9 ⟨rfl, rfl⟩)
          | (go_at_call 16; with_reducible refine (keptByte_any _ m _ _ _ all 71 _ ?_ ?_).mono ?_; exact (HS.out _ (And.right (And.right ‹_ ∧ _ ∧ T _›))).1; exact (HS.out _ (And.right (And.right ‹_ ∧ _ ∧ T _›))).2.2.2.1; rintro e w9 ⟨rfl, q9, rfl⟩))
      all_goals
        have hend := (HS.out _ (And.right (And.right ‹_ ∧ _ ∧ T _›))).2.2.2.2
        go_wp2
        go_ret
        exact ⟨rfl, hend⟩

theorem tlvWrites_walk (cl no : Int) (made : Bool) (len : Int) (Ap : Option Addr) (np cp : Nat) (ls : List (List UInt8)) (w : World)
    (_hc : -9223372036854775808 ≤ cl ∧ cl ≤ 9223372036854775807) (hn : -9223372036854775808 ≤ no ∧ no ≤ 9223372036854775807) (hl : (Lit.int .i64 len).wf = true) (hp : RdP w Ap np cp ls) :
    Calls Try.prog 3 #[.agg #[.int .i64 cl, .int .i64 no], .bool made, .int .i64 len, .slice Ap np cp] w fun e w' => e = .returned (.bool true) ∧ Below w.heap.size w w' := by
  obtain ⟨l0, l1⟩ := bd_i64 hl
  have m3 := hp.lenmax
  by_cases g1 : np ≤ 20
  · exact tlvWrites_main cl no made len Ap np cp ls w hn.2 l1 hp g1
  · clear hp hl
    go_enter Try.func3, Try.ntmps3
    go_wp2_with (fail)
    refine (awake03_any _).mono ?_
    rintro e w1 ⟨rfl, hb1⟩
    have hb := below_call hb1
    go_wp2
    go_ret
    exact ⟨rfl, hb⟩

end Go.Proofs.Ytnbjkkhjphjdkaa
