import Derived.Test.YtikfogepdmpfaaaRed5
namespace Go.Proofs.Ytikfogepdmpfaaa
open Go.RowKit
variable {D : Nat → Prop}

theorem rd_in (bs : List UInt8) (a m : Nat) (h : a + m ≤ 8 * bs.length) : Pl.rdE bs a 0 (m : Int) = 0 ∧ Pl.rdA bs a 0 m = a + m ∧ Pl.rdV bs a 0 m = Pl.num (Pl.bitsAt bs a m) := by
  have e1 := Pl.rdE_ok bs a (m : Int) (by unfold Pl.left; omega)
  refine ⟨e1, ?_, ?_⟩
  · unfold Pl.rdA; rw [e1]; rfl
  · unfold Pl.rdV; rw [e1]; rfl

set_option maxRecDepth 100000 in
set_option maxHeartbeats 1600000 in
theorem refROcts_any (p : Nat) (bs : List UInt8) (a : Nat) (e n : Int) (w : World) (h : Rr w p D bs a e) (hn1 : n ≤ 9223372036854775807) :
    Calls Try.prog 56 #[.pointer (some ⟨p, 0, none⟩), .int .i64 n] w (RoPost w p D bs (Pl.rdA bs a e (8 * clOct n)) (Pl.rdE bs a e ((8 * clOct n : Nat) : Int)) (Pl.rdO bs a e (clOct n))) := by
  obtain ⟨i0, hi, hz0, hz1, hz2⟩ := info_parts Try.info_byte
  obtain ⟨m, hm⟩ : ∃ m, clOct n = m := ⟨_, rfl⟩
  rw [hm]
  unfold clOct at hm
  have hle := rdE_le bs a e (8 * m)
  have kL := hide (fun w h => rleft_any (D := D) p bs a w h)
  have H := hide h
  have HD := hide (fun k (hk : w.heap.size ≤ k) => h.dnew (k := k) (Nat.le_trans (Nat.le_of_lt h.lt) hk))
  have hlen := h.inb.2
  have hinb := h.inb.1
  have hps := h.lt
  obtain ⟨_, h2, f2⟩ := h
  have hl : Hid (∀ q, (w.drewN q).cell? ⟨p, 2, none⟩ = some (.int .i64 e) ∧ (w.drewN q).frozen? ⟨p, 2, none⟩ = false) := fun q => ⟨h2, f2⟩
  have hL0 : 0 ≤ Pl.left bs a := by unfold Pl.left; omega
  have hL1 : Pl.left bs a ≤ 8796093022208 := by unfold Pl.left; omega
  have hcs : (n ≤ 0 ∧ m = 0) ∨ (0 < n ∧ n = (m : Int)) := by
    by_cases h1 : n ≤ 0
    · exact .inl ⟨h1, by omega⟩
    · exact .inr ⟨by omega, by omega⟩
  have HINB := hide hinb
  clear hm hinb
  unfold Pl.rdA Pl.rdO
  by_cases he : e = 0
  · subst he
    by_cases hs : Pl.left bs a < ((8 * m : Nat) : Int)
    · have e1 := Pl.rdE_short bs a _ hs
      rw [e1]
      simp only [show ¬ ((3 : Int) = 0) by decide, if_false]
      have hq : Pl.left bs a / 8 < (m : Int) := by omega
      clear e1 hle
      generalize Pl.left bs a = L at *
      rcases hcs with ⟨hn, rfl⟩ | ⟨hn, rfl⟩
      · exfalso
        omega
      · have hm0 : 0 < m := by omega
        clear hs
        go_enter Try.func56, Try.ntmps56
        go_wp2_with (fail)
        refine (kL.out _ H.out.1).mono ?_
        rintro e w' ⟨rfl, q, rfl⟩
        obtain ⟨g2, gf⟩ := hl.out q
        go_wp2
        go_ret
        exact ⟨none, 0, 0, rfl, (H.out.drewN q).setErr 3, ((Upd.refl _ _ _).drewN q).cellp 2 _, World.ownsRow_nil _ _ _ _⟩
    · have e1 := Pl.rdE_ok bs a _ hs
      have HLE := hide (hle e1)
      rw [e1]
      simp only [if_true]
      have hq : ¬ Pl.left bs a / 8 < (m : Int) := by omega
      clear e1 hle hs
      generalize Pl.left bs a = L at *
      rcases hcs with ⟨hn, rfl⟩ | ⟨hn, rfl⟩
      · go_enter Try.func56, Try.ntmps56
        go_wp2_with (fail)
        refine (kL.out _ H.out.1).mono ?_
        rintro e w' ⟨rfl, q, rfl⟩
        go_wp2_with (fail)
        go_loopw [5, 6] (ROcRel D bs p a 0 w) (fun _ _ _ => 0)
        case atStart => exact ⟨0, none, 0, Nat.zero_le _, rfl, rfl, H.out.drewN q, (Upd.refl _ _ _).drewN q, World.ownsRow_nil _ _ _ _⟩
        case round =>
          obtain ⟨k, A1, c1, hk, rfl, rfl, hr, hu, ho⟩ := hrel
          obtain rfl : k = 0 := by omega
          go_wp2
          go_ret
          exact ⟨A1, _, c1, rfl, hr.out, hu.out, ho.out⟩
      · go_enter Try.func56, Try.ntmps56
        go_wp2_with (fail)
        refine (kL.out _ H.out.1).mono ?_
        rintro e w' ⟨rfl, q, rfl⟩
        go_wp2_with (fail)
        go_loopw [5, 6] (ROcRel D bs p a m w) (fun _ i _ => m - (intOf i).toNat)
        case atStart => exact ⟨0, none, 0, Nat.zero_le _, rfl, rfl, H.out.drewN q, (Upd.refl _ _ _).drewN q, World.ownsRow_nil _ _ _ _⟩
        case round =>
          obtain ⟨k, A1, c1, hk, rfl, rfl, hr, hu, ho⟩ := hrel
          by_cases hlt : k < m
          · have kP := refRBits_any p bs (a + 8 * k) 0 8 wr hr.out
            have hc8 : cl32 8 = 8 := by decide
            have hin := rd_in bs (a + 8 * k) 8 (by have := HLE.out; omega)
            rw [hc8, hin.1, hin.2.1, hin.2.2] at kP
            have kP := hide kP
            have hbd := Pl.num_bd (Pl.bitsAt bs (a + 8 * k) 8)
            rw [Pl.bitsAt_length] at hbd
            have zz0 := hbd.1
            have zz1 : Pl.num (Pl.bitsAt bs (a + 8 * k) 8) < 256 := hbd.2
            have hsn := hide (Pl.octsAt_succ bs a k)
            have hb8 := hide (bv_snoc8 (Pl.octsAt bs a k) _ zz0 zz1)
            have hkm : k + 1 ≤ 1099511627776 := by have := HLE.out; omega
            clear hbd hin hc8
            generalize Pl.num (Pl.bitsAt bs (a + 8 * k) 8) = z at *
            go_wp2_with (fail)
            refine kP.out.mono ?_
            rintro e2 w2 ⟨rfl, hr2, hu2⟩
            have R2 := hide hr2
            have U2 := hide (hu.out.trans (Mv.refl _ _) hu2)
            have hO2 := own_upd ho.out hu2 (fun j hj => ⟨by have := (ho.out.lt j hj).1; omega, by simp⟩)
            have O2 := hide (hO2.alloc (.cells #[.int .u8 z] 5))
            have hsz := hide (Nat.le_trans hu.out.size hu2.size)
            have hlt2 := hide (hO2.lt)
            clear hr2 hu2 hO2
            go_wp2_with (at_builtin; refine wpList_app _ rfl (.tmp 27) (.tmp 31) _ rfl w.heap.size 5 i0 (.int .u8 0) 1 Try.underlying23 hi hz0 hz1 hz2 rfl _ _ _ rfl O2.out _ _ _ _ rfl (Rd.one w2 _ 5) (one_int _ _) hkm (by omega) ?_ ?_)
            · have := hsz.out
              first | omega | (simp; omega)
            · intro A3 c3 w3 hown3 hg3 hl3
              rw [hb8.out, ← hsn.out] at hown3
              have R3 := hide ((R2.out.below ((Below.refl _ _).alloc (Nat.le_refl _) _)).grown hg3 (fun e => by have := (hlt2.out p e.symm).1; omega) (fun j hj => HD.out j (hlt2.out j hj).1))
              have U3 := hide (show Upd p none w w3 from ⟨hg3.os.trans U2.out.os, hg3.tape.trans U2.out.tape, hg3.output.trans U2.out.output, Nat.le_trans (Nat.le_trans U2.out.size (by simp)) hg3.size, fun j hj h1 h2 => by
                have hj2 : j < w2.heap.size := Nat.lt_of_lt_of_le hj U2.out.size
                refine ((hg3.block j (by simp; omega) (fun e => ?_)).trans (Below.heap_alloc _ _ _ hj2)).trans (U2.out.block j hj h1 h2)
                have := (hlt2.out j e.symm).1
                omega⟩)
              have O3 := hide hown3
              clear hown3 hg3 hl3
              go_wp2
              go_roundw
              case rel =>
                exact ⟨k + 1, A3, c3, hlt, by go_num, rfl, R3.out, U3.out, O3.out⟩
              case measure => simp [intOf]; omega
          · obtain rfl : k = m := by omega
            go_wp2
            go_ret
            exact ⟨A1, _, c1, rfl, hr.out, hu.out, ho.out⟩
  · have e1 := Pl.rdE_err bs a e ((8 * m : Nat) : Int) he
    have he2 : (e != 0) = true := by simp [he]
    rw [e1]
    simp only [if_neg he]
    clear e1 he hle
    rcases hcs with ⟨hn, rfl⟩ | ⟨hn, rfl⟩
    all_goals
      go_enter Try.func56, Try.ntmps56
      go_wp2
      go_ret
      exact ⟨none, 0, 0, rfl, H.out, Upd.refl _ _ _, World.ownsRow_nil _ _ _ _⟩

theorem refRBit_any (p : Nat) (bs : List UInt8) (a : Nat) (e : Int) (w : World) (h : Rr w p D bs a e) :
    Calls Try.prog 58 #[.pointer (some ⟨p, 0, none⟩)] w (RdPost w p D bs (Pl.rdA bs a e 1) (Pl.rdE bs a e (1 : Nat)) (.int .i64 (Pl.rdV bs a e 1))) := by
  have kP := refRBits_any p bs a e 1 w h
  rw [show cl32 1 = 1 by decide] at kP
  have kP := hide kP
  have hv : 0 ≤ Pl.rdV bs a e 1 ∧ Pl.rdV bs a e 1 < 4294967296 := by
    unfold Pl.rdV
    split
    · have hbd := Pl.num_bd (Pl.bitsAt bs a 1)
      rw [Pl.bitsAt_length] at hbd
      have h2 := hbd.2
      rw [show (2 : Int) ^ 1 = 2 by rfl] at h2
      omega
    · omega
  clear h
  generalize Pl.rdV bs a e 1 = V at *
  go_enter Try.func58, Try.ntmps58
  go_wp2_with (fail)
  refine kP.out.mono ?_
  rintro e1 w1 ⟨rfl, hr1, hu1⟩
  have R1 := hide hr1
  have U1 := hide hu1
  clear hr1 hu1
  go_wp2
  go_ret
  exact ⟨rfl, R1.out, U1.out⟩

theorem rLeftB_any (p : Nat) (bs : List UInt8) (a : Nat) (e : Int) (w : World) (h : Rr w p D bs a e) :
    Calls Try.prog 49 #[.pointer (some ⟨p, 0, none⟩)] w fun e w' => e = .returned (.int .i64 (Pl.left bs a)) ∧ ∃ q, w' = w.drewN q := by
  have k := hide (pleft_any p bs a w h.1)
  clear h
  generalize Pl.left bs a = L at *
  go_enter Try.func49, Try.ntmps49
  go_wp2_with (fail)
  refine k.out.mono ?_
  rintro e w' ⟨rfl, q, rfl⟩
  go_wp2
  go_ret
  exact ⟨rfl, _, rfl⟩
theorem rLeftB_nil (w : World) :
    Calls Try.prog 49 #[.pointer none] w fun e w' => e = .returned (.int .i64 0) ∧ w = w' := by
  go_enter Try.func49, Try.ntmps49
  go_wp2
  go_ret
  exact ⟨rfl, rfl⟩

theorem rErr_any (p : Nat) (bs : List UInt8) (a : Nat) (e : Int) (w : World) (h : Rr w p D bs a e) :
    Calls Try.prog 50 #[.pointer (some ⟨p, 0, none⟩)] w fun en w' => en = .returned (.int .i64 e) ∧ w = w' := by
  obtain ⟨_, h2, f2⟩ := h
  go_enter Try.func50, Try.ntmps50
  go_wp2
  go_ret
  exact ⟨rfl, rfl⟩
theorem rErr_nil (w : World) :
    Calls Try.prog 50 #[.pointer none] w fun en w' => en = .returned (.int .i64 2) ∧ w = w' := by
  go_enter Try.func50, Try.ntmps50
  go_wp2
  go_ret
  exact ⟨rfl, rfl⟩

theorem rocts_nil (n : Int) (w : World) :
    Calls Try.prog 48 #[.pointer none, .int .i64 n] w fun e w' => e = .returned (.slice none 0 0) ∧ w = w' := by
  have kN := hide (fun n w => ready_nil n w)
  by_cases h : n < 0
  all_goals
    go_enter Try.func48, Try.ntmps48
    go_wp2_with (fail)
    refine (kN.out _ _).mono ?_
    rintro e1 w' ⟨rfl, rfl⟩
    go_wp2
    go_ret
    exact ⟨rfl, rfl⟩
end Go.Proofs.Ytikfogepdmpfaaa
