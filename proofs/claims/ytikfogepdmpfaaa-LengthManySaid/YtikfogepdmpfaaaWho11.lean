import Derived.Test.YtikfogepdmpfaaaWho6
namespace Go.Proofs.Ytikfogepdmpfaaa
open Go.RowKit
variable {D : Nat → Prop}

def weE (bs : List UInt8) (a : Nat) (E : Int) (em : Bool) : Int := if E = 0 then (if em = true ∧ Pl.left bs a = 8 then 0 else Pl.endE bs a 0) else E
set_option maxHeartbeats 800000 in
theorem wdEnd_any (P q : Nat) (bs : List UInt8) (a : Nat) (E : Int) (em : Bool) (w : World) (h : Wd w P q D bs a E em) :
    Calls Try.prog 68 #[.pointer (some ⟨P, 0, none⟩)] w fun e w' => e = .returned (.int .i64 (weE bs a E em)) ∧ Below w.heap.size w w' := by
  have kE := hide (wdErr_any P q bs a E em w h)
  have kL := hide (wdLeft_any P q bs a E em w h)
  have H := hide h
  obtain ⟨e1, e2, h0, h1, h2, f1, hr, hE, hqp⟩ := h
  have HF := hide (And.intro h0 h2)
  have HR := hide hr
  unfold weE
  by_cases he : E = 0
  · subst he
    rw [if_pos rfl]
    have hx : e1 = 0 ∧ e2 = 0 := by
      by_cases h3 : e1 = 0
      · subst h3
        exact ⟨rfl, by simpa using hE.symm⟩
      · rw [if_pos h3] at hE
        exact absurd hE.symm h3
    obtain ⟨rfl, rfl⟩ := hx
    have kN := hide (fun W h => rEnd_any (D := D) q bs a 0 W h)
    clear hr hE hqp h1 f1
    generalize Pl.endE bs a 0 = X at *
    cases em
    · rw [if_neg (by simp)]
      go_enter Try.func68, Try.ntmps68
      go_wp2_with (fail)
      refine kE.out.mono ?_
      rintro e w' ⟨rfl, rfl⟩
      go_wp2_with (fail)
      refine (kN.out _ HR.out).mono ?_
      rintro e w1 ⟨rfl, hb1⟩
      have B1 := hide hb1
      clear hb1
      go_wp2
      go_ret
      exact ⟨rfl, B1.out⟩
    · by_cases hL : Pl.left bs a = 8
      · rw [if_pos ⟨rfl, hL⟩]
        rw [hL] at kL
        clear hL
        go_enter Try.func68, Try.ntmps68
        go_wp2_with (fail)
        refine kE.out.mono ?_
        rintro e w' ⟨rfl, rfl⟩
        go_wp2_with (fail)
        refine kL.out.mono ?_
        rintro e w' ⟨rfl, k, rfl⟩
        go_wp2
        go_ret
        exact ⟨rfl, below_drewN k (Below.refl _ _)⟩
      · rw [if_neg (by simp [hL])]
        generalize Pl.left bs a = L at *
        have hL2 : (L == 8) = false := by simp [hL]
        go_enter Try.func68, Try.ntmps68
        go_wp2_with (fail)
        refine kE.out.mono ?_
        rintro e w' ⟨rfl, rfl⟩
        go_wp2_with (fail)
        refine kL.out.mono ?_
        rintro e w' ⟨rfl, k, rfl⟩
        have hk0 : (w.drewN k).cell? ⟨P, 0, none⟩ = some (.pointer (some ⟨q, 0, none⟩)) := HF.out.1
        go_wp2_with (fail)
        refine (kN.out _ (HR.out.drewN k)).mono ?_
        rintro e w1 ⟨rfl, hb1⟩
        have B1 := hide ((below_drewN k (Below.refl w.heap.size w)).trans (hb1.mono (below_drewN k (Below.refl w.heap.size w)).size))
        clear hb1
        go_wp2
        go_ret
        exact ⟨rfl, B1.out⟩
  · rw [if_neg he]
    have he2 : (E != 0) = true := by simp [he]
    clear he hE hr
    go_enter Try.func68, Try.ntmps68
    go_wp2_with (fail)
    refine kE.out.mono ?_
    rintro e w' ⟨rfl, rfl⟩
    go_wp2
    go_ret
    exact ⟨rfl, Below.refl _ _⟩

theorem rvFail_any (p : Nat) (bs : List UInt8) (a : Nat) (e x : Int) (w : World) (h : Rr w p D bs a e) :
    Calls Try.prog 78 #[.pointer (some ⟨p, 0, none⟩), .int .i64 x] w (RdPost w p D bs a (failE e x) (.tuple #[])) := by
  have H := hide h
  obtain ⟨_, h2, f2⟩ := h
  unfold failE
  by_cases he : e = 0
  · subst he
    rw [if_pos rfl]
    go_enter Try.func78, Try.ntmps78
    go_wp2
    refine bodyPost_end (results_none rfl _ _ _) rfl ?_
    exact ⟨rfl, H.out.setErr x, (Upd.refl _ _ _).cellp 2 _⟩
  · rw [if_neg he]
    have he2 : (e == 0) = false := by simp [he]
    clear he
    go_enter Try.func78, Try.ntmps78
    go_wp2
    refine bodyPost_end (results_none rfl _ _ _) rfl ?_
    exact ⟨rfl, H.out, Upd.refl _ _ _⟩

theorem rvBack_any (p : Nat) (bs : List UInt8) (a a0 : Nat) (e x : Int) (w : World) (h : Rr w p D bs a e) (ha : a0 ≤ 8 * bs.length) :
    Calls Try.prog 104 #[.pointer (some ⟨p, 0, none⟩), .int .i64 (a0 : Int), .int .i64 x] w (RdPost w p D bs a0 (failE e x) (.tuple #[])) := by
  have H := hide h
  have KF := hide (fun W h => rvFail_any (D := D) p bs a0 e x W h)
  have kA := h.1.setAt a0 ha
  have HA := hide (h.tail kA.1 kA.2)
  obtain ⟨⟨A, n, c, h0, h1, f0, f1, _⟩, h2, f2⟩ := h
  clear kA
  go_enter Try.func104, Try.ntmps104
  go_wp2_with (fail)
  refine (KF.out _ HA.out).mono ?_
  rintro e1 w1 ⟨rfl, hr1, hu1⟩
  have R1 := hide hr1
  have U1 := hide (((Upd.refl p none w).cellp 1 (.int .i64 (a0 : Int))).trans (Mv.refl _ _) hu1)
  clear hr1 hu1
  go_wp2
  refine bodyPost_end (results_none rfl _ _ _) rfl ?_
  exact ⟨rfl, R1.out, U1.out⟩

theorem rvLeft_any (p : Nat) (bs : List UInt8) (a : Nat) (w : World) (h : Pp w p D bs a) :
    Calls Try.prog 81 #[.pointer (some ⟨p, 0, none⟩)] w fun e w' => e = .returned (.int .i64 (Pl.left bs a)) ∧ ∃ q, w' = w.drewN q := by
  have k := hide (rLeft_any p bs a w h)
  clear h
  generalize Pl.left bs a = L at *
  go_enter Try.func81, Try.ntmps81
  go_wp2_with (fail)
  refine k.out.mono ?_
  rintro e w' ⟨rfl, q, rfl⟩
  go_wp2
  go_ret
  exact ⟨rfl, _, rfl⟩

theorem rvOcts_any (p : Nat) (bs : List UInt8) (a : Nat) (e n : Int) (w : World) (h : Rr w p D bs a e) (hn1 : n ≤ 9223372036854775807) :
    Calls Try.prog 72 #[.pointer (some ⟨p, 0, none⟩), .int .i64 n] w (RoPost w p D bs (Pl.rdA bs a e (8 * clOct n)) (Pl.rdE bs a e ((8 * clOct n : Nat) : Int)) (Pl.rdO bs a e (clOct n))) := by
  have k := hide (refROcts_any p bs a e n w h hn1)
  clear h
  generalize Pl.rdA bs a e (8 * clOct n) = a' at *
  generalize Pl.rdE bs a e ((8 * clOct n : Nat) : Int) = E' at *
  generalize Pl.rdO bs a e (clOct n) = l at *
  go_enter Try.func72, Try.ntmps72
  go_wp2_with (fail)
  refine k.out.mono ?_
  rintro e w' ⟨A2, n2, c2, rfl, hr2, hu2, ho2⟩
  have R2 := hide hr2
  have U2 := hide hu2
  have O2 := hide ho2
  clear hr2 hu2 ho2
  go_wp2
  go_ret
  exact ⟨A2, n2, c2, rfl, R2.out, U2.out, O2.out⟩

theorem or_low1_64 (z c : Int) (h0 : 0 ≤ z) (h1 : z * 2 < 18446744073709551616) (hc : c = 0 ∨ c = 1) : bits BinOp.or IntKind.u64 (z * 2) c = z * 2 + c := by
  have := or_u64_low z c 1 h0 (by omega) (by omega) (by omega)
  simpa using this
theorem pow_le63 {n : Nat} (h : n ≤ 63) : (2 : Int) ^ n ≤ 9223372036854775808 := by
  have := Nat.pow_le_pow_right (n := 2) (by omega) h
  have e : ((2 ^ n : Nat) : Int) = 2 ^ n := by simp
  omega

def RVBitsRel (D : Nat → Prop) (bs : List UInt8) (p a m : Nat) (w0 : World) (v i : Value) (wr : World) : Prop :=
  ∃ k : Nat, k ≤ m ∧ i = .int .i64 (k : Int) ∧ v = .int .u64 (Pl.num (Pl.bitsAt bs a k)) ∧ Hid (Rr wr p D bs (a + k) 0) ∧ Hid (Upd p none w0 wr)
def RVBitsRel0 (D : Nat → Prop) (bs : List UInt8) (p a : Nat) (e : Int) (w0 : World) (v i : Value) (wr : World) : Prop :=
  v = .int .u64 0 ∧ i = .int .i64 0 ∧ Hid (Rr wr p D bs a e) ∧ Hid (Upd p none w0 wr)

set_option maxRecDepth 100000 in
set_option maxHeartbeats 1600000 in
theorem rvBits_cl (p : Nat) (bs : List UInt8) (a : Nat) (e n : Int) (m : Nat) (hcl : cl64 n = m) (w : World) (h : Rr w p D bs a e) :
    Calls Try.prog 79 #[.pointer (some ⟨p, 0, none⟩), .int .i64 n] w (RdPost w p D bs (Pl.rdA bs a e m) (Pl.rdE bs a e (m : Int)) (.int .u64 (Pl.rdV bs a e m))) := by
  have hm := cl64_le n
  have hmv := cl64_val n
  rw [hcl] at hm hmv
  have H := hide h
  have hm0 : 0 ≤ (m : Int) := by omega
  have hm1 : (m : Int) ≤ 64 := by omega
  have hmx : max 0 (min n 64) = (m : Int) := by omega
  have kL := hide (fun w h => rLeft_any (D := D) p bs a w h)
  have hle := rdE_le bs a e m
  have KA := hide (fun k (W : World) (hw : Rr W p D bs (a + k) 0) => refRBit_any (D := D) p bs (a + k) 0 W hw)
  obtain ⟨_, h2, f2⟩ := h
  have hp : Hid (Pp w p D bs a) := H.out.1
  have hl : Hid (∀ q, (w.drewN q).cell? ⟨p, 2, none⟩ = some (.int .i64 e) ∧ (w.drewN q).frozen? ⟨p, 2, none⟩ = false) := fun q => ⟨h2, f2⟩
  clear hcl hmv
  by_cases he : e = 0
  · subst he
    by_cases hs : Pl.left bs a < (m : Int)
    · have e1 := Pl.rdE_short bs a _ hs
      have e2 : Pl.rdA bs a 0 m = a := by unfold Pl.rdA; rw [e1]; rfl
      have e3 : Pl.rdV bs a 0 m = 0 := by unfold Pl.rdV; rw [e1]; rfl
      rw [e1, e2, e3]
      clear e1 e2 e3 hle KA
      generalize Pl.left bs a = L at *
      go_enter Try.func79, Try.ntmps79
      go_wp2_with (fail)
      refine (kL.out _ hp.out).mono ?_
      rintro e w' ⟨rfl, q, rfl⟩
      obtain ⟨g2, gf⟩ := hl.out q
      go_wp2_with (fail)
      go_loopw [5, 6] (RVBitsRel0 D bs p a 3 w) (fun _ _ _ => 0)
      case atStart => exact ⟨rfl, rfl, (H.out.drewN q).setErr 3, ((Upd.refl _ _ _).drewN q).cellp 2 _⟩
      case round =>
        obtain ⟨rfl, rfl, hr, hu⟩ := hrel
        obtain ⟨_, g2', gf2'⟩ := hr.out
        by_cases hlt : (0 : Int) < (m : Int)
        all_goals
          go_wp2
          go_ret
          exact ⟨rfl, hr.out, hu.out⟩
    · have e1 := Pl.rdE_ok bs a _ hs
      have e2 : Pl.rdA bs a 0 m = a + m := by unfold Pl.rdA; rw [e1]; rfl
      have e3 : Pl.rdV bs a 0 m = Pl.num (Pl.bitsAt bs a m) := by unfold Pl.rdV; rw [e1]; rfl
      have HLE := hide (hle e1)
      rw [e1, e2, e3]
      clear e1 e2 e3 hle
      generalize Pl.left bs a = L at *
      have H0 := hide (Upd.refl p none w)
      go_enter Try.func79, Try.ntmps79
      go_wp2_with (fail)
      refine (kL.out _ hp.out).mono ?_
      rintro e w' ⟨rfl, q, rfl⟩
      go_wp2_with (fail)
      go_loopw [5, 6] (RVBitsRel D bs p a m w) (fun _ i _ => m - (intOf i).toNat)
      case atStart => exact ⟨0, Nat.zero_le _, rfl, rfl, H.out.drewN q, H0.out.drewN q⟩
      case round =>
        obtain ⟨k, hk, rfl, rfl, hr, hu⟩ := hrel
        by_cases hlt : k < m
        · have hbd := Pl.num_bd (Pl.bitsAt bs a k)
          rw [Pl.bitsAt_length] at hbd
          have hp31 := pow_le63 (n := k) (by omega)
          have hsn := Pl.bitsAt_succ bs a k
          have hnum := hide (show Pl.num (Pl.bitsAt bs a (k + 1)) = Pl.num (Pl.bitsAt bs a k) * 2 + (if Pl.bitAt bs (a + k) then 1 else 0) by rw [hsn, Pl.num_snoc])
          have hz0 : 0 ≤ Pl.num (Pl.bitsAt bs a k) := hbd.1
          have hz1 : Pl.num (Pl.bitsAt bs a k) * 2 < 18446744073709551616 := by omega
          have hin := rd_in bs (a + k) 1 (by have := HLE.out; omega)
          have kB := KA.out k wr hr.out
          rw [hin.2.1, hin.1, hin.2.2, num_one] at kB
          have KB := hide kB
          obtain ⟨_, g2, gf2⟩ := hr.out
          have hklt : (k : Int) < (m : Int) := by omega
          clear hbd hp31 hsn hin kB
          generalize Pl.num (Pl.bitsAt bs a k) = z at *
          generalize Pl.bitAt bs (a + k) = bb at *
          have hor := hide (or_low1_64 z (if bb then 1 else 0) hz0 hz1 (by cases bb <;> simp))
          cases bb
          all_goals
            simp only [if_true, Bool.false_eq_true, if_false] at KB hnum hor
            have hor2 := hor.out
            go_wp2_with (fail)
            refine KB.out.mono ?_
            rintro e w2 ⟨rfl, hr2, hu2⟩
            have R2 := hide hr2
            have U2 := hide (hu.out.trans (Mv.refl _ _) hu2)
            clear hr2 hu2
            go_wp2
            go_roundw
            case rel =>
              refine ⟨k + 1, hlt, by go_num, ?_, R2.out, U2.out⟩
              rw [hnum.out]
              all_goals simp
            case measure => simp [intOf]; omega
        · obtain rfl : k = m := by omega
          go_wp2
          go_ret
          exact ⟨rfl, hr.out, hu.out⟩
  · have e1 := Pl.rdE_err bs a e (m : Int) he
    have e2 : Pl.rdA bs a e m = a := by unfold Pl.rdA; rw [e1, if_neg he]
    have e3 : Pl.rdV bs a e m = 0 := by unfold Pl.rdV; rw [e1, if_neg he]
    have he2 : (e == 0) = false := by simp [he]
    rw [e1, e2, e3]
    clear e1 e2 e3 he hle KA
    go_enter Try.func79, Try.ntmps79
    go_wp2_with (fail)
    go_loopw [5, 6] (RVBitsRel0 D bs p a e w) (fun _ _ _ => 0)
    case atStart => exact ⟨rfl, rfl, H.out, Upd.refl _ _ _⟩
    case round =>
      obtain ⟨rfl, rfl, hr, hu⟩ := hrel
      obtain ⟨_, g2', gf2'⟩ := hr.out
      by_cases hlt : (0 : Int) < (m : Int)
      all_goals
        go_wp2
        go_ret
        exact ⟨rfl, hr.out, hu.out⟩
theorem rvBits_any (p : Nat) (bs : List UInt8) (a : Nat) (e n : Int) (w : World) (h : Rr w p D bs a e) :
    Calls Try.prog 79 #[.pointer (some ⟨p, 0, none⟩), .int .i64 n] w (RdPost w p D bs (Pl.rdA bs a e (cl64 n)) (Pl.rdE bs a e (cl64 n : Nat)) (.int .u64 (Pl.rdV bs a e (cl64 n)))) := rvBits_cl p bs a e n _ rfl w h

theorem rdA_ne {bs : List UInt8} {a : Nat} {e : Int} {m : Nat} (h : Pl.rdE bs a e (m : Int) ≠ 0) : Pl.rdA bs a e m = a := by unfold Pl.rdA; rw [if_neg h]
theorem rdV_ne {bs : List UInt8} {a : Nat} {e : Int} {m : Nat} (h : Pl.rdE bs a e (m : Int) ≠ 0) : Pl.rdV bs a e m = 0 := by unfold Pl.rdV; rw [if_neg h]
theorem failE_ne (E : Int) {x : Int} (h : x ≠ 0) : failE E x ≠ 0 := by unfold failE; split <;> assumption

set_option maxHeartbeats 800000 in
theorem rvBetween_any (p : Nat) (bs : List UInt8) (a : Nat) (e s : Int) (w : World) (h : Rr w p D bs a e) (hs0 : 0 ≤ s) (hs1 : s < 18446744073709551616) :
    Calls Try.prog 74 #[.pointer (some ⟨p, 0, none⟩), .int .u64 s] w (RdPost w p D bs (btA bs a e s) (btEE bs a e s) (.int .u64 (btV bs a e s))) := by
  have kW := hide (fun w => refWidth_any s w hs0 hs1)
  have kB := rvBits_any p bs a e (widthI s) w h
  rw [cl64_wid] at kB
  have KB := hide kB
  have HI := hide h.inb
  obtain ⟨⟨A, n, c, h0, h1, f0, f1, _⟩, h2, f2⟩ := h
  clear kB
  by_cases hv : s < Pl.rdV bs a e (wid s)
  · have he1 : Pl.rdE bs a e (wid s : Nat) = 0 := by
      by_cases hx : Pl.rdE bs a e (wid s : Nat) = 0
      · exact hx
      · rw [rdV_ne hx] at hv
        omega
    have he : e = 0 := by
      by_cases hx : e = 0
      · exact hx
      · exact absurd ((Pl.rdE_err bs a e (wid s : Nat) hx).symm.trans he1) hx
    subst he
    have t0 : btEE bs a 0 s = failE (Pl.rdE bs a 0 (wid s : Nat)) 4 := by unfold btEE btE; rw [if_pos rfl, if_pos hv]
    have tn := failE_ne (Pl.rdE bs a 0 (wid s : Nat)) (x := 4) (by decide)
    have t1 : btA bs a 0 s = a := by unfold btA; rw [t0, if_neg tn]
    have t2 : btV bs a 0 s = 0 := by unfold btV; rw [t0, if_neg tn]
    rw [t0, t1, t2]
    clear t0 t1 t2 tn he1
    generalize Pl.rdA bs a 0 (wid s) = a1 at *
    generalize Pl.rdE bs a 0 (wid s : Nat) = E1 at *
    generalize Pl.rdV bs a 0 (wid s) = V at *
    go_enter Try.func74, Try.ntmps74
    go_wp2_with (fail)
    refine (kW.out _).mono ?_
    rintro e w' ⟨rfl, rfl⟩
    go_wp2_with (fail)
    refine KB.out.mono ?_
    rintro e w1 ⟨rfl, hr1, hu1⟩
    have R1 := hide hr1
    have U1 := hide hu1
    clear hr1 hu1
    go_wp2_with (fail)
    refine (rvBack_any (D := D) p bs a1 a E1 4 w1 R1.out HI.out.1).mono ?_
    rintro e w2 ⟨rfl, hr2, hu2⟩
    have R2 := hide hr2
    have U2 := hide (U1.out.trans (Mv.refl _ _) hu2)
    clear hr2 hu2
    go_wp2
    go_ret
    exact ⟨rfl, R2.out, U2.out⟩
  · have t0 : btEE bs a e s = Pl.rdE bs a e (wid s : Nat) := by
      unfold btEE btE
      by_cases he : e = 0
      · subst he
        rw [if_pos rfl, if_neg hv]
      · rw [if_neg he, Pl.rdE_err bs a e _ he]
    have t1 : btA bs a e s = Pl.rdA bs a e (wid s) := by
      unfold btA
      rw [t0]
      by_cases hx : Pl.rdE bs a e (wid s : Nat) = 0
      · rw [if_pos hx]
        by_cases he : e = 0
        · rw [he]
        · exact absurd ((Pl.rdE_err bs a e (wid s : Nat) he).symm.trans hx) he
      · rw [if_neg hx, rdA_ne hx]
    have t2 : btV bs a e s = Pl.rdV bs a e (wid s) := by
      unfold btV
      rw [t0]
      by_cases hx : Pl.rdE bs a e (wid s : Nat) = 0
      · rw [if_pos hx]
        by_cases he : e = 0
        · rw [he]
        · exact absurd ((Pl.rdE_err bs a e (wid s : Nat) he).symm.trans hx) he
      · rw [if_neg hx, rdV_ne hx]
    rw [t0, t1, t2]
    clear t0 t1 t2
    generalize Pl.rdA bs a e (wid s) = a1 at *
    generalize Pl.rdE bs a e (wid s : Nat) = E1 at *
    generalize Pl.rdV bs a e (wid s) = V at *
    go_enter Try.func74, Try.ntmps74
    go_wp2_with (fail)
    refine (kW.out _).mono ?_
    rintro e w' ⟨rfl, rfl⟩
    go_wp2_with (fail)
    refine KB.out.mono ?_
    rintro e w1 ⟨rfl, hr1, hu1⟩
    have R1 := hide hr1
    have U1 := hide hu1
    clear hr1 hu1
    go_wp2
    go_ret
    exact ⟨rfl, R1.out, U1.out⟩

theorem rvNew_any (A : Option Addr) (n c : Nat) (bs : List UInt8) (w : World) (h : Rd w A n c (bv bs)) (hn : n ≤ 1099511627776) :
    Calls Try.prog 69 #[.slice A n c] w (NewPost w bs) := by
  obtain ⟨i0, hi, hz0, hz1, hz2⟩ := info_parts Try.info_byte
  have hl := hide (RdB.length h)
  go_enter Try.func69, Try.ntmps69
  go_wp2_with (at_builtin; refine wpList_app _ rfl (.const (.slice none 0 0)) (.tmp 3) _ rfl w.heap.size 5 i0 (.int .u8 0) 1 Try.underlying23 hi hz0 hz1 hz2 rfl _ _ _ rfl (World.ownsRow_nil _ _ _ _) _ _ _ _ rfl h (bv_one bs) ?_ (by omega) ?_ ?_)
  · omega
  · exact Nat.le_refl _
  · intro A1 c1 w1 hown hg hl1
    have O1 := hide hown
    have hb1 := hide ((Below.refl w.heap.size w).grown hg (Nat.le_refl _) (fun k hk => by simp [Value.ownBlock] at hk))
    clear hown hg hl1 h
    go_wp2
    go_ret
    have hlt : ∀ b o s, A1 = some ⟨b, o, s⟩ → w.heap.size ≤ b ∧ b < w1.heap.size := fun b o s e => by
      subst e
      exact O1.out.lt b rfl
    exact ⟨w1.heap.size, rfl, ⟨⟨A1, _, c1, cell_new rfl rfl, cell_new rfl rfl, by simp, by simp, (Rd.of_own O1.out).alloc _, ⟨fun b hd => hd.2, fun b o s e _ => hlt b o s e⟩, by omega, by have := hl.out; omega⟩, cell_new rfl rfl, by simp⟩, hb1.out.alloc hb1.out.size _, hb1.out.size⟩

def WNewPost (w : World) (bs : List UInt8) (en : Ending) (w' : World) : Prop :=
  ∃ P q, en = .returned (.pointer (some ⟨P, 0, none⟩)) ∧ Wd w' P q (fun b => w.heap.size ≤ b ∧ b < q) bs 0 0 (decide (bs = [0])) ∧ Below w.heap.size w w' ∧ w.heap.size ≤ q
theorem wd_made {w w1 : World} {q : Nat} {bs : List UInt8} {em : Bool} {t : Nat} (hr : Rr w1 q (fun b => w.heap.size ≤ b ∧ b < q) bs 0 0) (hb : Below w.heap.size w w1) (hq : w.heap.size ≤ q) (he : em = decide (bs = [0])) :
    WNewPost w bs (.returned (.pointer (some ⟨w1.heap.size, 0, none⟩))) (w1.alloc (.cells #[.pointer (some ⟨q, 0, none⟩), .int .i64 0, .bool em] t)) := by
  subst he
  exact ⟨w1.heap.size, q, rfl, ⟨0, 0, cell_new rfl rfl, cell_new rfl rfl, cell_new rfl rfl, by simp, hr.below ((Below.refl _ _).alloc (Nat.le_refl _) _), rfl, hr.lt⟩, hb.alloc hb.size _, hq⟩

theorem wdNew_any (A : Option Addr) (n c : Nat) (bs : List UInt8) (w : World) (h : Rd w A n c (bv bs)) (hn : n ≤ 1099511627776) :
    Calls Try.prog 63 #[.slice A n c] w (WNewPost w bs) := by
  have kN := hide (new_any A n c bs w h hn)
  have hl := RdB.length h
  have H := hide h
  by_cases h1 : n = 1
  · subst h1
    have hk : 0 < bs.length := by omega
    obtain ⟨b, o, rfl, _, hc0⟩ := RdB.at_ h hk
    have hb0 := lt_cell hc0
    have hem : decide (bs = [0]) = ((bs[0].toNat : Int) == 0) := by
      match bs, hl with
      | [x], _ =>
        by_cases hx : x = 0
        · subst hx; rfl
        · have : x.toNat ≠ 0 := fun e => hx (UInt8.toNat_inj.1 (by simpa using e))
          simp [hx, this]
    have HEM := hide hem
    clear h hem hl
    generalize (bs[0].toNat : Int) = x at *
    simp only [Nat.add_zero] at hc0
    go_enter Try.func63, Try.ntmps63
    go_wp2_with (fail)
    refine kN.out.mono ?_
    rintro e w1 ⟨q, rfl, hr1, hb1, hq1⟩
    have hc1 := (hb1.cell hb0).trans hc0
    have R1 := hide hr1
    have B1 := hide hb1
    have Q1 := hide hq1
    clear hr1 hb1 hq1 hc0
    by_cases hx : x = 0
    · have hx2 : (x == 0) = true := by simp [hx]
      have HE2 := hide (HEM.out.trans hx2)
      go_wp2
      go_ret
      exact wd_made R1.out B1.out Q1.out HE2.out.symm
    · have hx2 : (x == 0) = false := by simp [hx]
      have HE2 := hide (HEM.out.trans hx2)
      go_wp2
      go_ret
      exact wd_made R1.out B1.out Q1.out HE2.out.symm
  · have hem : decide (bs = [0]) = false := by
      simp only [decide_eq_false_iff_not]
      rintro rfl
      exact h1 (by simpa using hl)
    have HEM := hide hem
    have hn1 : ((n : Int) == 1) = false := by simp; omega
    clear h hem hl h1
    go_enter Try.func63, Try.ntmps63
    go_wp2_with (fail)
    refine kN.out.mono ?_
    rintro e w1 ⟨q, rfl, hr1, hb1, hq1⟩
    have R1 := hide hr1
    have B1 := hide hb1
    have Q1 := hide hq1
    clear hr1 hb1 hq1
    go_wp2
    go_ret
    exact wd_made R1.out B1.out Q1.out HEM.out.symm

theorem weE_not {bs : List UInt8} {a : Nat} {e : Int} {em : Bool} (h : e ≠ 0 ∨ em = false ∨ Pl.left bs a ≠ 8) : weE bs a e em = Pl.endE bs a e := by
  unfold weE
  by_cases he : e = 0
  · subst he
    rw [if_pos rfl]
    rw [if_neg]
    rintro ⟨h1, h2⟩
    rcases h with h | h | h
    · exact h rfl
    · rw [h1] at h; contradiction
    · exact h h2
  · rw [if_neg he]
    unfold Pl.endE
    rw [if_pos he]

set_option maxRecDepth 100000 in
set_option maxHeartbeats 1600000 in
theorem rvEnd_any (p : Nat) (bs : List UInt8) (a : Nat) (e : Int) (w : World) (h : Rr w p D bs a e) :
    Calls Try.prog 70 #[.pointer (some ⟨p, 0, none⟩)] w fun en w' => en = .returned (.int .i64 (weE bs a e (decide (bs = [0])))) ∧ Below w.heap.size w w' := by
  have kN := hide (refREnd_any p bs a e w h)
  have hinb := h.inb
  obtain ⟨⟨A, n, c, h0, h1, f0, f1, hr, _⟩, h2, f2⟩ := h
  have hl := RdB.length hr
  have ha0 : (0 : Int) ≤ (a : Int) := by omega
  by_cases he : e = 0
  · subst he
    by_cases hn : n = 1
    · subst hn
      have hk : 0 < bs.length := by omega
      obtain ⟨b, o, rfl, _, hc0⟩ := RdB.at_ hr hk
      have hem : decide (bs = [0]) = ((bs[0].toNat : Int) == 0) := by
        match bs, hl with
        | [x], _ =>
          by_cases hx : x = 0
          · subst hx; rfl
          · have : x.toNat ≠ 0 := fun e => hx (UInt8.toNat_inj.1 (by simpa using e))
            simp [hx, this]
      simp only [Nat.add_zero] at hc0
      by_cases hx : (bs[0].toNat : Int) = 0
      · rw [hx] at hc0
        by_cases hz : a = 0
        · subst hz
          have t : weE bs 0 0 (decide (bs = [0])) = 0 := by
            rw [hem, hx]
            unfold weE Pl.left
            rw [if_pos rfl, if_pos ⟨rfl, by omega⟩]
          rw [t]
          clear t hem hx hr hl hinb kN hk
          go_enter Try.func70, Try.ntmps70
          go_wp2
          go_ret
          exact ⟨rfl, Below.refl _ _⟩
        · rw [weE_not (Or.inr (Or.inr (by unfold Pl.left; omega)))]
          have hz2 : ((a : Int) == 0) = false := by simp; omega
          clear hem hx hr hl hinb hk hz
          generalize Pl.endE bs a 0 = X at *
          go_enter Try.func70, Try.ntmps70
          go_wp2_with (fail)
          refine kN.out.mono ?_
          rintro e w1 ⟨rfl, hb1⟩
          have B1 := hide hb1
          clear hb1
          go_wp2
          go_ret
          exact ⟨rfl, B1.out⟩
      · have hx2 : ((bs[0].toNat : Int) == 0) = false := by simpa using hx
        rw [weE_not (Or.inr (Or.inl (hem.trans hx2)))]
        clear hem hx hr hl hinb
        generalize Pl.endE bs a 0 = X at *
        generalize (bs[0].toNat : Int) = x at *
        go_enter Try.func70, Try.ntmps70
        go_wp2_with (fail)
        refine kN.out.mono ?_
        rintro e w1 ⟨rfl, hb1⟩
        have B1 := hide hb1
        clear hb1
        go_wp2
        go_ret
        exact ⟨rfl, B1.out⟩
    · have hem : decide (bs = [0]) = false := by
        simp only [decide_eq_false_iff_not]
        rintro rfl
        exact hn (by simpa using hl)
      rw [weE_not (Or.inr (Or.inl hem))]
      have hn1 : ((n : Int) == 1) = false := by simp; omega
      clear hem hr hl hinb hn
      generalize Pl.endE bs a 0 = X at *
      go_enter Try.func70, Try.ntmps70
      go_wp2_with (fail)
      refine kN.out.mono ?_
      rintro e w1 ⟨rfl, hb1⟩
      have B1 := hide hb1
      clear hb1
      go_wp2
      go_ret
      exact ⟨rfl, B1.out⟩
  · rw [weE_not (Or.inl he)]
    have he2 : (e == 0) = false := by simp [he]
    clear hr hl hinb he
    generalize Pl.endE bs a e = X at *
    go_enter Try.func70, Try.ntmps70
    go_wp2_with (fail)
    refine kN.out.mono ?_
    rintro e w1 ⟨rfl, hb1⟩
    have B1 := hide hb1
    clear hb1
    go_wp2
    go_ret
    exact ⟨rfl, B1.out⟩

theorem rdE_zero {bs : List UInt8} {a : Nat} {e : Int} {m : Int} (h : Pl.rdE bs a e m = 0) : e = 0 := by
  by_cases hx : e = 0
  · exact hx
  · exact absurd ((Pl.rdE_err bs a e m hx).symm.trans h) hx
theorem rdO_ne {bs : List UInt8} {a : Nat} {e : Int} {m : Nat} (h : Pl.rdE bs a e ((8 * m : Nat) : Int) ≠ 0) : Pl.rdO bs a e m = [] := by unfold Pl.rdO; rw [if_neg h]
theorem sm_of {bs : List UInt8} {a x : Nat} {y z : Int} (h : sml bs a = (x, y, z)) :
    (y ≠ 0 → smE bs a 0 = y ∧ smA bs a 0 = a ∧ smV bs a 0 = 0) ∧ (y = 0 → smE bs a 0 = 0 ∧ smA bs a 0 = x ∧ smV bs a 0 = wrap64 z) := by
  have e0 : smE bs a 0 = y := by unfold smE; rw [if_pos rfl, h]
  unfold smA smV
  rw [e0, h]
  constructor
  · intro hy
    rw [if_neg hy, if_neg hy]
    exact ⟨rfl, rfl, rfl⟩
  · intro hy
    rw [if_pos hy, if_pos hy]
    exact ⟨hy, rfl, rfl⟩
theorem Rr.setAt {w : World} {p : Nat} {bs : List UInt8} {a : Nat} {e : Int} (h : Rr w p D bs a e) (a0 : Nat) (ha : a0 ≤ 8 * bs.length) : Rr (w.setCell ⟨p, 1, none⟩ (.int .i64 (a0 : Int))) p D bs a0 e := by
  have k := h.1.setAt a0 ha
  exact h.tail k.1 k.2

set_option maxRecDepth 100000 in
set_option maxHeartbeats 1600000 in
theorem rvSmall_err (p : Nat) (bs : List UInt8) (a : Nat) (e : Int) (w : World) (h : Rr w p D bs a e) (he : e ≠ 0) :
    Calls Try.prog 76 #[.pointer (some ⟨p, 0, none⟩)] w (RdPost w p D bs a e (.int .i64 0)) := by
  have k1 := rvBits_any p bs a e 1 w h
  have k6 := fun W h => rvBits_any (D := D) p bs a e 6 W h
  rw [Pl.rdE_err bs a e _ he, rdA_ne (by rw [Pl.rdE_err bs a e _ he]; exact he), rdV_ne (by rw [Pl.rdE_err bs a e _ he]; exact he)] at k1
  simp only [Pl.rdE_err bs a e _ he, rdA_ne (show Pl.rdE bs a e (cl64 6 : Nat) ≠ 0 by rw [Pl.rdE_err bs a e _ he]; exact he), rdV_ne (show Pl.rdE bs a e (cl64 6 : Nat) ≠ 0 by rw [Pl.rdE_err bs a e _ he]; exact he)] at k6
  have K1 := hide k1
  have K6 := hide k6
  have HI := hide h.inb
  have he2 : (e != 0) = true := by simp [he]
  obtain ⟨⟨A, n, c, h0, h1, f0, f1, _⟩, h2, f2⟩ := h
  clear k1 k6 he
  go_enter Try.func76, Try.ntmps76
  go_wp2_with (fail)
  refine K1.out.mono ?_
  rintro e w1 ⟨rfl, hr1, hu1⟩
  have R1 := hide hr1
  have U1 := hide hu1
  clear hr1 hu1
  go_wp2_with (fail)
  refine (K6.out _ R1.out).mono ?_
  rintro e w2 ⟨rfl, hr2, hu2⟩
  have R2 := hide hr2
  have U2 := hide (U1.out.trans (Mv.refl _ _) hu2)
  obtain ⟨⟨A2, n2, c2, g0, g1, gf0, gf1, _⟩, g2, gf2⟩ := hr2
  clear hu2
  go_wp2
  go_ret
  exact ⟨rfl, R2.out.setAt a HI.out.1, U2.out.cellp 1 _⟩

set_option maxRecDepth 100000 in
set_option maxHeartbeats 1600000 in
theorem rvSmall_lo (p : Nat) (bs : List UInt8) (a : Nat) (w : World) (h : Rr w p D bs a 0) (hV : Pl.rdV bs a 0 1 = 0) :
    Calls Try.prog 76 #[.pointer (some ⟨p, 0, none⟩)] w (RdPost w p D bs (smA bs a 0) (smE bs a 0) (.int .i64 (smV bs a 0))) := by
  have k1 := rvBits_any p bs a 0 1 w h
  rw [show cl64 1 = 1 by rfl, hV] at k1
  have hs : sml bs a = _ := if_pos hV
  have so := sm_of hs
  clear hs hV
  generalize Pl.rdA bs a 0 1 = a1 at *
  generalize Pl.rdE bs a 0 (1 : Nat) = E1 at *
  have k6 := fun W h => rvBits_any (D := D) p bs a1 E1 6 W h
  rw [show cl64 6 = 6 by rfl] at k6
  generalize Pl.rdA bs a1 E1 6 = a2 at *
  generalize Pl.rdE bs a1 E1 (6 : Nat) = E2 at *
  generalize Pl.rdV bs a1 E1 6 = V2 at *
  have K1 := hide k1
  have K6 := hide k6
  have HI := hide h.inb
  obtain ⟨⟨A, n, c, h0, h1, f0, f1, _⟩, h2, f2⟩ := h
  clear k1 k6
  by_cases hE : E2 = 0
  · obtain ⟨t0, t1, t2⟩ := so.2 hE
    rw [t0, t1, t2]
    subst hE
    clear t0 t1 t2 so
    go_enter Try.func76, Try.ntmps76
    go_wp2_with (fail)
    refine K1.out.mono ?_
    rintro e w1 ⟨rfl, hr1, hu1⟩
    have R1 := hide hr1
    have U1 := hide hu1
    clear hr1 hu1
    go_wp2_with (fail)
    refine (K6.out _ R1.out).mono ?_
    rintro e w2 ⟨rfl, hr2, hu2⟩
    have R2 := hide hr2
    have U2 := hide (U1.out.trans (Mv.refl _ _) hu2)
    obtain ⟨⟨A2, n2, c2, g0, g1, gf0, gf1, _⟩, g2, gf2⟩ := hr2
    clear hu2
    go_wp2
    go_ret
    exact ⟨rfl, R2.out, U2.out⟩
  · obtain ⟨t0, t1, t2⟩ := so.1 hE
    rw [t0, t1, t2]
    have he2 : (E2 != 0) = true := by simp [hE]
    clear t0 t1 t2 so hE
    go_enter Try.func76, Try.ntmps76
    go_wp2_with (fail)
    refine K1.out.mono ?_
    rintro e w1 ⟨rfl, hr1, hu1⟩
    have R1 := hide hr1
    have U1 := hide hu1
    clear hr1 hu1
    go_wp2_with (fail)
    refine (K6.out _ R1.out).mono ?_
    rintro e w2 ⟨rfl, hr2, hu2⟩
    have R2 := hide hr2
    have U2 := hide (U1.out.trans (Mv.refl _ _) hu2)
    obtain ⟨⟨A2, n2, c2, g0, g1, gf0, gf1, _⟩, g2, gf2⟩ := hr2
    clear hu2
    go_wp2
    go_ret
    exact ⟨rfl, R2.out.setAt a HI.out.1, U2.out.cellp 1 _⟩

theorem failE_0 (x : Int) : failE 0 x = x := if_pos rfl
theorem failE_E {E : Int} (x : Int) (h : E ≠ 0) : failE E x = E := if_neg h

set_option maxRecDepth 100000 in
set_option maxHeartbeats 3200000 in
theorem rvSmall_hi (p : Nat) (bs : List UInt8) (a : Nat) (w : World) (h : Rr w p D bs a 0) (hV : ¬ Pl.rdV bs a 0 1 = 0) :
    Calls Try.prog 76 #[.pointer (some ⟨p, 0, none⟩)] w (RdPost w p D bs (smA bs a 0) (smE bs a 0) (.int .i64 (smV bs a 0))) := by
  have k1 := rvBits_any p bs a 0 1 w h
  rw [show cl64 1 = 1 by rfl] at k1
  have hs : sml bs a = _ := if_neg hV
  have hE1 : Pl.rdE bs a 0 (1 : Nat) = 0 := by
    by_cases hx : Pl.rdE bs a 0 (1 : Nat) = 0
    · exact hx
    · exact absurd (rdV_ne hx) hV
  rw [hE1] at k1 hs
  have hV1 : (Pl.rdV bs a 0 1 == 0) = false := by simpa using hV
  clear hE1 hV
  generalize Pl.rdA bs a 0 1 = a1 at *
  generalize Pl.rdV bs a 0 1 = V1 at *
  have k8 := fun W h => rvBits_any (D := D) p bs a1 0 8 W h
  rw [show cl64 8 = 8 by rfl] at k8
  have hv := rdV_bd bs a1 0 8
  rw [show ((2 : Int) ^ 8) = 256 by rfl] at hv
  have hv0 : Pl.rdE bs a1 0 (8 : Nat) ≠ 0 → Pl.rdV bs a1 0 8 = 0 := fun h => rdV_ne h
  unfold grt at hs
  generalize Pl.rdA bs a1 0 8 = a2 at *
  generalize Pl.rdE bs a1 0 (8 : Nat) = E2 at *
  generalize Pl.rdV bs a1 0 8 = V at *
  have K1 := hide k1
  have K8 := hide k8
  have HI := hide h.inb
  obtain ⟨⟨A, nn, c, h0, h1, f0, f1, _⟩, h2, f2⟩ := h
  have hw : IntKind.i64.wrap V = V := IntWalk.i64_in _ ⟨by omega, by omega⟩
  have hw2 : wrap64 V = V := by unfold wrap64; omega
  clear k1 k8
  by_cases hE : E2 = 0
  · subst hE
    by_cases hr : V < 1 ∨ 8 < V
    · rw [if_pos hr] at hs
      obtain ⟨t0, t1, t2⟩ := (sm_of hs).1 (failE_ne _ (by decide))
      rw [t0, t1, t2]
      have hr2 : V < 1 ∨ (¬ V < 1 ∧ V > 8) := by omega
      clear t0 t1 t2 hs hr hv hv0
      rcases hr2 with hr | ⟨hr, hr3⟩
      all_goals
        go_enter Try.func76, Try.ntmps76
        go_wp2_with (fail)
        refine K1.out.mono ?_
        rintro e w1 ⟨rfl, hr1, hu1⟩
        have R1 := hide hr1
        have U1 := hide hu1
        clear hr1 hu1
        go_wp2_with (fail)
        refine (K8.out _ R1.out).mono ?_
        rintro e w2 ⟨rfl, hr2, hu2⟩
        have R2 := hide hr2
        have U2 := hide (U1.out.trans (Mv.refl _ _) hu2)
        obtain ⟨⟨A2, n2, c2, g0, g1, gf0, gf1, _⟩, g2, gf2⟩ := hr2
        clear hu2
        go_wp2_with (fail)
        refine (rvBack_any (D := D) p bs _ a _ 4 _ R2.out HI.out.1).mono ?_
        rintro e w4 ⟨rfl, hr4, hu4⟩
        have R4 := hide hr4
        have U4 := hide (U2.out.trans (Mv.refl _ _) hu4)
        clear hr4 hu4
        go_wp2
        go_ret
        exact ⟨rfl, R4.out, U4.out⟩
    · rw [if_neg hr] at hs
      obtain ⟨n, rfl⟩ : ∃ n : Nat, V = (n : Int) := ⟨V.toNat, by omega⟩
      have hn1 : ¬ (n : Int) < 1 := by omega
      have hn8 : ¬ (n : Int) > 8 := by omega
      have KO := hide (fun W h => rvOcts_any (D := D) p bs a2 0 (n : Int) W h (by omega))
      rw [show clOct (n : Int) = n by unfold clOct; omega] at KO
      simp only [Int.toNat_natCast] at hs
      have ho0 : Pl.rdE bs a2 0 ((8 * n : Nat) : Int) ≠ 0 → Pl.rdO bs a2 0 n = [] := fun h => rdO_ne h
      clear hr hv hv0
      generalize Pl.rdA bs a2 0 (8 * n) = a3 at *
      generalize Pl.rdE bs a2 0 ((8 * n : Nat) : Int) = E3 at *
      generalize Pl.rdO bs a2 0 n = l at *
      have kT := hide (fun A n c W h => refTakeUnsigned_any A n c l W h)
      by_cases h3 : E3 = 0
      · subst h3
        clear ho0
        by_cases q1 : takeUE l = 0
        · by_cases q2 : takeUV l < 64
          · rw [if_pos (Or.inr (Or.inl q2))] at hs
            obtain ⟨t0, t1, t2⟩ := (sm_of hs).1 (failE_ne _ (by decide))
            rw [t0, t1, t2]
            clear t0 t1 t2 hs
            generalize takeUV l = tv at *
            generalize takeUE l = te at *
            subst q1
            go_enter Try.func76, Try.ntmps76
            go_wp2_with (fail)
            refine K1.out.mono ?_
            rintro e w1 ⟨rfl, hr1, hu1⟩
            have R1 := hide hr1
            have U1 := hide hu1
            clear hr1 hu1
            go_wp2_with (fail)
            refine (K8.out _ R1.out).mono ?_
            rintro e w2 ⟨rfl, hr2, hu2⟩
            have R2 := hide hr2
            have U2 := hide (U1.out.trans (Mv.refl _ _) hu2)
            obtain ⟨⟨A2, n2, c2, g0, g1, gf0, gf1, _⟩, g2, gf2⟩ := hr2
            clear hu2
            go_wp2_with (fail)
            refine (KO.out _ R2.out).mono ?_
            rintro e w3 ⟨A3, n3, c3, rfl, hr3, hu3, ho3⟩
            have R3 := hide hr3
            have U3 := hide (U2.out.trans (Mv.refl _ _) hu3)
            have T3 := hide (kT.out _ _ _ _ (Rd.of_own ho3))
            obtain ⟨⟨A4, n4, c4, y0, y1, yf0, yf1, _⟩, y2, yf2⟩ := hr3
            clear hu3 ho3 g0 g1 g2
            go_wp2_with (fail)
            refine T3.out.mono ?_
            rintro e w5 ⟨rfl, hb5⟩
            have R5 := hide (R3.out.below hb5)
            have U5 := hide (U3.out.trans (Mv.refl _ _) (Upd.of_below hb5))
            clear hb5 y0 y1 y2 yf0 yf1 yf2
            go_wp2_with (fail)
            refine (rvBack_any (D := D) p bs _ a _ 4 _ R5.out HI.out.1).mono ?_
            rintro e w4 ⟨rfl, hr4, hu4⟩
            have R4 := hide hr4
            have U4 := hide (U5.out.trans (Mv.refl _ _) hu4)
            clear hr4 hu4
            go_wp2
            go_ret
            exact ⟨rfl, R4.out, U4.out⟩
          · by_cases q3 : takeUV l > 10000
            · rw [if_pos (Or.inr (Or.inr q3))] at hs
              obtain ⟨t0, t1, t2⟩ := (sm_of hs).1 (failE_ne _ (by decide))
              rw [t0, t1, t2]
              clear t0 t1 t2 hs
              generalize takeUV l = tv at *
              generalize takeUE l = te at *
              subst q1
              go_enter Try.func76, Try.ntmps76
              go_wp2_with (fail)
              refine K1.out.mono ?_
              rintro e w1 ⟨rfl, hr1, hu1⟩
              have R1 := hide hr1
              have U1 := hide hu1
              clear hr1 hu1
              go_wp2_with (fail)
              refine (K8.out _ R1.out).mono ?_
              rintro e w2 ⟨rfl, hr2, hu2⟩
              have R2 := hide hr2
              have U2 := hide (U1.out.trans (Mv.refl _ _) hu2)
              obtain ⟨⟨A2, n2, c2, g0, g1, gf0, gf1, _⟩, g2, gf2⟩ := hr2
              clear hu2
              go_wp2_with (fail)
              refine (KO.out _ R2.out).mono ?_
              rintro e w3 ⟨A3, n3, c3, rfl, hr3, hu3, ho3⟩
              have R3 := hide hr3
              have U3 := hide (U2.out.trans (Mv.refl _ _) hu3)
              have T3 := hide (kT.out _ _ _ _ (Rd.of_own ho3))
              obtain ⟨⟨A4, n4, c4, y0, y1, yf0, yf1, _⟩, y2, yf2⟩ := hr3
              clear hu3 ho3 g0 g1 g2
              go_wp2_with (fail)
              refine T3.out.mono ?_
              rintro e w5 ⟨rfl, hb5⟩
              have R5 := hide (R3.out.below hb5)
              have U5 := hide (U3.out.trans (Mv.refl _ _) (Upd.of_below hb5))
              clear hb5 y0 y1 y2 yf0 yf1 yf2
              go_wp2_with (fail)
              refine (rvBack_any (D := D) p bs _ a _ 4 _ R5.out HI.out.1).mono ?_
              rintro e w4 ⟨rfl, hr4, hu4⟩
              have R4 := hide hr4
              have U4 := hide (U5.out.trans (Mv.refl _ _) hu4)
              clear hr4 hu4
              go_wp2
              go_ret
              exact ⟨rfl, R4.out, U4.out⟩
            · rw [if_neg (by omega)] at hs
              obtain ⟨t0, t1, t2⟩ := (sm_of hs).2 rfl
              rw [t0, t1, t2]
              have hw5 : wrap64 (takeUV l) = takeUV l := by unfold wrap64; omega
              rw [hw5]
              clear t0 t1 t2 hs
              generalize takeUV l = tv at *
              generalize takeUE l = te at *
              subst q1
              go_enter Try.func76, Try.ntmps76
              go_wp2_with (fail)
              refine K1.out.mono ?_
              rintro e w1 ⟨rfl, hr1, hu1⟩
              have R1 := hide hr1
              have U1 := hide hu1
              clear hr1 hu1
              go_wp2_with (fail)
              refine (K8.out _ R1.out).mono ?_
              rintro e w2 ⟨rfl, hr2, hu2⟩
              have R2 := hide hr2
              have U2 := hide (U1.out.trans (Mv.refl _ _) hu2)
              obtain ⟨⟨A2, n2, c2, g0, g1, gf0, gf1, _⟩, g2, gf2⟩ := hr2
              clear hu2
              go_wp2_with (fail)
              refine (KO.out _ R2.out).mono ?_
              rintro e w3 ⟨A3, n3, c3, rfl, hr3, hu3, ho3⟩
              have R3 := hide hr3
              have U3 := hide (U2.out.trans (Mv.refl _ _) hu3)
              have T3 := hide (kT.out _ _ _ _ (Rd.of_own ho3))
              obtain ⟨⟨A4, n4, c4, y0, y1, yf0, yf1, _⟩, y2, yf2⟩ := hr3
              clear hu3 ho3 g0 g1 g2
              go_wp2_with (fail)
              refine T3.out.mono ?_
              rintro e w5 ⟨rfl, hb5⟩
              have R5 := hide (R3.out.below hb5)
              have U5 := hide (U3.out.trans (Mv.refl _ _) (Upd.of_below hb5))
              clear hb5 y0 y1 y2 yf0 yf1 yf2
              go_wp2_with (fail)
              go_ret
              exact ⟨rfl, R5.out, U5.out⟩
        · rw [if_pos (Or.inl q1)] at hs
          obtain ⟨t0, t1, t2⟩ := (sm_of hs).1 (failE_ne _ (by decide))
          rw [t0, t1, t2]
          have q1b : (takeUE l != 0) = true := by simp [q1]
          clear t0 t1 t2 hs q1
          generalize takeUV l = tv at *
          generalize takeUE l = te at *
          go_enter Try.func76, Try.ntmps76
          go_wp2_with (fail)
          refine K1.out.mono ?_
          rintro e w1 ⟨rfl, hr1, hu1⟩
          have R1 := hide hr1
          have U1 := hide hu1
          clear hr1 hu1
          go_wp2_with (fail)
          refine (K8.out _ R1.out).mono ?_
          rintro e w2 ⟨rfl, hr2, hu2⟩
          have R2 := hide hr2
          have U2 := hide (U1.out.trans (Mv.refl _ _) hu2)
          obtain ⟨⟨A2, n2, c2, g0, g1, gf0, gf1, _⟩, g2, gf2⟩ := hr2
          clear hu2
          go_wp2_with (fail)
          refine (KO.out _ R2.out).mono ?_
          rintro e w3 ⟨A3, n3, c3, rfl, hr3, hu3, ho3⟩
          have R3 := hide hr3
          have U3 := hide (U2.out.trans (Mv.refl _ _) hu3)
          have T3 := hide (kT.out _ _ _ _ (Rd.of_own ho3))
          obtain ⟨⟨A4, n4, c4, y0, y1, yf0, yf1, _⟩, y2, yf2⟩ := hr3
          clear hu3 ho3 g0 g1 g2
          go_wp2_with (fail)
          refine T3.out.mono ?_
          rintro e w5 ⟨rfl, hb5⟩
          have R5 := hide (R3.out.below hb5)
          have U5 := hide (U3.out.trans (Mv.refl _ _) (Upd.of_below hb5))
          clear hb5 y0 y1 y2 yf0 yf1 yf2
          go_wp2_with (fail)
          refine (rvBack_any (D := D) p bs _ a _ 4 _ R5.out HI.out.1).mono ?_
          rintro e w4 ⟨rfl, hr4, hu4⟩
          have R4 := hide hr4
          have U4 := hide (U5.out.trans (Mv.refl _ _) hu4)
          clear hr4 hu4
          go_wp2
          go_ret
          exact ⟨rfl, R4.out, U4.out⟩
      · have hl := ho0 h3
        subst hl
        rw [if_pos (Or.inl (by decide)), failE_E _ h3] at hs
        obtain ⟨t0, t1, t2⟩ := (sm_of hs).1 h3
        rw [t0, t1, t2]
        have h3b : (E3 != 0) = true := by simp [h3]
        clear t0 t1 t2 hs ho0 h3
        go_enter Try.func76, Try.ntmps76
        go_wp2_with (fail)
        refine K1.out.mono ?_
        rintro e w1 ⟨rfl, hr1, hu1⟩
        have R1 := hide hr1
        have U1 := hide hu1
        clear hr1 hu1
        go_wp2_with (fail)
        refine (K8.out _ R1.out).mono ?_
        rintro e w2 ⟨rfl, hr2, hu2⟩
        have R2 := hide hr2
        have U2 := hide (U1.out.trans (Mv.refl _ _) hu2)
        obtain ⟨⟨A2, n2, c2, g0, g1, gf0, gf1, _⟩, g2, gf2⟩ := hr2
        clear hu2
        go_wp2_with (fail)
        refine (KO.out _ R2.out).mono ?_
        rintro e w3 ⟨A3, n3, c3, rfl, hr3, hu3, ho3⟩
        have R3 := hide hr3
        have U3 := hide (U2.out.trans (Mv.refl _ _) hu3)
        obtain ⟨⟨A4, n4, c4, y0, y1, yf0, yf1, _⟩, y2, yf2⟩ := hr3
        clear hu3 ho3 g0 g1 g2
        go_wp2_with (fail)
        go_ret
        exact ⟨rfl, R3.out.setAt a HI.out.1, U3.out.cellp 1 _⟩
  · have hz := hv0 hE
    subst hz
    rw [if_pos (Or.inl (by decide)), failE_E _ hE] at hs
    obtain ⟨t0, t1, t2⟩ := (sm_of hs).1 hE
    rw [t0, t1, t2]
    have KO := fun W h => rvOcts_any (D := D) p bs a2 E2 0 W h (by omega)
    rw [show clOct 0 = 0 by rfl, Pl.rdE_err bs a2 E2 _ hE, rdA_ne (by rw [Pl.rdE_err bs a2 E2 _ hE]; exact hE)] at KO
    have KO := hide KO
    have hEb : (E2 != 0) = true := by simp [hE]
    have hEc : (E2 == 0) = false := by simp [hE]
    clear t0 t1 t2 hs hv0 hE
    go_enter Try.func76, Try.ntmps76
    go_wp2_with (fail)
    refine K1.out.mono ?_
    rintro e w1 ⟨rfl, hr1, hu1⟩
    have R1 := hide hr1
    have U1 := hide hu1
    clear hr1 hu1
    go_wp2_with (fail)
    refine (K8.out _ R1.out).mono ?_
    rintro e w2 ⟨rfl, hr2, hu2⟩
    have R2 := hide hr2
    have U2 := hide (U1.out.trans (Mv.refl _ _) hu2)
    obtain ⟨⟨A2, n2, c2, g0, g1, gf0, gf1, _⟩, g2, gf2⟩ := hr2
    clear hu2
    go_wp2_with (fail)
    refine (KO.out _ R2.out).mono ?_
    rintro e w3 ⟨A3, n3, c3, rfl, hr3, hu3, ho3⟩
    have R3 := hide hr3
    have U3 := hide (U2.out.trans (Mv.refl _ _) hu3)
    obtain ⟨⟨A4, n4, c4, y0, y1, yf0, yf1, _⟩, y2, yf2⟩ := hr3
    clear hu3 ho3 g0 g1 g2
    go_wp2_with (fail)
    go_ret
    exact ⟨rfl, R3.out.setAt a HI.out.1, U3.out.cellp 1 _⟩
theorem rvSmall_any (p : Nat) (bs : List UInt8) (a : Nat) (e : Int) (w : World) (h : Rr w p D bs a e) :
    Calls Try.prog 76 #[.pointer (some ⟨p, 0, none⟩)] w (RdPost w p D bs (smA bs a e) (smE bs a e) (.int .i64 (smV bs a e))) := by
  by_cases he : e = 0
  · subst he
    by_cases hV : Pl.rdV bs a 0 1 = 0
    · exact rvSmall_lo p bs a w h hV
    · exact rvSmall_hi p bs a w h hV
  · have e0 : smE bs a e = e := if_neg he
    have e1 : smA bs a e = a := by unfold smA; rw [e0, if_neg he]
    have e2 : smV bs a e = 0 := by unfold smV; rw [e0, if_neg he]
    rw [e0, e1, e2]
    exact rvSmall_err p bs a e w h he
end Go.Proofs.Ytikfogepdmpfaaa
