import Derived.Test.YtikfogepdmpfaaaRed3
namespace Go.Proofs.Ytikfogepdmpfaaa
open Go.RowKit
variable {D : Nat → Prop}

def RRBitsRel (D : Nat → Prop) (bs : List UInt8) (p a m : Nat) (w0 : World) (v i : Value) (wr : World) : Prop :=
  ∃ k : Nat, k ≤ m ∧ i = .int .i64 (k : Int) ∧ v = .int .u32 (Pl.num (Pl.bitsAt bs a k)) ∧ Hid (Rr wr p D bs (a + k) 0) ∧ Hid (Upd p none w0 wr)

set_option maxRecDepth 100000 in
set_option maxHeartbeats 1600000 in
theorem refRBits_cl (p : Nat) (bs : List UInt8) (a : Nat) (e n : Int) (m : Nat) (hcl : cl32 n = m) (w : World) (h : Rr w p D bs a e) :
    Calls Try.prog 55 #[.pointer (some ⟨p, 0, none⟩), .int .i64 n] w (RdPost w p D bs (Pl.rdA bs a e m) (Pl.rdE bs a e (m : Int)) (.int .u32 (Pl.rdV bs a e m))) := by
  have hm := cl32_le n
  have hmv := cl32_val n
  rw [hcl] at hm hmv
  have H := hide h
  have hm0 : 0 ≤ (m : Int) := by omega
  have hm1 : (m : Int) ≤ 32 := by omega
  have hcs : ((32 < n ∧ (m : Int) = 32) ∨ (n ≤ 32 ∧ 0 < n ∧ n = (m : Int))) ∨ (n ≤ 32 ∧ n ≤ 0 ∧ (m : Int) = 0) := by omega
  have kL := hide (fun w h => rleft_any (D := D) p bs a w h)
  have hle := rdE_le bs a e m
  have hA := fun k (w : World) (hw : Pp w p D bs (a + k)) (hk : a + k < 8 * bs.length) => rat_any p bs (a + k) (a + k) w hw hk
  have KA := hide hA
  obtain ⟨_, h2, f2⟩ := h
  have hp : Hid (Pp w p D bs a) := H.out.1
  have hl : Hid (∀ q, (w.drewN q).cell? ⟨p, 2, none⟩ = some (.int .i64 e) ∧ (w.drewN q).frozen? ⟨p, 2, none⟩ = false) := fun q => ⟨h2, f2⟩
  clear hcl hmv hA
  by_cases he : e = 0
  · subst he
    by_cases hs : Pl.left bs a < (m : Int)
    · have e1 := Pl.rdE_short bs a _ hs
      have e2 : Pl.rdA bs a 0 m = a := by unfold Pl.rdA; rw [e1]; rfl
      have e3 : Pl.rdV bs a 0 m = 0 := by unfold Pl.rdV; rw [e1]; rfl
      rw [e1, e2, e3]
      clear e1 e2 e3 hle
      generalize Pl.left bs a = L at *
      rcases hcs with (⟨hn, hm2⟩ | ⟨hn, hn0, rfl⟩) | ⟨hn, hn0, hm2⟩
      all_goals
        go_enter Try.func55, Try.ntmps55
        go_wp2_with (fail)
        refine (kL.out _ hp.out).mono ?_
        rintro e w' ⟨rfl, q, rfl⟩
        obtain ⟨g2, gf⟩ := hl.out q
        go_wp2
        go_ret
        exact ⟨rfl, (H.out.drewN q).setErr 3, ((Upd.refl _ _ _).drewN q).cellp 2 _⟩
    · have e1 := Pl.rdE_ok bs a _ hs
      have e2 : Pl.rdA bs a 0 m = a + m := by unfold Pl.rdA; rw [e1]; rfl
      have e3 : Pl.rdV bs a 0 m = Pl.num (Pl.bitsAt bs a m) := by unfold Pl.rdV; rw [e1]; rfl
      have HLE := hide (hle e1)
      rw [e1, e2, e3]
      clear e1 e2 e3 hle
      generalize Pl.left bs a = L at *
      have H0 := hide (Upd.refl p none w)
      rcases hcs with hcs | ⟨hn, hn0, hm2⟩
      · rcases hcs with ⟨hn, hm2⟩ | ⟨hn, hn0, rfl⟩
        all_goals
          go_enter Try.func55, Try.ntmps55
          go_wp2_with (fail)
          refine (kL.out _ hp.out).mono ?_
          rintro e w' ⟨rfl, q, rfl⟩
          go_wp2_with (fail)
          go_loopw [5, 6] (RRBitsRel D bs p a m w) (fun _ i _ => m - (intOf i).toNat)
          case atStart => exact ⟨0, Nat.zero_le _, rfl, rfl, H.out.drewN q, H0.out.drewN q⟩
          case round =>
            obtain ⟨k, hk, rfl, rfl, hr, hu⟩ := hrel
            by_cases hlt : k < m
            · have hbd := Pl.num_bd (Pl.bitsAt bs a k)
              rw [Pl.bitsAt_length] at hbd
              have hp31 := pow_le31 (n := k) (by omega)
              have hsn := Pl.bitsAt_succ bs a k
              have hnum := hide (show Pl.num (Pl.bitsAt bs a (k + 1)) = Pl.num (Pl.bitsAt bs a k) * 2 + (if Pl.bitAt bs (a + k) then 1 else 0) by rw [hsn, Pl.num_snoc])
              have hz0 : 0 ≤ Pl.num (Pl.bitsAt bs a k) := hbd.1
              have hz1 : Pl.num (Pl.bitsAt bs a k) * 2 < 4294967296 := by omega
              have hle2 := HLE.out
              have hinb := hr.out.inb
              have kB := hide (KA.out k wr hr.out.1 (by omega))
              obtain ⟨⟨RA, rn, rc, g0, g1, gf0, gf1, _⟩, g2, gf2⟩ := hr.out
              have hak0 : 0 ≤ ((a + k : Nat) : Int) := by omega
              have hak1 : ((a + k : Nat) : Int) ≤ 8796093022208 := by omega
              have hklt : (k : Int) < (m : Int) := by omega
              clear hbd hp31 hsn hle2 hinb
              generalize Pl.num (Pl.bitsAt bs a k) = z at *
              generalize Pl.bitAt bs (a + k) = bb at *
              have hor := hide (or_low1 z (if bb then 1 else 0) hz0 hz1 (by cases bb <;> simp))
              generalize hak : a + k = ak at *
              have HAK := hide hak
              clear hak
              cases bb
              all_goals
                simp only [if_true, Bool.false_eq_true, if_false] at kB hnum hor
                have hor2 := hor.out
                go_wp2_with (fail)
                refine kB.out.mono ?_
                rintro e w2 ⟨rfl, rfl⟩
                go_wp2
                go_roundw
                case rel =>
                  refine ⟨k + 1, hlt, by go_num, ?_, hide ?_, hu.out.cellp 1 _⟩
                  · rw [hnum.out]
                    all_goals simp
                  · have h1 := hr.out.1.setAt (ak + 1) (by have := HLE.out; have := HAK.out; omega)
                    have h2 := hr.out.tail h1.1 h1.2
                    rw [show ((ak + 1 : Nat) : Int) = (ak : Int) + 1 by omega] at h2
                    rw [show a + (k + 1) = ak + 1 by have := HAK.out; omega]
                    exact h2
                case measure => simp [intOf]; omega
            · obtain rfl : k = m := by omega
              go_wp2
              go_ret
              exact ⟨rfl, hr.out, hu.out⟩
      · obtain rfl : m = 0 := by omega
        go_enter Try.func55, Try.ntmps55
        go_wp2_with (fail)
        refine (kL.out _ hp.out).mono ?_
        rintro e w' ⟨rfl, q, rfl⟩
        go_wp2_with (fail)
        go_loopw [5, 6] (RRBitsRel D bs p a 0 w) (fun _ _ _ => 0)
        case atStart => exact ⟨0, Nat.zero_le _, rfl, rfl, H.out.drewN q, H0.out.drewN q⟩
        case round =>
          obtain ⟨k, hk, rfl, rfl, hr, hu⟩ := hrel
          obtain rfl : k = 0 := by omega
          go_wp2
          go_ret
          exact ⟨rfl, hr.out, hu.out⟩
  · have e1 := Pl.rdE_err bs a e (m : Int) he
    have e2 : Pl.rdA bs a e m = a := by unfold Pl.rdA; rw [e1, if_neg he]
    have e3 : Pl.rdV bs a e m = 0 := by unfold Pl.rdV; rw [e1, if_neg he]
    have he2 : (e != 0) = true := by simp [he]
    rw [e1, e2, e3]
    clear e1 e2 e3 he hle
    rcases hcs with (⟨hn, hm2⟩ | ⟨hn, hn0, rfl⟩) | ⟨hn, hn0, hm2⟩
    all_goals
      go_enter Try.func55, Try.ntmps55
      go_wp2
      go_ret
      exact ⟨rfl, H.out, Upd.refl _ _ _⟩
theorem refRBits_any (p : Nat) (bs : List UInt8) (a : Nat) (e n : Int) (w : World) (h : Rr w p D bs a e) :
    Calls Try.prog 55 #[.pointer (some ⟨p, 0, none⟩), .int .i64 n] w (RdPost w p D bs (Pl.rdA bs a e (cl32 n)) (Pl.rdE bs a e (cl32 n : Nat)) (.int .u32 (Pl.rdV bs a e (cl32 n)))) := refRBits_cl p bs a e n _ rfl w h
end Go.Proofs.Ytikfogepdmpfaaa
