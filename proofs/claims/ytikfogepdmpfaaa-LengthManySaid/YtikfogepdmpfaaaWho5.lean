import Derived.Test.YtikfogepdmpfaaaWho4
import Derived.Test.YtikfogepdmpfaaaLawBitS
namespace Go.Proofs.Ytikfogepdmpfaaa
open Go.RowKit
variable {D : Nat → Prop}

theorem bitsAt_app (bs : List UInt8) (a k : Nat) : ∀ d, Pl.bitsAt bs a (k + d) = Pl.bitsAt bs a k ++ Pl.bitsAt bs (a + k) d
  | 0 => by simp [Pl.bitsAt]
  | d + 1 => by
    rw [← Nat.add_assoc, Pl.bitsAt_succ, bitsAt_app bs a k d, Pl.bitsAt_succ, List.append_assoc, Nat.add_assoc]
theorem halves_num (bs : List UInt8) (a m : Nat) (h : m ≤ 64) :
    cl32 ((m : Int) - 32) + cl32 (min (m : Int) 32) = m ∧ (min (m : Int) 32).toNat = cl32 (min (m : Int) 32) ∧
    Pl.num (Pl.bitsAt bs a m) = Pl.num (Pl.bitsAt bs a (cl32 ((m : Int) - 32))) * 2 ^ (cl32 (min (m : Int) 32)) + Pl.num (Pl.bitsAt bs (a + cl32 ((m : Int) - 32)) (cl32 (min (m : Int) 32))) := by
  have e1 : cl32 ((m : Int) - 32) + cl32 (min (m : Int) 32) = m := by unfold cl32; omega
  refine ⟨e1, by unfold cl32; omega, ?_⟩
  have := bitsAt_app bs a (cl32 ((m : Int) - 32)) (cl32 (min (m : Int) 32))
  rw [e1] at this
  rw [this, num_app, Pl.bitsAt_length]
theorem num64 (bs : List UInt8) (a m : Nat) (h : m ≤ 64) : 0 ≤ Pl.num (Pl.bitsAt bs a m) ∧ Pl.num (Pl.bitsAt bs a m) < 18446744073709551616 := by
  have hb := Pl.num_bd (Pl.bitsAt bs a m)
  rw [Pl.bitsAt_length] at hb
  have h1 := Nat.pow_le_pow_right (n := 2) (by omega) h
  have e : ((2 ^ m : Nat) : Int) = 2 ^ m := by simp
  have e2 : (2 : Nat) ^ 64 = 18446744073709551616 := by decide
  omega

set_option maxRecDepth 100000 in
set_option maxHeartbeats 1600000 in
theorem wdBits_any (P q : Nat) (bs : List UInt8) (a : Nat) (E n : Int) (em : Bool) (w : World) (h : Wd w P q D bs a E em) :
    Calls Try.prog 66 #[.pointer (some ⟨P, 0, none⟩), .int .i64 n] w (WdPost w P q D bs (Pl.rdA bs a E (cl64 n)) (Pl.rdE bs a E (cl64 n : Nat)) em (.int .u64 (Pl.rdV bs a E (cl64 n)))) := by
  have hm := cl64_le n
  have kB := hide (fun w => wbounded_any n w)
  generalize cl64 n = m at *
  have kE := hide (wdErr_any P q bs a E em w h)
  have H := hide h
  have hm0 : (0 : Int) ≤ (m : Int) := by omega
  have hm1 : (m : Int) ≤ 64 := by omega
  by_cases he : E = 0
  · subst he
    have kL := hide (wdLeft_any P q bs a 0 em w h)
    by_cases hs : Pl.left bs a < (m : Int)
    · have e1 := Pl.rdE_short bs a _ hs
      have e2 : Pl.rdA bs a 0 m = a := by unfold Pl.rdA; rw [e1]; rfl
      have e3 : Pl.rdV bs a 0 m = 0 := by unfold Pl.rdV; rw [e1]; rfl
      rw [e1, e2, e3]
      have kF := hide (fun W h => wdFail_any (D := D) P q bs a 0 3 em W h)
      clear e1 e2 e3 h
      generalize Pl.left bs a = L at *
      go_enter Try.func66, Try.ntmps66
      go_wp2_with (fail)
      refine (kB.out _).mono ?_
      rintro e w' ⟨rfl, rfl⟩
      go_wp2_with (fail)
      refine kE.out.mono ?_
      rintro e w' ⟨rfl, rfl⟩
      go_wp2_with (fail)
      refine kL.out.mono ?_
      rintro e w' ⟨rfl, k, rfl⟩
      go_wp2_with (fail)
      refine (kF.out _ (H.out.drewN k)).mono ?_
      rintro e w2 ⟨rfl, hr2, hu2⟩
      have R2 := hide hr2
      have U2 := hide (((Upd.refl P (some q) w).drewN k).trans (Mv.refl _ _) hu2)
      clear hr2 hu2
      go_wp2
      go_ret
      exact ⟨rfl, R2.out, U2.out⟩
    · have e1 := Pl.rdE_ok bs a _ hs
      have e2 : Pl.rdA bs a 0 m = a + m := by unfold Pl.rdA; rw [e1]; rfl
      have e3 : Pl.rdV bs a 0 m = Pl.num (Pl.bitsAt bs a m) := by unfold Pl.rdV; rw [e1]; rfl
      have hle := rdE_le bs a 0 m e1
      rw [e1, e2, e3]
      obtain ⟨hk1, hk2, hnum⟩ := halves_num bs a m hm
      have hc1 := cl32_le ((m : Int) - 32)
      have hc2 := cl32_le (min (m : Int) 32)
      obtain ⟨x1, x2, g0, g1, g2, gf, hr, hE, hqp⟩ := h
      have hx : x1 = 0 ∧ x2 = 0 := by
        by_cases h3 : x1 = 0
        · subst h3
          exact ⟨rfl, by simpa using hE.symm⟩
        · rw [if_pos h3] at hE
          exact absurd hE.symm h3
      obtain ⟨rfl, rfl⟩ := hx
      have k1 := fun W h => rbits_any (D := D) q bs a 0 ((m : Int) - 32) W h
      have i1 := rd_in bs a (cl32 ((m : Int) - 32)) (by omega)
      rw [i1.1, i1.2.1, i1.2.2] at k1
      have k2 := fun W h => rbits_any (D := D) q bs (a + cl32 ((m : Int) - 32)) 0 (min (m : Int) 32) W h
      have i2 := rd_in bs (a + cl32 ((m : Int) - 32)) (cl32 (min (m : Int) 32)) (by omega)
      rw [i2.1, i2.2.1, i2.2.2, Nat.add_assoc, hk1] at k2
      have hb1 := num64 bs a (cl32 ((m : Int) - 32)) (by omega)
      have hb2 := Pl.num_bd (Pl.bitsAt bs (a + cl32 ((m : Int) - 32)) (cl32 (min (m : Int) 32)))
      rw [Pl.bitsAt_length] at hb2
      have hb3 := num64 bs a m hm
      generalize cl32 ((m : Int) - 32) = c1 at *
      generalize hc2e : cl32 (min (m : Int) 32) = c2 at *
      generalize Pl.num (Pl.bitsAt bs a m) = V at *
      generalize Pl.num (Pl.bitsAt bs a c1) = V1 at *
      generalize Pl.num (Pl.bitsAt bs (a + c1) c2) = V2 at *
      have hor := or_u64_low V1 V2 c2 hb1.1 hb2.1 hb2.2 (by omega)
      have hE9 : Hid (bits BinOp.or IntKind.u64 (IntKind.u64.wrap (IntKind.u64.wrap V1 * 2 ^ c2)) (IntKind.u64.wrap V2) = V) := by
        have hm5 : 0 ≤ V1 * 2 ^ c2 := Int.mul_nonneg hb1.1 (Int.le_of_lt (Int.pow_pos (by omega)))
        have y1 : IntKind.u64.wrap V1 = V1 := by rw [IntKind.wrap_u64]; omega
        have y2 : IntKind.u64.wrap V2 = V2 := by rw [IntKind.wrap_u64]; omega
        have y3 : IntKind.u64.wrap (V1 * 2 ^ c2) = V1 * 2 ^ c2 := by rw [IntKind.wrap_u64]; omega
        unfold Hid
        rw [y1, y2, y3, hor, hnum]
      have K1 := hide k1
      have K2 := hide k2
      have HR := hide hr
      have HF := hide (And.intro g0 (And.intro g1 (And.intro g2 (And.intro gf hqp))))
      have HV := hide (And.intro hnum (And.intro hor (And.intro hb1 (And.intro hb2 hb3))))
      clear hE hle k1 k2 i1 i2 hr hqp hnum hor hb1 hb2 hb3 e1 e2 e3 hk1 hc2e
      generalize Pl.left bs a = L at *
      go_enter Try.func66, Try.ntmps66
      go_wp2_with (fail)
      refine (kB.out _).mono ?_
      rintro e w' ⟨rfl, rfl⟩
      go_wp2_with (fail)
      refine kE.out.mono ?_
      rintro e w' ⟨rfl, rfl⟩
      go_wp2_with (fail)
      refine kL.out.mono ?_
      rintro e w' ⟨rfl, k, rfl⟩
      go_wp2_with (fail)
      refine (K1.out _ (HR.out.drewN k)).mono ?_
      rintro e w2 ⟨rfl, hr2, hu2⟩
      have R2 := hide hr2
      have U2 := hide (((Upd.refl q none w).drewN k).trans (Mv.refl _ _) hu2)
      have P0 : ∀ j, w2.cell? ⟨P, j, none⟩ = w.cell? ⟨P, j, none⟩ := fun j => U2.out.cell (a := ⟨P, j, none⟩) H.out.lt (by have := HF.out.2.2.2.2; simp only; omega) (by simp)
      have q0 := (P0 0).trans HF.out.1
      have HP0 := hide P0
      have R2d := hide (show Rr w2.drew q D bs (a + c1) 0 from R2.out)
      have S1 := hide (show w2.drew.cell? ⟨P, 0, none⟩ = some (.pointer (some ⟨q, 0, none⟩)) from q0)
      clear hr2 hu2 P0
      go_wp2_with (fail)
      go_region_held3 (fun w' => w'.cell? ⟨P, 0, none⟩ = some (.pointer (some ⟨q, 0, none⟩)))
        (first | with_reducible exact S1.out | with_reducible assumption)
        ((go_at_call 32; (with_reducible refine (K2.out _ R2d.out).mono ?_); rintro en w9 ⟨rfl, hr9, hu9⟩; have hq9 := (hu9.cell (a := ⟨P, 0, none⟩) (lt_cell S1.out) (by have := HF.out.2.2.2.2; simp only; omega) (by simp)).trans S1.out))
      all_goals
        have R9 := hide hr9
        have U9 := hide (U2.out.drew.trans (Mv.refl _ _) hu9)
        clear hr9 hu9
        go_wp2
        go_ret
        have hc9 : ∀ j, w9.cell? ⟨P, j, none⟩ = w.cell? ⟨P, j, none⟩ := fun j => U9.out.cell (a := ⟨P, j, none⟩) H.out.lt (by have := HF.out.2.2.2.2; simp only; omega) (by simp)
        obtain ⟨f0, f1, f2, f3, f4⟩ := HF.out
        refine ⟨?_, ⟨0, 0, (hc9 0).trans f0, (hc9 1).trans f1, (hc9 2).trans f2, (U9.out.frozen (a := ⟨P, 1, none⟩) H.out.lt (by simp only; omega) (by simp)).trans f3, R9.out, by simp, f4⟩, U9.out.q⟩
        exact ret_int hE9.out
  · have he2 : (E != 0) = true := by simp [he]
    have e1 := Pl.rdE_err bs a E (m : Int) he
    unfold Pl.rdA Pl.rdV
    rw [e1]
    simp only [if_neg he]
    clear he e1 h
    go_enter Try.func66, Try.ntmps66
    go_wp2_with (fail)
    refine (kB.out _).mono ?_
    rintro e w' ⟨rfl, rfl⟩
    go_wp2_with (fail)
    refine kE.out.mono ?_
    rintro e w' ⟨rfl, rfl⟩
    go_wp2
    go_ret
    exact ⟨rfl, H.out, Upd.refl _ _ _⟩
end Go.Proofs.Ytikfogepdmpfaaa
