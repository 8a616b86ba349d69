import Derived.Test.YtikfogepdmpfaaaRed2
namespace Go.Proofs.Ytikfogepdmpfaaa
open Go.RowKit
variable {D : Nat → Prop}

/-- What a read of m bits leaves. -/
def RdPost (w : World) (p : Nat) (D : Nat → Prop) (bs : List UInt8) (a : Nat) (e : Int) (v : Value) (en : Ending) (w' : World) : Prop :=
  en = .returned v ∧ Rr w' p D bs a e ∧ Upd p none w w'
/-- What the next answer is: whether so many bits can be read. -/
def rdyB (bs : List UInt8) (a : Nat) (e n : Int) : Bool := decide (Pl.rdE bs a e n = 0)

set_option maxHeartbeats 800000 in
theorem ready_any (p : Nat) (bs : List UInt8) (a : Nat) (e n : Int) (w : World) (h : Rr w p D bs a e) :
    Calls Try.prog 86 #[.pointer (some ⟨p, 0, none⟩), .int .i64 n] w (RdPost w p D bs a (Pl.rdE bs a e n) (.bool (rdyB bs a e n))) := by
  have H := hide h
  have kL := hide (fun w h => pleft_any (D := D) p bs a w h)
  obtain ⟨⟨A, nn, c, h0, h1, f0, f1, hr, ho, hb⟩, h2, f2⟩ := h
  have hp : Hid (Pp w p D bs a) := H.out.1
  have hl : Hid (∀ q, (w.drewN q).cell? ⟨p, 2, none⟩ = some (.int .i64 e) ∧ (w.drewN q).frozen? ⟨p, 2, none⟩ = false) := fun q => ⟨h2, f2⟩
  clear hr ho hb
  by_cases he : e = 0
  · subst he
    by_cases hs : Pl.left bs a < n
    · have e1 := Pl.rdE_short bs a n hs
      have e2 : rdyB bs a 0 n = false := by unfold rdyB; rw [e1]; decide
      rw [e1, e2]
      clear e1 e2
      generalize Pl.left bs a = L at *
      go_enter Try.func86, Try.ntmps86
      go_wp2_with (fail)
      refine (kL.out _ hp.out).mono ?_
      rintro e w' ⟨rfl, q, rfl⟩
      obtain ⟨g2, gf⟩ := hl.out q
      go_wp2
      go_ret
      exact ⟨rfl, (H.out.drewN q).setErr 3, ((Upd.refl _ _ _).drewN q).cellp 2 _⟩
    · have e1 := Pl.rdE_ok bs a n hs
      have e2 : rdyB bs a 0 n = true := by unfold rdyB; rw [e1]; decide
      rw [e1, e2]
      clear e1 e2
      generalize Pl.left bs a = L at *
      go_enter Try.func86, Try.ntmps86
      go_wp2_with (fail)
      refine (kL.out _ hp.out).mono ?_
      rintro e w' ⟨rfl, q, rfl⟩
      go_wp2
      go_ret
      exact ⟨rfl, H.out.drewN q, (Upd.refl _ _ _).drewN q⟩
  · have e1 := Pl.rdE_err bs a e n he
    have e2 : rdyB bs a e n = false := by unfold rdyB; rw [e1]; simp [he]
    have he2 : (e != 0) = true := by simp [he]
    rw [e1, e2]
    clear e1 e2 he
    go_enter Try.func86, Try.ntmps86
    go_wp2
    go_ret
    exact ⟨rfl, H.out, Upd.refl _ _ _⟩
theorem ready_nil (n : Int) (w : World) :
    Calls Try.prog 86 #[.pointer none, .int .i64 n] w fun e w' => e = .returned (.bool false) ∧ w = w' := by
  go_enter Try.func86, Try.ntmps86
  go_wp2
  go_ret
  exact ⟨rfl, rfl⟩

theorem rdE_le (bs : List UInt8) (a : Nat) (e : Int) (m : Nat) (h : Pl.rdE bs a e (m : Int) = 0) : a + m ≤ 8 * bs.length := by
  unfold Pl.rdE at h
  split at h
  · contradiction
  · split at h
    · contradiction
    · rename_i h1
      unfold Pl.left at h1
      omega

set_option maxHeartbeats 800000 in
theorem rbits_any (p : Nat) (bs : List UInt8) (a : Nat) (e n : Int) (w : World) (h : Rr w p D bs a e) :
    Calls Try.prog 32 #[.pointer (some ⟨p, 0, none⟩), .int .i64 n] w (RdPost w p D bs (Pl.rdA bs a e (cl32 n)) (Pl.rdE bs a e (cl32 n : Nat)) (.int .u32 (Pl.rdV bs a e (cl32 n)))) := by
  have hm := cl32_le n
  have kB := hide (fun w => bounded_any n w)
  generalize cl32 n = m at *
  have kR := hide (ready_any p bs a e (m : Int) w h)
  have hle := rdE_le bs a e m
  have kP := hide (fun w h ha => pbits_any (D := D) p bs a m w h hm ha)
  unfold Pl.rdA Pl.rdV
  unfold rdyB at kR
  clear h
  generalize Pl.rdE bs a e (m : Int) = E at *
  by_cases hE : E = 0
  · subst hE
    have HLE := hide (hle rfl)
    simp only [decide_true] at kR
    simp only [if_true]
    generalize Pl.num (Pl.bitsAt bs a m) = V at *
    clear hle
    go_enter Try.func32, Try.ntmps32
    go_wp2_with (fail)
    refine (kB.out _).mono ?_
    rintro e1 w' ⟨rfl, rfl⟩
    go_wp2_with (fail)
    refine kR.out.mono ?_
    rintro e1 w1 ⟨rfl, hr1, hu1⟩
    have R1 := hide hr1
    have U1 := hide hu1
    clear hr1 hu1
    go_wp2_with (fail)
    refine (kP.out _ R1.out.1 HLE.out).mono ?_
    rintro e1 w2 ⟨rfl, hp2, ht2, hu2⟩
    have R2 := hide (R1.out.tail hp2 ht2)
    have U2 := hide (U1.out.trans (Mv.refl _ _) hu2)
    clear hp2 ht2 hu2
    go_wp2
    go_ret
    exact ⟨rfl, R2.out, U2.out⟩
  · have e2 : decide (E = 0) = false := by simp [hE]
    rw [e2] at kR
    simp only [if_neg hE]
    clear hle e2 hE
    go_enter Try.func32, Try.ntmps32
    go_wp2_with (fail)
    refine (kB.out _).mono ?_
    rintro e1 w' ⟨rfl, rfl⟩
    go_wp2_with (fail)
    refine kR.out.mono ?_
    rintro e1 w1 ⟨rfl, hr1, hu1⟩
    have R1 := hide hr1
    have U1 := hide hu1
    clear hr1 hu1
    go_wp2
    go_ret
    exact ⟨rfl, R1.out, U1.out⟩
theorem rbits_nil (n : Int) (w : World) :
    Calls Try.prog 32 #[.pointer none, .int .i64 n] w fun e w' => e = .returned (.int .u32 0) ∧ w = w' := by
  have kB := hide (fun w => bounded_any n w)
  have kN := hide (fun w => ready_nil (cl32 n : Nat) w)
  generalize cl32 n = m at *
  go_enter Try.func32, Try.ntmps32
  go_wp2_with (fail)
  refine (kB.out _).mono ?_
  rintro e1 w' ⟨rfl, rfl⟩
  go_wp2_with (fail)
  refine (kN.out _).mono ?_
  rintro e1 w' ⟨rfl, rfl⟩
  go_wp2
  go_ret
  exact ⟨rfl, rfl⟩

theorem num_one (bs : List UInt8) (a : Nat) : Pl.num (Pl.bitsAt bs a 1) = if Pl.bitAt bs a then 1 else 0 := by
  rw [show (1 : Nat) = 0 + 1 by rfl, Pl.bitsAt_succ, Pl.bitsAt_zero, Pl.num_snoc, Pl.num_nil]
  simp

set_option maxHeartbeats 800000 in
theorem rbit_any (p : Nat) (bs : List UInt8) (a : Nat) (e : Int) (w : World) (h : Rr w p D bs a e) :
    Calls Try.prog 47 #[.pointer (some ⟨p, 0, none⟩)] w (RdPost w p D bs (Pl.rdA bs a e 1) (Pl.rdE bs a e (1 : Nat)) (.int .i64 (Pl.rdV bs a e 1))) := by
  have kR := hide (ready_any p bs a e ((1 : Nat) : Int) w h)
  have hle := rdE_le bs a e 1
  have kP := hide (fun w h ha => pbit_any (D := D) p bs a w h ha)
  rw [← num_one] at kP
  unfold Pl.rdA Pl.rdV
  unfold rdyB at kR
  clear h
  have e1 : ((1 : Nat) : Int) = 1 := rfl
  rw [e1] at kR hle ⊢
  generalize Pl.rdE bs a e 1 = E at *
  by_cases hE : E = 0
  · subst hE
    have HLE := hide (hle rfl)
    simp only [decide_true] at kR
    simp only [if_true]
    generalize Pl.num (Pl.bitsAt bs a 1) = V at *
    clear hle e1
    go_enter Try.func47, Try.ntmps47
    go_wp2_with (fail)
    refine kR.out.mono ?_
    rintro e1 w1 ⟨rfl, hr1, hu1⟩
    have R1 := hide hr1
    have U1 := hide hu1
    clear hr1 hu1
    go_wp2_with (fail)
    refine (kP.out _ R1.out.1 HLE.out).mono ?_
    rintro e1 w2 ⟨rfl, hp2, ht2, hu2⟩
    have R2 := hide (R1.out.tail hp2 ht2)
    have U2 := hide (U1.out.trans (Mv.refl _ _) hu2)
    clear hp2 ht2 hu2
    go_wp2
    go_ret
    exact ⟨rfl, R2.out, U2.out⟩
  · have e2 : decide (E = 0) = false := by simp [hE]
    rw [e2] at kR
    simp only [if_neg hE]
    clear hle e2 hE e1
    go_enter Try.func47, Try.ntmps47
    go_wp2_with (fail)
    refine kR.out.mono ?_
    rintro e1 w1 ⟨rfl, hr1, hu1⟩
    have R1 := hide hr1
    have U1 := hide hu1
    clear hr1 hu1
    go_wp2
    go_ret
    exact ⟨rfl, R1.out, U1.out⟩
theorem rbit_nil (w : World) :
    Calls Try.prog 47 #[.pointer none] w fun e w' => e = .returned (.int .i64 0) ∧ w = w' := by
  go_enter Try.func47, Try.ntmps47
  go_wp2_with (fail)
  refine (ready_nil _ _).mono ?_
  rintro e1 w' ⟨rfl, rfl⟩
  go_wp2
  go_ret
  exact ⟨rfl, rfl⟩
end Go.Proofs.Ytikfogepdmpfaaa
