import Derived.Test.YtikfogepdmpfaaaRed4
namespace Go.Proofs.Ytikfogepdmpfaaa
open Go.RowKit
variable {D : Nat → Prop}

/-- What a read of octets leaves. -/
def RoPost (w : World) (p : Nat) (D : Nat → Prop) (bs : List UInt8) (a : Nat) (e : Int) (l : List UInt8) (en : Ending) (w' : World) : Prop :=
  ∃ A n c, en = .returned (.slice A n c) ∧ Rr w' p D bs a e ∧ Upd p none w w' ∧ w'.ownsRow w.heap.size 5 1 (.slice A n c) n (bv l)
def clOct (n : Int) : Nat := (max n 0).toNat

theorem rdE_8 (bs : List UInt8) (a : Nat) (e : Int) (m M : Nat) (hM : M = if bs.length < m then bs.length + 1 else m) : Pl.rdE bs a e ((8 * M : Nat) : Int) = Pl.rdE bs a e ((8 * m : Nat) : Int) := by
  subst hM
  split
  · unfold Pl.rdE Pl.left
    by_cases he : e ≠ 0
    · rw [if_pos he, if_pos he]
    · rw [if_neg he, if_neg he, if_pos (by omega), if_pos (by omega)]
  · rfl
theorem bv_snoc8 (l : List UInt8) (z : Int) (h0 : 0 ≤ z) (h1 : z < 256) : bv l ++ [Value.int .u8 z] = bv (l ++ [Pl.by8 z]) := by
  have hb := Pl.by8_val z
  rw [Int.emod_eq_of_lt h0 h1] at hb
  rw [bv_append]
  unfold bv
  simp [hb]

def ROcRel (D : Nat → Prop) (bs : List UInt8) (p a m : Nat) (w0 : World) (out i : Value) (wr : World) : Prop :=
  ∃ (k : Nat) (A : Option Addr) (c : Nat), k ≤ m ∧ i = .int .i64 (k : Int) ∧ out = .slice A k c ∧ Hid (Rr wr p D bs (a + 8 * k) 0) ∧ Hid (Upd p none w0 wr) ∧ Hid (wr.ownsRow w0.heap.size 5 1 (.slice A k c) k (bv (Pl.octsAt bs a k)))

set_option maxRecDepth 100000 in
set_option maxHeartbeats 1600000 in
theorem rocts_any (p : Nat) (bs : List UInt8) (a : Nat) (e n : Int) (w : World) (h : Rr w p D bs a e) (hn1 : n ≤ 9223372036854775807) :
    Calls Try.prog 48 #[.pointer (some ⟨p, 0, none⟩), .int .i64 n] w (RoPost w p D bs (Pl.rdA bs a e (8 * clOct n)) (Pl.rdE bs a e ((8 * clOct n : Nat) : Int)) (Pl.rdO bs a e (clOct n))) := by
  obtain ⟨i0, hi, hz0, hz1, hz2⟩ := info_parts Try.info_byte
  obtain ⟨m, hm⟩ : ∃ m, clOct n = m := ⟨_, rfl⟩
  rw [hm]
  unfold clOct at hm
  obtain ⟨M, hM⟩ : ∃ M, M = if bs.length < m then bs.length + 1 else m := ⟨_, rfl⟩
  have hE := rdE_8 bs a e m M hM
  have hle := rdE_le bs a e (8 * m)
  have kR := hide (ready_any p bs a e ((8 * M : Nat) : Int) w h)
  unfold rdyB at kR
  rw [hE] at kR
  have H := hide h
  have HD := hide (fun k (hk : w.heap.size ≤ k) => h.dnew (k := k) (Nat.le_trans (Nat.le_of_lt h.lt) hk))
  have hlen := h.inb.2
  have hps := h.lt
  obtain ⟨⟨A, nn, c, h0, h1, f0, f1, hr, ho, hb⟩, h2, f2⟩ := h
  have hnn := RdB.length hr
  subst hnn
  have hnm := hr.lenmax
  have hcs : (n < 0 ∧ m = 0 ∧ M = 0) ∨ (0 ≤ n ∧ n = (m : Int) ∧ (bs.length : Int) < n ∧ M = bs.length + 1) ∨ (0 ≤ n ∧ n = (m : Int) ∧ n ≤ (bs.length : Int) ∧ M = m) := by
    by_cases h1 : n < 0
    · exact .inl ⟨h1, by omega, by rw [hM, if_neg (by omega)]; omega⟩
    · by_cases h2 : (bs.length : Int) < n
      · exact .inr (.inl ⟨by omega, by omega, h2, by rw [hM, if_pos (by omega)]⟩)
      · exact .inr (.inr ⟨by omega, by omega, by omega, by rw [hM, if_neg (by omega)]⟩)
  have hM1 : M ≤ 1099511627777 := by
    rw [hM]
    split <;> omega
  clear hM hr ho hb hm hE
  unfold Pl.rdA Pl.rdO
  generalize hEE : Pl.rdE bs a e ((8 * m : Nat) : Int) = E at *
  clear hEE
  by_cases hE : E = 0
  · subst hE
    have HLE := hide (hle rfl)
    simp only [decide_true] at kR
    simp only [if_true]
    clear hle
    have hMm : M = m := by
      rcases hcs with ⟨_, a1, a2⟩ | ⟨_, a1, a2, a3⟩ | ⟨_, _, _, a2⟩
      · omega
      · have := HLE.out
        omega
      · exact a2
    subst hMm
    have hcs2 : (n < 0 ∧ Hid (M = 0)) ∨ (0 ≤ n ∧ n = (M : Int) ∧ n ≤ (bs.length : Int)) := by
      rcases hcs with ⟨a0, a1, a2⟩ | ⟨a0, a1, a2, a3⟩ | ⟨a0, a1, a2, a3⟩
      · exact .inl ⟨a0, a2⟩
      · have := HLE.out
        omega
      · exact .inr ⟨a0, a1, a2⟩
    clear hcs
    rcases hcs2 with ⟨hn, HM⟩ | ⟨hn, rfl, hn2⟩
    · obtain rfl := HM.out
      clear HM
      go_enter Try.func48, Try.ntmps48
      go_wp2_with (fail)
      refine kR.out.mono ?_
      rintro e1 w1 ⟨rfl, hr1, hu1⟩
      have R1 := hide hr1
      have U1 := hide hu1
      clear hr1 hu1
      go_wp2_with (fail)
      go_loopw [5, 33] (ROcRel D bs p a 0 w) (fun _ _ _ => 0)
      case atStart => exact ⟨0, none, 0, Nat.zero_le _, rfl, rfl, R1.out, U1.out, World.ownsRow_nil _ _ _ _⟩
      case round =>
        obtain ⟨k, A1, c1, hk, rfl, rfl, hr, hu, ho⟩ := hrel
        obtain rfl : k = 0 := by omega
        go_wp2
        go_ret
        exact ⟨A1, _, c1, rfl, hr.out, hu.out, ho.out⟩
    · go_enter Try.func48, Try.ntmps48
      go_wp2_with (fail)
      refine kR.out.mono ?_
      rintro e1 w1 ⟨rfl, hr1, hu1⟩
      have R1 := hide hr1
      have U1 := hide hu1
      clear hr1 hu1
      go_wp2_with (fail)
      go_loopw [5, 33] (ROcRel D bs p a M w) (fun _ i _ => M - (intOf i).toNat)
      case atStart => exact ⟨0, none, 0, Nat.zero_le _, rfl, rfl, R1.out, U1.out, World.ownsRow_nil _ _ _ _⟩
      case round =>
        obtain ⟨k, A1, c1, hk, rfl, rfl, hr, hu, ho⟩ := hrel
        by_cases hlt : k < M
        · have kP := hide (pbits_any p bs (a + 8 * k) 8 wr hr.out.1 (by omega) (by have := HLE.out; omega))
          have hbd := Pl.num_bd (Pl.bitsAt bs (a + 8 * k) 8)
          rw [Pl.bitsAt_length] at hbd
          have zz0 := hbd.1
          have zz1 : Pl.num (Pl.bitsAt bs (a + 8 * k) 8) < 256 := hbd.2
          have hsn := hide (Pl.octsAt_succ bs a k)
          have hb8 := hide (bv_snoc8 (Pl.octsAt bs a k) _ zz0 zz1)
          have hkm : k + 1 ≤ 1099511627776 := by omega
          clear hbd
          generalize Pl.num (Pl.bitsAt bs (a + 8 * k) 8) = z at *
          go_wp2_with (fail)
          refine kP.out.mono ?_
          rintro e2 w2 ⟨rfl, hp2, ht2, hu2⟩
          have R2 := hide (hr.out.tail hp2 ht2)
          have U2 := hide (hu.out.trans (Mv.refl _ _) hu2)
          have hO2 := own_upd ho.out hu2 (fun j hj => ⟨by have := (ho.out.lt j hj).1; omega, by simp⟩)
          have O2 := hide (hO2.alloc (.cells #[.int .u8 z] 5))
          have hsz := hide (Nat.le_trans hu.out.size hu2.size)
          have hlt2 := hide (hO2.lt)
          clear hp2 ht2 hu2 hO2
          go_wp2_with (at_builtin; refine wpList_app _ rfl (.tmp 35) (.tmp 41) _ rfl w.heap.size 5 i0 (.int .u8 0) 1 Try.underlying23 hi hz0 hz1 hz2 rfl _ _ _ rfl O2.out _ _ _ _ rfl (Rd.one w2 _ 5) (one_int _ _) hkm (by omega) ?_ ?_)
          · have := hsz.out
            first | omega | (simp; omega)
          · intro A3 c3 w3 hown3 hg3 hl3
            rw [hb8.out, ← hsn.out] at hown3
            have R3 := hide ((R2.out.below ((Below.refl _ _).alloc (Nat.le_refl _) _)).grown hg3 (fun e => by have := (hlt2.out p e.symm).1; omega) (fun j hj => HD.out j (hlt2.out j hj).1))
            have U3 := hide (show Upd p none w w3 from ⟨hg3.os.trans U2.out.os, hg3.tape.trans U2.out.tape, hg3.output.trans U2.out.output, Nat.le_trans (Nat.le_trans U2.out.size (by simp)) hg3.size, fun j hj h1 h2 => by
              have hj2 : j < w2.heap.size := Nat.lt_of_lt_of_le hj U2.out.size
              refine ((hg3.block j (by simp; omega) (fun e => ?_)).trans (Below.heap_alloc _ _ _ hj2)).trans (U2.out.block j hj h1 h2)
              have := (hlt2.out j e.symm).1
              omega⟩)
            have O3 := hide hown3
            clear hown3 hg3 hl3
            go_wp2
            go_roundw
            case rel =>
              exact ⟨k + 1, A3, c3, hlt, by go_num, rfl, R3.out, U3.out, O3.out⟩
            case measure => simp [intOf]; omega
        · obtain rfl : k = M := by omega
          go_wp2
          go_ret
          exact ⟨A1, _, c1, rfl, hr.out, hu.out, ho.out⟩
  · have e2 : decide (E = 0) = false := by simp [hE]
    rw [e2] at kR
    simp only [if_neg hE]
    clear hle e2 hE
    rcases hcs with ⟨hn, hm, rfl⟩ | ⟨hn, rfl, hn2, rfl⟩ | ⟨hn, rfl, hn2, rfl⟩
    all_goals
      go_enter Try.func48, Try.ntmps48
      go_wp2_with (fail)
      refine kR.out.mono ?_
      rintro e1 w1 ⟨rfl, hr1, hu1⟩
      have R1 := hide hr1
      have U1 := hide hu1
      clear hr1 hu1
      go_wp2
      go_ret
      exact ⟨none, 0, 0, rfl, R1.out, U1.out, World.ownsRow_nil _ _ _ _⟩
end Go.Proofs.Ytikfogepdmpfaaa
