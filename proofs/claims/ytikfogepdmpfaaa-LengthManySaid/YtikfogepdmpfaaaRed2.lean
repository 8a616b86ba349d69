import Derived.Test.YtikfogepdmpfaaaRed1
namespace Go.Proofs.Ytikfogepdmpfaaa
open Go.RowKit
variable {D : Nat → Prop}

theorem or_low1 (z c : Int) (h0 : 0 ≤ z) (h1 : z * 2 < 4294967296) (hc : c = 0 ∨ c = 1) : bits BinOp.or IntKind.u32 (z * 2) c = z * 2 + c := by
  show IntKind.u32.wrap ((BitVec.ofInt 32 (z * 2) ||| BitVec.ofInt 32 c).toNat : Int) = _
  rw [BitVec.toNat_or, BitVec.toNat_ofInt, BitVec.toNat_ofInt]
  have e1 : (z * 2 % (2 ^ 32 : Nat)).toNat = 2 ^ 1 * z.toNat := by omega
  have e2 : (c % (2 ^ 32 : Nat)).toNat = c.toNat := by omega
  rw [e1, e2, ← Nat.two_pow_add_eq_or_of_lt (by omega), IntKind.wrap_u32]
  omega
theorem pow_le31 {n : Nat} (h : n ≤ 31) : (2 : Int) ^ n ≤ 2147483648 := by
  have := Nat.pow_le_pow_right (n := 2) (by omega) h
  have e : ((2 ^ n : Nat) : Int) = 2 ^ n := by simp
  omega

def PBitsRel (D : Nat → Prop) (bs : List UInt8) (p a n : Nat) (w0 : World) (v i : Value) (wr : World) : Prop :=
  ∃ k : Nat, k ≤ n ∧ i = .int .i64 (k : Int) ∧ v = .int .u32 (Pl.num (Pl.bitsAt bs a k)) ∧ Hid (Pp wr p D bs (a + k)) ∧ Hid (Tail2 p w0 wr) ∧ Hid (Upd p none w0 wr)

set_option maxRecDepth 100000 in
set_option maxHeartbeats 800000 in
theorem pbits_any (p : Nat) (bs : List UInt8) (a n : Nat) (w : World) (h : Pp w p D bs a) (hn : n ≤ 32) (ha : a + n ≤ 8 * bs.length) :
    Calls Try.prog 87 #[.pointer (some ⟨p, 0, none⟩), .int .i64 (n : Int)] w fun e w' => e = .returned (.int .u32 (Pl.num (Pl.bitsAt bs a n))) ∧ Pp w' p D bs (a + n) ∧ Tail2 p w w' ∧ Upd p none w w' := by
  have H := hide h
  have HA := hide ha
  clear h ha
  go_enter Try.func87, Try.ntmps87
  go_wp2
  go_loopw [5, 7] (PBitsRel D bs p a n w) (fun _ i _ => n - (intOf i).toNat)
  case atStart => exact ⟨0, Nat.zero_le _, rfl, rfl, H.out, Tail2.refl _ _, Upd.refl _ _ _⟩
  case round =>
    obtain ⟨k, hk, rfl, rfl, hp, ht, hu⟩ := hrel
    by_cases hlt : k < n
    · have hbd := Pl.num_bd (Pl.bitsAt bs a k)
      rw [Pl.bitsAt_length] at hbd
      have hp31 := pow_le31 (n := k) (by omega)
      have hsn := Pl.bitsAt_succ bs a k
      have hnum := hide (show Pl.num (Pl.bitsAt bs a (k + 1)) = Pl.num (Pl.bitsAt bs a k) * 2 + (if Pl.bitAt bs (a + k) then 1 else 0) by rw [hsn, Pl.num_snoc])
      have hz0 : 0 ≤ Pl.num (Pl.bitsAt bs a k) := hbd.1
      have hz1 : Pl.num (Pl.bitsAt bs a k) * 2 < 4294967296 := by omega
      clear hbd hp31 hsn
      have kB := hide (pbit_any p bs (a + k) wr hp.out (by have := HA.out; omega))
      generalize Pl.num (Pl.bitsAt bs a k) = z at *
      generalize Pl.bitAt bs (a + k) = bb at *
      have hor := hide (or_low1 z (if bb then 1 else 0) hz0 hz1 (by cases bb <;> simp))
      cases bb
      all_goals
        simp only [if_true, Bool.false_eq_true, if_false] at kB hnum hor
        have hor2 := hor.out
        go_wp2_with (fail)
        refine kB.out.mono ?_
        rintro e w2 ⟨rfl, hp2, ht2, hu2⟩
        have P2 := hide hp2
        have T2 := hide (ht.out.trans ht2)
        have U2 := hide (hu.out.trans (Mv.refl _ _) hu2)
        clear hp2 ht2 hu2
        go_wp2
        go_roundw
        case rel =>
          refine ⟨k + 1, hlt, by go_num, ?_, P2.out, T2.out, U2.out⟩
          rw [hnum.out]
          all_goals simp
        case measure => simp [intOf]; omega
    · obtain rfl : k = n := by omega
      go_wp2
      go_ret
      exact ⟨rfl, hp.out, ht.out, hu.out⟩

set_option maxRecDepth 100000 in
set_option maxHeartbeats 800000 in
theorem rat_any (p : Nat) (bs : List UInt8) (a i : Nat) (w : World) (h : Pp w p D bs a) (hi : i < 8 * bs.length) :
    Calls Try.prog 99 #[.pointer (some ⟨p, 0, none⟩), .int .i64 (i : Int)] w fun e w' => e = .returned (.int .i64 (if Pl.bitAt bs i then 1 else 0)) ∧ w = w' := by
  have hb := h.inb
  obtain ⟨A, n, c, h0, h1, f0, f1, hr, ho, _⟩ := h
  have hn := RdB.length hr
  obtain ⟨k, hk⟩ : ∃ k, i / 8 = k := ⟨_, rfl⟩
  obtain ⟨j, hj⟩ : ∃ j, i % 8 = j := ⟨_, rfl⟩
  have hkl : k < bs.length := by omega
  obtain ⟨b, o, rfl, hbz, hcell⟩ := RdB.at_ hr hkl
  have hbit : Pl.bitAt bs i = Pl.getB bs[k] j := by
    unfold Pl.bitAt
    rw [hk, hj, List.getD_eq_getElem?_getD, List.getElem?_eq_getElem hkl]
    rfl
  have hof := bit_of bs[k] j (by omega)
  rw [← hbit] at hof
  generalize bs[k] = x at *
  have hk' : (i : Int) / 8 = (k : Int) := by omega
  have hj' : (i : Int) % 8 = (j : Int) := by omega
  have hk0 : (0 : Int) ≤ (k : Int) := by omega
  have hkn : (k : Int) < (n : Int) := by omega
  have hj0 : (0 : Int) ≤ (j : Int) := by omega
  have hj8 : (j : Int) < 8 := by omega
  have ha0 : (0 : Int) ≤ (i : Int) := by omega
  have hs : IntKind.i64.wrap (7 - (j : Int)) = 7 - (j : Int) := IntWalk.i64_in _ ⟨by omega, by omega⟩
  have hx := x.toNat_lt
  clear hbit hk hj hn hr ho hi hb hx hbz
  generalize Pl.bitAt bs i = bb at *
  cases bb
  all_goals
    simp only [if_true, Bool.false_eq_true, if_false] at hof ⊢
    go_enter Try.func99, Try.ntmps99
    go_wp2
    go_ret
    exact ⟨rfl, rfl⟩
end Go.Proofs.Ytikfogepdmpfaaa
