import Derived.Test.YtikfogepdmpfaaaRed7
import Derived.Test.YtikfogepdmpfaaaLawBitO
namespace Go.Proofs.Ytikfogepdmpfaaa
open Go.RowKit

theorem bits_split (k d : Nat) : ∀ v : Int, Pl.bitsOf v (k + d) = Pl.bitsOf (v / 2 ^ d) k ++ Pl.bitsOf v d := by
  induction d with
  | zero => intro v; simp [Pl.bitsOf]
  | succ d ih =>
    intro v
    rw [show k + (d + 1) = (k + d) + 1 by omega, Pl.bitsOf_succ, ih, Pl.bitsOf_succ v d, List.append_assoc]
    rw [Int.pow_succ, Int.mul_comm (2 ^ d) 2, ← Int.ediv_ediv_of_nonneg (by omega)]
theorem num_app (a b : List Bool) : Pl.num (a ++ b) = Pl.num a * 2 ^ b.length + Pl.num b := by
  refine Pl.bsnoc_ind (p := fun b => Pl.num (a ++ b) = Pl.num a * 2 ^ b.length + Pl.num b) (by simp [Pl.num_nil]) (fun b c h => ?_) b
  rw [← List.append_assoc, Pl.num_snoc, Pl.num_snoc, h, List.length_append, List.length_singleton, Int.pow_succ, ← Int.mul_assoc]
  generalize Pl.num a * 2 ^ b.length = X
  omega
theorem or_u64_low (h l : Int) (d : Nat) (h0 : 0 ≤ h) (l0 : 0 ≤ l) (l1 : l < 2 ^ d) (hs : h * 2 ^ d + l < 18446744073709551616) : bits BinOp.or IntKind.u64 (h * 2 ^ d) l = h * 2 ^ d + l := by
  have hd : (0 : Int) < 2 ^ d := Int.pow_pos (by omega)
  have hm0 : 0 ≤ h * 2 ^ d := Int.mul_nonneg h0 (by omega)
  have hmd : h * 2 ^ d = ((2 ^ d * h.toNat : Nat) : Int) := by
    rw [Int.natCast_mul, Int.toNat_of_nonneg h0, Int.mul_comm]
    simp
  have hln : l.toNat < 2 ^ d := by
    have e : ((2 ^ d : Nat) : Int) = 2 ^ d := by simp
    omega
  show IntKind.u64.wrap ((BitVec.ofInt 64 (h * 2 ^ d) ||| BitVec.ofInt 64 l).toNat : Int) = _
  rw [BitVec.toNat_or, BitVec.toNat_ofInt, BitVec.toNat_ofInt]
  have e1 : (h * 2 ^ d % (2 ^ 64 : Nat)).toNat = 2 ^ d * h.toNat := by omega
  have e2 : (l % (2 ^ 64 : Nat)).toNat = l.toNat := by omega
  rw [e1, e2, ← Nat.two_pow_add_eq_or_of_lt hln, IntKind.wrap_u64]
  omega

set_option maxRecDepth 100000 in
set_option maxHeartbeats 1600000 in
theorem bitsSplit_walk (v n0 a0 : Int) (w : World) (hv : (Lit.int .u32 v).wf = true) (_hn : (Lit.int .i64 n0).wf = true) (_ha : (Lit.int .i64 a0).wf = true) :
    Calls Try.prog 5 #[.int .u32 v, .int .i64 n0, .int .i64 a0] w fun e w' => e = .returned (.bool true) ∧ Below w.heap.size w w' := by
  have hv2 : 0 ≤ v ∧ v < 4294967296 := by
    simp [Lit.wf, IntKind.min, IntKind.max, IntKind.signed, IntKind.bits] at hv
    omega
  obtain ⟨m, hm⟩ : ∃ m : Nat, (IntKind.u64.wrap n0 % 33).toNat = m := ⟨_, rfl⟩
  have hw0 : 0 ≤ IntKind.u64.wrap n0 := by rw [IntKind.wrap_u64]; omega
  have hxm : (IntKind.u64.wrap n0).tmod 33 = (m : Int) := by
    rw [Int.tmod_eq_emod_of_nonneg hw0]
    omega
  have hw1 : 0 ≤ IntKind.u64.wrap a0 := by rw [IntKind.wrap_u64]; omega
  obtain ⟨k, hk⟩ : ∃ k : Nat, (IntKind.u64.wrap a0 % ((m : Int) + 1)).toNat = k := ⟨_, rfl⟩
  have hmod := Int.emod_nonneg (IntKind.u64.wrap a0) (show (m : Int) + 1 ≠ 0 by omega)
  have hmod2 := Int.emod_lt_of_pos (IntKind.u64.wrap a0) (show 0 < (m : Int) + 1 by omega)
  have hxk : (IntKind.u64.wrap a0).tmod ((m : Int) + 1) = (k : Int) := by
    rw [Int.tmod_eq_emod_of_nonneg hw1]
    omega
  have hkm : k ≤ m := by omega
  obtain ⟨d, hd⟩ : ∃ d, m - k = d := ⟨_, rfl⟩
  have hdd : (m : Int) - (k : Int) = (d : Int) := by omega
  have hm32 : (m : Int) ≤ 32 := by omega
  have hm0 : (0 : Int) ≤ (m : Int) := by omega
  have hk0 : (0 : Int) ≤ (k : Int) := by omega
  have hk1 : (k : Int) ≤ 32 := by omega
  have hd0 : (0 : Int) ≤ (d : Int) := by omega
  have hd1 : (d : Int) ≤ 32 := by omega
  have hcm : Hid (cl32 (m : Int) = m) := by unfold Hid cl32; omega
  have hck : Hid (cl32 (k : Int) = k) := by unfold Hid cl32; omega
  have hcd : Hid (cl32 (d : Int) = d) := by unfold Hid cl32; omega
  have hsp : Hid (Pl.bitsOf v m = Pl.bitsOf (v / 2 ^ d) k ++ Pl.bitsOf v d) := by
    have := bits_split k d v
    rwa [show k + d = m by omega] at this
  have hlens := hide (And.intro (Pl.bitsOf_length v m) (And.intro (Pl.bitsOf_length (v / 2 ^ d) k) (Pl.bitsOf_length v d)))
  have HKD : Hid (k + d = m) := by unfold Hid; omega
  have HM32 : Hid (m ≤ 32) := by unfold Hid; omega
  clear hm hk hmod hmod2 hd hv _hn _ha hw0 hw1 hkm
  have WN1 := (Wr.new w w.heap.size 25).alloc (.cells #[.slice none 0 0, .int .i64 0] 25)
  have WN2 := Wr.new (w.alloc (.cells #[.slice none 0 0, .int .i64 0] 25)) w.heap.size 25
  have hb0 := ((Below.refl w.heap.size w).alloc (Nat.le_refl _) (.cells #[.slice none 0 0, .int .i64 0] 25)).alloc (by simp) (.cells #[.slice none 0 0, .int .i64 0] 25)
  rw [show (w.alloc (.cells #[.slice none 0 0, .int .i64 0] 25)).heap.size = w.heap.size + 1 by simp] at WN2
  have N1 := hide WN1
  have N2 := hide WN2
  have B0 := hide hb0
  clear WN1 WN2 hb0
  go_enter Try.func5, Try.ntmps5
  go_wp2_with (fail)
  refine (bits_any v (m : Int) w.heap.size w.heap.size none [] _ N1.out (by simp) B0.out.size).mono ?_
  rintro e w1 ⟨rfl, g1, hw1, hu1, hm1⟩
  rw [hcm.out, List.nil_append] at hw1
  have W1 := hide hw1
  have V1 := hide (N2.out.upd hu1 (by omega) (by simp) (by simp) (.inl rfl))
  have hs1 : Sep (w.heap.size + 1) none w.heap.size g1 := N2.out.sepmv hm1 ⟨by omega, by simp, by simp, .inl rfl⟩
  have S1 := hide hs1.symm
  have B1 := hide (B0.out.trans (hu1.below (B := w.heap.size) (Nat.le_refl _) (fun k hk => by cases hk) B0.out.size))
  clear hw1 hu1 hm1 N1 N2 B0 hs1
  go_wp2_with (fail)
  refine (bits_any (v / 2 ^ d) (k : Int) w.heap.size (w.heap.size + 1) none [] _ V1.out (by simp) B1.out.size).mono ?_
  rintro e w2 ⟨rfl, g2, hw2, hu2, hm2⟩
  rw [hck.out, List.nil_append] at hw2
  have V2 := hide hw2
  have W2 := hide (W1.out.sep hu2 S1.out)
  have S2 := hide (W1.out.sepmv hm2 S1.out)
  have B2 := hide (B1.out.trans (hu2.below (B := w.heap.size) (by omega) (fun k hk => by cases hk) B1.out.size))
  clear hw2 hu2 hm2 V1 W1 S1 B1
  go_wp2_with (fail)
  refine (bits_any v (d : Int) w.heap.size (w.heap.size + 1) g2 _ _ V2.out (by have := hlens.out; omega) B2.out.size).mono ?_
  rintro e w3 ⟨rfl, g3, hw3, hu3, hm3⟩
  rw [hcd.out, ← hsp.out] at hw3
  have V3 := hide hw3
  have W3 := hide (W2.out.sep hu3 S2.out)
  have B3 := hide (B2.out.trans (hu3.below (B := w.heap.size) (by omega) (fun q hq => (V2.out.glt q hq).1) B2.out.size))
  clear hw3 hu3 hm3 V2 W2 S2 B2
  go_wp2_with (fail)
  refine (wbytes_any _ _ _ _ _ W3.out (by have := hlens.out; have := HM32.out; omega)).mono ?_
  rintro e w4 ⟨A4, n4, c4, rfl, hf4⟩
  have W4 := hide (W3.out.below hf4.below)
  have V4 := hide (V3.out.below hf4.below)
  have B4 := hide (B3.out.trans (hf4.below.mono B3.out.size))
  have R4 := hide hf4.rd
  have hn4 := hide (show n4 ≤ 1099511627776 by
    have h1 := RdB.length hf4.rd
    rw [Pl.pack_length] at h1
    have := hlens.out
    have := HM32.out
    omega)
  clear hf4 W3 V3 B3
  go_wp2_with (fail)
  refine (new_any A4 n4 c4 _ _ R4.out hn4.out).mono ?_
  rintro e w5 ⟨p5, rfl, hr5, hb5, hp5⟩
  have W5 := hide (W4.out.below hb5)
  have V5 := hide (V4.out.below hb5)
  have B5 := hide (B4.out.trans (hb5.mono B4.out.size))
  have R5 := hide (R4.out.below hb5 (Nat.le_refl _))
  have P5 := hide hr5
  have HP5 := hide (Nat.le_trans B4.out.size hp5)
  clear hr5 hb5 hp5 W4 V4 B4 R4
  go_wp2_with (fail)
  refine (new_any A4 n4 c4 _ _ R5.out hn4.out).mono ?_
  rintro e w6 ⟨p6, rfl, hr6, hb6, hp6⟩
  have W6 := hide (W5.out.below hb6)
  have V6 := hide (V5.out.below hb6)
  have B6 := hide (B5.out.trans (hb6.mono B5.out.size))
  have R6 := hide (R5.out.below hb6 (Nat.le_refl _))
  have P6 := hide (P5.out.below hb6)
  have Q6 := hide hr6
  have HP6 := hide (Nat.le_trans B5.out.size hp6)
  have hpp := hide (show p5 < p6 ∧ p5 < w5.heap.size from ⟨by have := P5.out.lt; omega, P5.out.lt⟩)
  clear hr6 hb6 hp6 W5 V5 B5 R5 P5
  go_wp2_with (fail)
  refine (awake01_any _).mono ?_
  rintro e w7 ⟨rfl, hb7⟩
  have W7 := hide (W6.out.below hb7)
  have V7 := hide (V6.out.below hb7)
  have B7 := hide (B6.out.trans (hb7.mono B6.out.size))
  have R7 := hide (R6.out.below hb7 (Nat.le_refl _))
  have P7 := hide (P6.out.below hb7)
  have Q7 := hide (Q6.out.below hb7)
  clear hb7 W6 V6 B6 R6 P6 Q6
  go_wp2_with (fail)
  refine (wbytes_any _ _ _ _ _ V7.out (by have := hlens.out; have := HM32.out; omega)).mono ?_
  rintro e w8 ⟨A8, n8, c8, rfl, hf8⟩
  have W8 := hide (W7.out.below hf8.below)
  have B8 := hide (B7.out.trans (hf8.below.mono B7.out.size))
  have P8 := hide (P7.out.below hf8.below)
  have Q8 := hide (Q7.out.below hf8.below)
  have k8 := hide (sameBytes_any _ _ _ _ _ _ _ _ w8 (R7.out.below hf8.below (Nat.le_refl _)) hf8.rd)
  clear hf8 W7 V7 B7 R7 P7 Q7
  go_wp2_with (fail)
  refine k8.out.mono ?_
  rintro e w9 ⟨rfl, rfl⟩
  simp only [decide_true]
  have kl := wlen_any _ _ _ _ _ W8.out
  rw [hlens.out.1] at kl
  have kl := hide kl
  go_wp2_with (fail)
  refine kl.out.mono ?_
  rintro e w9 ⟨rfl, rfl⟩
  have hpl : Hid (8 * (Pl.pack (Pl.bitsOf v m)).length ≥ m) := by
    have h1 := Pl.pack_length (Pl.bitsOf v m)
    have h2 := hlens.out
    unfold Hid
    omega
  have k1 := rbits_any p5 _ 0 0 (m : Int) w8 P8.out
  have k2 := fun w' h => rbits_any p6 (Pl.pack (Pl.bitsOf v m)) 0 0 (k : Int) w' (D := fun b => w5.heap.size ≤ b ∧ b < p6) h
  have k3 := fun w' h => rbits_any p6 (Pl.pack (Pl.bitsOf v m)) k 0 (d : Int) w' (D := fun b => w5.heap.size ≤ b ∧ b < p6) h
  have hi1 := rd_in (Pl.pack (Pl.bitsOf v m)) 0 m (by have := hpl.out; omega)
  have hi2 := rd_in (Pl.pack (Pl.bitsOf v m)) 0 k (by have := hpl.out; have := HKD.out; omega)
  have hi3 := rd_in (Pl.pack (Pl.bitsOf v m)) k d (by have := hpl.out; have := HKD.out; omega)
  rw [hcm.out, hi1.1, hi1.2.1, hi1.2.2] at k1
  rw [hck.out, hi2.1, hi2.2.1, hi2.2.2, Nat.zero_add] at k2
  rw [hcd.out, hi3.1, hi3.2.1, hi3.2.2] at k3
  rw [Pl.bitsAt_pack _ 0 m (by have := hlens.out; omega)] at k1
  rw [Pl.bitsAt_pack _ 0 k (by have := hlens.out; have := HKD.out; omega)] at k2
  rw [Pl.bitsAt_pack _ k d (by have := hlens.out; have := HKD.out; omega)] at k3
  rw [List.drop_zero, List.take_of_length_le (by have := hlens.out; omega)] at k1
  rw [List.drop_zero] at k2
  have ht1 : (Pl.bitsOf v m).take k = Pl.bitsOf (v / 2 ^ d) k := by rw [hsp.out, List.take_left' hlens.out.2.1]
  have ht2 : ((Pl.bitsOf v m).drop k).take d = Pl.bitsOf v d := by rw [hsp.out, List.drop_left' hlens.out.2.1, List.take_of_length_le (by have := hlens.out; omega)]
  rw [ht1] at k2
  rw [ht2] at k3
  have hnum : Pl.num (Pl.bitsOf v m) = Pl.num (Pl.bitsOf (v / 2 ^ d) k) * 2 ^ d + Pl.num (Pl.bitsOf v d) := by
    rw [hsp.out, num_app, hlens.out.2.2]
  have hb1 := Pl.num_bd (Pl.bitsOf (v / 2 ^ d) k)
  have hb2 := Pl.num_bd (Pl.bitsOf v d)
  have hb3 := Pl.num_bd (Pl.bitsOf v m)
  have hb4 : (2 : Int) ^ (Pl.bitsOf v m).length ≤ 4294967296 := by
    rw [hlens.out.1]
    have := Nat.pow_le_pow_right (n := 2) (by omega) HM32.out
    have e : ((2 ^ m : Nat) : Int) = 2 ^ m := by simp
    omega
  have hb5 : (2 : Int) ^ (Pl.bitsOf (v / 2 ^ d) k).length ≤ 4294967296 := by
    rw [hlens.out.2.1]
    have := Nat.pow_le_pow_right (n := 2) (by omega) (show k ≤ 32 by omega)
    have e : ((2 ^ k : Nat) : Int) = 2 ^ k := by simp
    omega
  rw [hlens.out.2.2] at hb2
  have HK1 := hide k1
  have HK2 := hide k2
  have HK3 := hide k3
  clear k1 k2 k3 hi1 hi2 hi3 ht1 ht2
  generalize Pl.num (Pl.bitsOf v m) = X at *
  generalize Pl.num (Pl.bitsOf (v / 2 ^ d) k) = Y at *
  generalize Pl.num (Pl.bitsOf v d) = Z at *
  have hX0 : 0 ≤ X := hb3.1
  have hX1 : X < 4294967296 := by omega
  have hY0 : 0 ≤ Y := hb1.1
  have hZ0 : 0 ≤ Z := hb2.1
  have hor := or_u64_low Y Z d hY0 hZ0 hb2.2 (by omega)
  have hm5 : 0 ≤ Y * 2 ^ d := Int.mul_nonneg hY0 (Int.le_of_lt (Int.pow_pos (by omega)))
  have hm6 : Y * 2 ^ d < 18446744073709551616 := by omega
  have HX := hide hnum
  have hE : Hid ((X == bits BinOp.or IntKind.u64 (IntKind.u64.wrap (IntKind.u64.wrap Y * 2 ^ d)) (IntKind.u64.wrap Z)) = true) := by
    have e1 : IntKind.u64.wrap Y = Y := by rw [IntKind.wrap_u64]; omega
    have e2 : IntKind.u64.wrap Z = Z := by rw [IntKind.wrap_u64]; omega
    have e3 : IntKind.u64.wrap (Y * 2 ^ d) = Y * 2 ^ d := by rw [IntKind.wrap_u64]; omega
    unfold Hid
    rw [e1, e2, e3, hor, ← hnum]
    simp
  clear hb1 hb2 hb3 hb4 hb5 hnum hor hm5 hm6
  go_wp2_with (fail)
  refine HK1.out.mono ?_
  rintro e w10 ⟨rfl, _, hu10⟩
  have B10 := hide (B8.out.trans (hu10.below (B := w.heap.size) HP5.out (fun _ e => by cases e) B8.out.size))
  have Q10 := hide (Q8.out.upd hu10 (by have := hpp.out; omega) (by simp) (fun h => by have := hpp.out; have := h.1; omega) (fun _ e => by cases e))
  clear hu10
  go_wp2_with (fail)
  refine (HK2.out _ Q10.out).mono ?_
  rintro e w11 ⟨rfl, hr11, hu11⟩
  have B11 := hide (B10.out.trans (hu11.below (B := w.heap.size) HP6.out (fun _ e => by cases e) B10.out.size))
  have Q11 := hide hr11
  clear hu11 hr11
  go_wp2_with (fail)
  refine (HK3.out _ Q11.out).mono ?_
  rintro e w12 ⟨rfl, hr12, hu12⟩
  have B12 := hide (B11.out.trans (hu12.below (B := w.heap.size) HP6.out (fun _ e => by cases e) B11.out.size))
  clear hu12 hr12
  go_wp2
  go_ret
  exact ⟨ret_bool hE.out, B12.out⟩
end Go.Proofs.Ytikfogepdmpfaaa
