import Derived.Test.YtikfogepdmpfaaaTak
import Derived.Test.YtikfogepdmpfaaaAwake18
import Derived.OwnWalk
namespace Go.Proofs.Ytikfogepdmpfaaa
open Go.RowKit

theorem putL_leB : ∀ (ks : List Nat) (bs : List UInt8), (putL ks bs).length ≤ 16 * ks.length + 8 * bs.length
  | [], _ => by simp [putL]
  | k :: ks, bs => by
    have h1 := putL_leB ks (bs.drop k)
    have h2 := det_le (k : Int)
    simp only [putL, List.length_append, Pl.octB_length, List.length_take, List.length_cons]
    rw [List.length_drop] at h1
    omega
theorem kbitsK {D : Nat → Prop} {P q : Nat} {em : Bool} (L post : List Bool) (k : Nat) (hk : cl64 (k : Int) = k) (hL : L = Pl.bitsOf 0 k ++ post) (W : World) (h : Wd W P q D (packW L) 0 0 em) :
    Calls Try.prog 66 #[.pointer (some ⟨P, 0, none⟩), .int .i64 (k : Int)] W (WdPost W P q D (packW L) k 0 em (.int .u64 (Pl.num (Pl.bitsOf 0 k)))) := by
  have hx := wdBits_any (D := D) P q (packW L) 0 0 (k : Int) em W h
  obtain ⟨e1, e2, e3⟩ := back_bits L [] (Pl.bitsOf 0 k) post (by rw [hL]; rfl)
  rw [Pl.bitsOf_length] at e1 e2 e3
  simp only [List.length_nil, Nat.zero_add] at e1 e2 e3
  rw [hk, e1, e2, e3] at hx
  exact hx
theorem own_belowB {w w' : World} {base n size : Nat} {e : TypeId} {v : Value} {xs : List Value} (h : w.ownsRow base e size v n xs) (hb : Below w.heap.size w w') : w'.ownsRow base e size v n xs :=
  own_of_block h fun k hk => hb.block k (h.lt k hk).2
theorem bv_zeros (m : Nat) : bv (List.replicate m 0) = List.replicate m (.int .u8 0) := by simp [bv]
theorem bv_setL (b : List UInt8) (k : Nat) (v : Int) (h : 0 ≤ v ∧ v < 256) : ∃ b' : List UInt8, b'.length = b.length ∧ bv b' = (bv b).set k (.int .u8 v) := by
  refine ⟨b.set k (Pl.by8 v), by simp, ?_⟩
  unfold bv
  rw [List.map_set, Pl.by8_val, Int.emod_eq_of_lt h.1 h.2]

def LB1Rel (m : Nat) (w0 : World) (i : Value) (wr : World) : Prop :=
  ∃ (k : Nat) (b : List UInt8), k ≤ m ∧ i = .int .i64 (k : Int) ∧ Hid (b.length = m) ∧ wr.ownsRow w0.heap.size 5 1 (.slice (some ⟨w0.heap.size, 0, none⟩) m m) m (bv b) ∧ Below w0.heap.size w0 wr

set_option maxRecDepth 100000 in
set_option maxHeartbeats 3200000 in
theorem lengthBack_walk (x sd y : Int) (w : World) (_hx : (Lit.int .i64 x).wf = true) (_hs : (Lit.int .u8 sd).wf = true) (_hy : (Lit.int .i64 y).wf = true) :
    Calls Try.prog 14 #[.int .i64 x, .int .u8 sd, .int .i64 y] w fun e w' => e = .returned (.bool true) ∧ Below w.heap.size w w' := by
  obtain ⟨i0, hi, hz0, hz1, hz2⟩ := info_parts Try.info_byte
  obtain ⟨m, hm⟩ : ∃ m : Nat, (x % 18446744073709551616 % 70001).toNat = m := ⟨_, rfl⟩
  have hxm : (IntKind.u64.wrap x).tmod 70001 = (m : Int) := by
    rw [Int.tmod_eq_emod_of_nonneg (by rw [IntKind.wrap_u64]; omega), IntKind.wrap_u64]
    omega
  have hm7 : m ≤ 70000 := by omega
  obtain ⟨k, hk⟩ : ∃ k : Nat, (y % 8).toNat = k := ⟨_, rfl⟩
  have hyk : (IntKind.u64.wrap y).tmod 8 = (k : Int) := by
    rw [Int.tmod_eq_emod_of_nonneg (by rw [IntKind.wrap_u64]; omega), IntKind.wrap_u64]
    omega
  have hk8 : (k : Int) ≤ 7 := by omega
  have hk0 : (0 : Int) ≤ (k : Int) := by omega
  have hcl : Hid (cl64 (k : Int) = k) := by unfold Hid cl64; omega
  clear hm hk _hx _hs _hy
  go_enter Try.func14, Try.ntmps14
  go_wp2_with (at_make; refine wpList_make_full _ rfl _ _ 23 rfl w.heap.size 5 i0 (.int .u8 0) 1 Try.underlying23 hi hz0 hz1 _ _ _ _ m rfl rfl ?_ ?_ ?_ ?_ ?_ ?_)
  · rfl
  · rfl
  · rw [hz2]; omega
  · unfold maxLen; omega
  · exact Nat.le_refl _
  intro w1 hown hg
  rw [toList_madeCells_one, ← bv_zeros] at hown
  have hb1 : Below w.heap.size w w1 := (Below.refl _ _).grown hg (Nat.le_refl _) (fun k hk => by cases hk)
  have O1 := hide hown
  have B1 := hide hb1
  clear hown hb1 hg
  go_wp2_with (fail)
  go_loopw [23] (LB1Rel m w) (fun i _ => m - (intOf i).toNat)
  case atStart => exact ⟨0, _, Nat.zero_le _, rfl, by unfold Hid; simp, O1.out, B1.out⟩
  case round =>
    obtain ⟨j, b, hj, rfl, hbl, hown, hb⟩ := hrel
    have HW := hide hown
    have HB := hide hb
    by_cases hlt : j < m
    · have hcell := (hown.cellAt j (by omega)).trans (bv_at b j (by have := hbl.out; omega))
      have hfr := hown.frozenAt j
      have hst := hide (fun u => hown.stored j u)
      have hj0 : (0 : Int) ≤ (j : Int) := by omega
      have hj1 : (j : Int) < (m : Int) := by omega
      clear hown
      go_wp2
      go_roundw
      case measure => simp [intOf]; omega
      case rel =>
        obtain ⟨b', h1, h2⟩ := bv_setL b j ((sd + (j : Int) * 7) % 256) (by omega)
        exact ⟨j + 1, b', by omega, by go_num, by unfold Hid; rw [h1]; exact hbl.out, h2 ▸ (hst.out _).1, HB.out.setCell (Nat.le_refl _) _⟩
    · obtain rfl : j = m := by omega
      have N1 := hide (Wr.new wr w.heap.size 53)
      have B2 := hide (HB.out.alloc HB.out.size (.cells #[.slice none 0 0, .int .i64 0] 53))
      have O2 := hide (HW.out.alloc (.cells #[.slice none 0 0, .int .i64 0] 53))
      have hzz := hide (show w.heap.size < wr.heap.size from (HW.out.lt w.heap.size rfl).2)
      clear hown hb hlt O1 B1
      go_wp2_with (fail)
      refine (wBits_any 0 (k : Int) w.heap.size wr.heap.size none [] _ N1.out (by simp) B2.out.size (by omega) (by omega)).mono ?_
      rintro e w2 ⟨rfl, g2, hw2, hu2, hm2⟩
      rw [hcl.out, List.nil_append] at hw2
      have W3 := hide (hw2.alloc (.cells #[.slice (some ⟨w.heap.size, 0, none⟩) j j] 23))
      have O3 := hide ((own_upd O2.out hu2 (fun q hq => by
        have hq : w.heap.size = q := by simpa [Value.ownBlock] using hq
        have := hzz.out
        exact ⟨by omega, by simp⟩)).alloc (.cells #[.slice (some ⟨w.heap.size, 0, none⟩) j j] 23))
      have B3 := hide ((B2.out.trans (hu2.below (B := w.heap.size) (Nat.le_of_lt hzz.out) (fun q hq => by cases hq) B2.out.size)).alloc (by have := B2.out.size; have := hu2.size; omega) (.cells #[.slice (some ⟨w.heap.size, 0, none⟩) j j] 23))
      have hg2 : Hid (∀ q, g2 = some q → wr.heap.size < q) := fun q hq => by
        rcases hm2 with rfl | ⟨z, rfl, hz⟩
        · cases hq
        · cases hq
          simp at hz
          omega
      have hrp : Hid (RdP (w2.alloc (.cells #[.slice (some ⟨w.heap.size, 0, none⟩) j j] 23)) (some ⟨w2.heap.size, 0, none⟩) 1 1 [b]) := ⟨[.slice (some ⟨w.heap.size, 0, none⟩) j j], Rd.one _ _ _, rfl, fun i l hil => by
        match i, hil with
        | 0, hil =>
          cases hil
          exact ⟨_, _, _, rfl, Rd.of_own O3.out⟩⟩
      have hflat : Hid (([b] : List (List UInt8)).flatten = b) := by unfold Hid; simp
      clear hw2 hu2 hm2 N1 B2 O2
      go_wp2_with (fail)
      refine (lPut_any w.heap.size wr.heap.size g2 _ _ _ _ [b] _ W3.out (by rw [Pl.bitsOf_length]; omega) B3.out.size hrp.out (by rw [hflat.out]; have := hbl.out; omega)).mono ?_
      rintro e w4 ⟨rfl, g4, hw4, hu4, hm4⟩
      rw [hflat.out] at hw4
      have W4 := hide hw4
      have O4 := hide (own_upd O3.out hu4 (fun q hq => by
        have hq : w.heap.size = q := by simpa [Value.ownBlock] using hq
        have := hzz.out
        exact ⟨by omega, fun e => by have := hg2.out _ e.symm; omega⟩))
      have B4 := hide (B3.out.trans (hu4.below (B := w.heap.size) (Nat.le_of_lt hzz.out) (fun q hq => by have := hg2.out q hq; have := hzz.out; omega) B3.out.size))
      have hLL : Hid ((Pl.bitsOf 0 k ++ putL (Pl.cuts b.length) b).length ≤ 3000000) := by
        have h1 := putL_leB (Pl.cuts b.length) b
        have h2 := cuts_len b.length
        have h3 := hbl.out
        show _ ≤ _
        rw [List.length_append, Pl.bitsOf_length]
        omega
      clear hw4 hu4 hm4 W3 O3 B3 hrp hflat hg2
      obtain ⟨L, hL⟩ : ∃ L, L = Pl.bitsOf 0 k ++ putL (Pl.cuts b.length) b := ⟨_, rfl⟩
      rw [← hL] at W4 hLL
      have HL := hide hL
      clear hL
      go_wp2_with (fail)
      refine (wBytes_any _ _ _ _ _ W4.out (by have := hLL.out; omega)).mono ?_
      rintro e w5 ⟨A5, n5, c5, rfl, hf5⟩
      have W5 := hide (W4.out.below hf5.below)
      have O5 := hide (own_belowB O4.out hf5.below)
      have B5 := hide (B4.out.trans (hf5.below.mono B4.out.size))
      have R5 := hide hf5.rd
      have hpm := packW_max L
      have hn5 := hide (show n5 ≤ 1099511627776 by
        have h1 := RdB.length hf5.rd
        have := hLL.out
        omega)
      have hz5 := hide (show w.heap.size < w5.heap.size by have := hf5.below.size; have := W4.out.lt; have := hzz.out; omega)
      clear hf5 W4 O4 B4
      go_wp2_with (fail)
      refine (wdNew_any A5 n5 c5 _ _ R5.out hn5.out).mono ?_
      rintro e w6 ⟨P1, q1, rfl, hr6, hb6, hq6⟩
      have P6 := hide hr6
      have W6 := hide (W5.out.below hb6)
      have O6 := hide (own_belowB O5.out hb6)
      have B6 := hide (B5.out.trans (hb6.mono B5.out.size))
      have HQ1 := hide (show w.heap.size < q1 by have := hz5.out; omega)
      clear hr6 hb6 hq6 R5 W5 O5 B5 hz5
      generalize (fun b => w5.heap.size ≤ b ∧ b < q1) = D1 at *
      go_wp2_with (fail)
      refine (wBytes_any _ _ _ _ _ W6.out (by have := hLL.out; omega)).mono ?_
      rintro e w7 ⟨A7, n7, c7, rfl, hf7⟩
      have P7 := hide (P6.out.below hf7.below)
      have O7 := hide (own_belowB O6.out hf7.below)
      have B7 := hide (B6.out.trans (hf7.below.mono B6.out.size))
      have R7 := hide hf7.rd
      have hn7 := hide (show n7 ≤ 1099511627776 by
        have h1 := RdB.length hf7.rd
        have := hLL.out
        omega)
      clear hf7 W6 P6 O6 B6
      go_wp2_with (fail)
      refine (wdNew_any A7 n7 c7 _ _ R7.out hn7.out).mono ?_
      rintro e w8 ⟨P2, q2, rfl, hr8, hb8, hq8⟩
      have Q8 := hide hr8
      have P8 := hide (P7.out.below hb8)
      have O8 := hide (own_belowB O7.out hb8)
      have B8 := hide (B7.out.trans (hb8.mono B7.out.size))
      have HP := hide (show q1 < P1 ∧ P1 < w7.heap.size ∧ w7.heap.size ≤ q2 ∧ q2 < P2 from ⟨P7.out.qp, P7.out.lt, hq8, hr8.qp⟩)
      have HD2 : Hid (∀ z, z < w7.heap.size → ¬ (fun b => w7.heap.size ≤ b ∧ b < q2) z) := fun z hz (h : w7.heap.size ≤ z ∧ z < q2) => by omega
      clear hr8 hb8 hq8 R7 P7 O7 B7
      generalize (fun b => w7.heap.size ≤ b ∧ b < q2) = D2 at *
      generalize hem : decide (packW L = [0]) = em at *
      have HEM := hide hem
      clear hem
      go_wp2_with (fail)
      refine (awake18_any _).mono ?_
      rintro e w9 ⟨rfl, hb9⟩
      have P9 := hide (P8.out.below hb9)
      have Q9 := hide (Q8.out.below hb9)
      have O9 := hide (own_belowB O8.out hb9)
      have B9 := hide (B8.out.trans (hb9.mono B8.out.size))
      clear hb9 P8 Q8 O8 B8
      go_wp2_with (fail)
      refine (kbitsK L _ k hcl.out HL.out _ P9.out).mono ?_
      rintro e w10 ⟨rfl, hr10, hu10⟩
      have P10 := hide hr10
      have Q10 := hide (Q9.out.upd hu10 (by have := HP.out; omega) (by have := HP.out; simp only [ne_eq, Option.some.injEq]; omega) (by have := HP.out; omega) (by have := HP.out; simp only [ne_eq, Option.some.injEq]; omega) (HD2.out _ HP.out.2.1) (fun z e => by cases e; exact HD2.out _ (by have := HP.out; omega)))
      have O10 := hide (own_upd O9.out hu10 (fun z hz => by
        have hz : w.heap.size = z := by simpa [Value.ownBlock] using hz
        have := HQ1.out
        have := HP.out
        exact ⟨by omega, by simp only [ne_eq, Option.some.injEq]; omega⟩))
      have B10 := hide (B9.out.trans (hu10.below (B := w.heap.size) (by have := HP.out; have := HQ1.out; omega) (fun z e => by cases e; exact Nat.le_of_lt HQ1.out) B9.out.size))
      clear hr10 hu10 P9 Q9 O9 B9
      go_wp2_with (fail)
      refine (kbitsK L _ k hcl.out HL.out _ Q10.out).mono ?_
      rintro e w11 ⟨rfl, hr11, hu11⟩
      have Q11 := hide hr11
      have P11 := hide (P10.out.upd hu11 (by have := HP.out; omega) (by have := HP.out; simp only [ne_eq, Option.some.injEq]; omega) (by have := HP.out; omega) (by have := HP.out; simp only [ne_eq, Option.some.injEq]; omega) (P10.out.dnew (by have := HP.out; omega)) (fun z e => by cases e; exact P10.out.dnew (by have := HP.out; omega)))
      have O11 := hide (own_upd O10.out hu11 (fun z hz => by
        have hz : w.heap.size = z := by simpa [Value.ownBlock] using hz
        have := HQ1.out
        have := HP.out
        exact ⟨by omega, by simp only [ne_eq, Option.some.injEq]; omega⟩))
      have B11 := hide (B10.out.trans (hu11.below (B := w.heap.size) (by have := HP.out; have := HQ1.out; omega) (fun z e => by cases e; have := HP.out; have := HQ1.out; omega) B10.out.size))
      clear hr11 hu11 P10 Q10 O10 B10
      have hLk := hide (Pl.bitsOf_length 0 k).symm
      have KT1 := hide (lTake_any (D := D1) P1 q1 em L (Pl.bitsOf 0 k) [] b (j : Int) (by rw [HL.out, List.append_nil]) (by have := hbl.out; omega) (by omega) w11 (hLk.out ▸ P11.out))
      rw [← HL.out] at KT1
      go_wp2_with (fail)
      refine KT1.out.mono ?_
      rintro e w12 ⟨hu12, ⟨_, A12, m12, c12, rfl, hr12, ho12⟩ | ⟨hbad, _⟩⟩
      rotate_left
      · exfalso
        have := hbl.out
        omega
      have P12 := hide hr12
      have X12 := hide ho12
      have Q12 := hide (Q11.out.upd hu12 (by have := HP.out; omega) (by have := HP.out; simp only [ne_eq, Option.some.injEq]; omega) (by have := HP.out; omega) (by have := HP.out; simp only [ne_eq, Option.some.injEq]; omega) (HD2.out _ HP.out.2.1) (fun z e => by cases e; exact HD2.out _ (by have := HP.out; omega)))
      have O12 := hide (own_upd O11.out hu12 (fun z hz => by
        have hz : w.heap.size = z := by simpa [Value.ownBlock] using hz
        have := HQ1.out
        have := HP.out
        exact ⟨by omega, by simp only [ne_eq, Option.some.injEq]; omega⟩))
      have B12 := hide (B11.out.trans (hu12.below (B := w.heap.size) (by have := HP.out; have := HQ1.out; omega) (fun z e => by cases e; exact Nat.le_of_lt HQ1.out) B11.out.size))
      have hX12 := hide (show P2 < w11.heap.size from Q11.out.lt)
      clear hr12 ho12 hu12 P11 Q11 O11 B11 KT1
      have hsub : IntKind.i64.wrap ((j : Int) - 1) = (j : Int) - 1 := IntWalk.i64_in _ ⟨by omega, by omega⟩
      have KT2 := hide (lTake_any (D := D2) P2 q2 em L (Pl.bitsOf 0 k) [] b ((j : Int) - 1) (by rw [HL.out, List.append_nil]) (by have := hbl.out; omega) (by omega) w12 (hLk.out ▸ Q12.out))
      go_wp2_with (fail)
      refine KT2.out.mono ?_
      rintro e w13 ⟨hu13, hcase⟩
      have P13 := hide (P12.out.upd hu13 (by have := HP.out; omega) (by have := HP.out; simp only [ne_eq, Option.some.injEq]; omega) (by have := HP.out; omega) (by have := HP.out; simp only [ne_eq, Option.some.injEq]; omega) (P12.out.dnew (by have := HP.out; omega)) (fun z e => by cases e; exact P12.out.dnew (by have := HP.out; omega)))
      have O13 := hide (own_upd O12.out hu13 (fun z hz => by
        have hz : w.heap.size = z := by simpa [Value.ownBlock] using hz
        have := HQ1.out
        have := HP.out
        exact ⟨by omega, by simp only [ne_eq, Option.some.injEq]; omega⟩))
      have X13 := hide (own_upd X12.out hu13 (fun z hz => by
        have := (X12.out.lt z hz).1
        have := hX12.out
        have := HP.out
        exact ⟨by omega, by simp only [ne_eq, Option.some.injEq]; omega⟩))
      have B13 := hide (B12.out.trans (hu13.below (B := w.heap.size) (by have := HP.out; have := HQ1.out; omega) (fun z e => by cases e; have := HP.out; have := HQ1.out; omega) B12.out.size))
      have kS := hide (sameBytes_any _ _ _ _ _ _ _ _ w13 (Rd.of_own X13.out) (Rd.of_own O13.out))
      have hpe := back_end L
      rw [HEM.out] at hpe
      have kN := wdEnd_any _ _ _ _ _ _ _ P13.out
      rw [hpe] at kN
      have KN := hide kN
      clear hu13 P12 Q12 O12 B12 X12 KT2 kN hpe hLk
      rcases hcase with ⟨h0, A13, m13, c13, rfl, _, _⟩ | ⟨h0, rfl, a', hQ⟩
      · obtain rfl : j = 0 := by have := hbl.out; omega
        simp only [Int.natCast_zero] at *
        go_wp2_with (fail)
        refine kS.out.mono ?_
        rintro e w14 ⟨rfl, rfl⟩
        simp only [decide_true]
        go_wp2_with (fail)
        refine KN.out.mono ?_
        rintro e w15 ⟨rfl, hb15⟩
        have B15 := hide (B13.out.trans (hb15.mono B13.out.size))
        clear hb15
        go_wp2
        go_ret
        exact ⟨rfl, B15.out⟩
      · have hj0 : ((j : Int) == 0) = false := by
          have := hbl.out
          simp
          omega
        have Q13 := hide hQ
        clear hQ
        go_wp2_with (fail)
        refine kS.out.mono ?_
        rintro e w14 ⟨rfl, rfl⟩
        simp only [decide_true]
        go_wp2_with (fail)
        refine KN.out.mono ?_
        rintro e w15 ⟨rfl, hb15⟩
        have B15 := hide (B13.out.trans (hb15.mono B13.out.size))
        have Q15 := hide (Q13.out.below hb15)
        clear hb15
        go_wp2_with (fail)
        refine (wdErr_any _ _ _ _ _ _ _ Q15.out).mono ?_
        rintro e w16 ⟨rfl, rfl⟩
        go_wp2
        go_ret
        exact ⟨rfl, B15.out⟩
end Go.Proofs.Ytikfogepdmpfaaa
