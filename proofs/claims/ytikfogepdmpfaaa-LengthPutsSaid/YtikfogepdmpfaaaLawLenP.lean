import Derived.Test.YtikfogepdmpfaaaLen3
import Derived.Test.YtikfogepdmpfaaaAwake18
import Derived.Test.YtikfogepdmpfaaaLawBitO
namespace Go.Proofs.Ytikfogepdmpfaaa
open Go.RowKit

theorem putL_le : ∀ (ks : List Nat) (bs : List UInt8), (putL ks bs).length ≤ 16 * ks.length + 8 * bs.length
  | [], _ => by simp [putL]
  | k :: ks, bs => by
    have h1 := putL_le ks (bs.drop k)
    have h2 := det_le (k : Int)
    simp only [putL, List.length_append, Pl.octB_length, List.length_take, List.length_cons]
    rw [List.length_drop] at h1
    omega

def LPsRel (ls : List (List UInt8)) (w0 : World) (b ii : Value) (wr : World) : Prop :=
  ∃ (i : Nat) (A : Option Addr) (c m : Nat), i ≤ ls.length ∧ ii = .int .i64 (i : Int) ∧ b = .slice A m c ∧ wr.ownsRow w0.heap.size 5 1 (.slice A m c) m (bv (ls.take i).flatten) ∧ Below w0.heap.size w0 wr ∧ Hid (m = (ls.take i).flatten.length) ∧ Hid (m ≤ 40000 * i)

set_option maxRecDepth 100000 in
set_option maxHeartbeats 1600000 in
theorem lengthPuts_walk (x : Int) (A : Option Addr) (n c : Nat) (ls : List (List UInt8)) (w : World) (_hx : (Lit.int .i64 x).wf = true) (h : RdP w A n c ls) :
    Calls Try.prog 9 #[.int .i64 x, .slice A n c] w fun e w' => e = .returned (.bool true) ∧ Below w.heap.size w w' := by
  obtain ⟨i0, hi, hz0, hz1, hz2⟩ := info_parts Try.info_byte
  have hm := h.lenmax
  have hln := hide h.length
  have H := hide h
  clear h _hx
  by_cases hn : n ≤ 20
  · obtain ⟨mx, hm2⟩ : ∃ m : Nat, (x % 8).toNat = m := ⟨_, rfl⟩
    have hxm : (IntKind.u64.wrap x).tmod 8 = (mx : Int) := by
      rw [Int.tmod_eq_emod_of_nonneg (by rw [IntKind.wrap_u64]; omega), IntKind.wrap_u64]
      omega
    have hm8 : (mx : Int) ≤ 7 := by omega
    have hm0 : (0 : Int) ≤ (mx : Int) := by omega
    have hcl : Hid (cl64 (mx : Int) = mx) := by unfold Hid cl64; omega
    clear hm2
    go_enter Try.func9, Try.ntmps9
    go_wp2_with (fail)
    go_loopw [5, 6] (LPsRel ls w) (fun _ i _ => n - (intOf i).toNat)
    case atStart => exact ⟨0, none, 0, 0, Nat.zero_le _, rfl, rfl, World.ownsRow_nil _ _ _ _, Below.refl _ _, rfl, Nat.zero_le _⟩
    case round =>
      obtain ⟨i, A1, c1, m, hi1, rfl, rfl, hown, hb, hmm, hsum⟩ := hrel
      by_cases hlt : i < n
      · have hil : i < ls.length := by have := hln.out; omega
        obtain ⟨b, o, A', n', c', rfl, hbz, hcell, hrd⟩ := RdP.at_ (H.out.below hb (Nat.le_refl _)) hil
        have hm' := hrd.lenmax
        by_cases hbig : n' ≤ 40000
        · have hl' := RdB.length hrd
          have hsucc := flat_take_succ ls i hil
          have hmn : m + n' = (ls.take (i + 1)).flatten.length := by rw [hsucc, List.length_append, ← hmm.out, ← hl']
          have hs2 := hsum.out
          have hmb : m + n' ≤ 1099511627776 := by omega
          have HM := hide hmn
          have HS := hide hsucc
          have HSUM := hide (show m + n' ≤ 40000 * (i + 1) by omega)
          clear hl' hsucc hmn hs2
          go_wp2_with (at_builtin; refine wpList_app _ rfl (.tmp 27) (.tmp 31) _ rfl w.heap.size 5 i0 (.int .u8 0) 1 Try.underlying23 hi hz0 hz1 hz2 rfl _ _ _ rfl hown _ _ _ _ rfl hrd (bv_one _) hmb (by omega) ?_ ?_)
          · exact hb.size
          · intro A3 c3 w3 hown3 hg3 hl3
            have hbel := hb.grown hg3 hb.size (fun j hj => (hown.lt j hj).1)
            have HO := hide hown3
            clear hown3 hg3 hl3 hb
            go_wp2
            go_roundw
            case measure => simp [intOf]; omega
            case rel =>
              refine ⟨i + 1, A3, c3, m + n', by omega, by go_num, rfl, ?_, hbel, HM.out, HSUM.out⟩
              rw [HS.out, bv_append]
              exact HO.out
        · have HB := hide hb
          clear hown hb
          go_wp2_with (fail)
          refine (awake18_any _).mono ?_
          rintro e w4 ⟨rfl, hb4⟩
          have hb5 := HB.out.trans (hb4.mono HB.out.size)
          clear hb4
          go_wp2
          go_ret
          exact ⟨rfl, hb5⟩
      · have hin : i = ls.length := by have := hln.out; omega
        have hfl : (ls.take i).flatten = ls.flatten := by rw [List.take_of_length_le (by omega)]
        rw [hfl] at hown hmm
        have HOW := hide hown
        have HB := hide hb
        have hmcap := hide (show m ≤ 800000 by have := hsum.out; have := hln.out; omega)
        have hm9 : m ≤ 9223372036854775807 := by have := hmcap.out; omega
        clear hown hb hfl hin hsum
        by_cases h80 : m ≤ 80000
        · have WN1 := (Wr.new wr w.heap.size 53).alloc (.cells #[.slice none 0 0] 56)
          have WN2 := Wf.new (wr.alloc (.cells #[.slice none 0 0, .int .i64 0] 53)) w.heap.size 56
          have hb0 := (HB.out.alloc HB.out.size (.cells #[.slice none 0 0, .int .i64 0] 53)).alloc (by have := HB.out.size; simp; omega) (.cells #[.slice none 0 0] 56)
          have ho2 := (HOW.out.alloc (.cells #[.slice none 0 0, .int .i64 0] 53)).alloc (.cells #[.slice none 0 0] 56)
          rw [show (wr.alloc (.cells #[.slice none 0 0, .int .i64 0] 53)).heap.size = wr.heap.size + 1 by simp] at WN2
          have N1 := hide WN1
          have N2 := hide WN2
          have B0 := hide hb0
          have O0 := hide ho2
          obtain ⟨gb, hinb, hgb⟩ : ∃ gb, InB gb A1 m c1 ∧ gb ≤ wr.heap.size := by
            rcases HOW.out.2 with ⟨hv, h0⟩ | ⟨g', cap, cur, hv, hB', _⟩
            · cases hv
              exact ⟨wr.heap.size, .inl ⟨rfl, rfl, rfl⟩, Nat.le_refl _⟩
            · cases hv
              have := (HOW.out.lt g' rfl).2
              exact ⟨g', .inr ⟨0, rfl⟩, by omega⟩
          have HIN := hide hinb
          have HGB := hide hgb
          have hws := hide HB.out.size
          clear WN1 WN2 hb0 ho2 hinb hgb
          go_wp2_with (fail)
          refine (wBits_any 1 (mx : Int) w.heap.size wr.heap.size none [] _ N1.out (by simp) B0.out.size (by omega) (by omega)).mono ?_
          rintro e w1 ⟨rfl, g1, hw1, hu1, hm1⟩
          rw [hcl.out, List.nil_append] at hw1
          have hs1 : Sep (wr.heap.size + 1) none wr.heap.size g1 := N2.out.sepmv hm1 ⟨by omega, by simp, by simp, .inl rfl⟩
          have W1 := hide hw1
          have V1 := hide (N2.out.sep hu1 ⟨by omega, by simp, by simp, .inl rfl⟩)
          have S1 := hide hs1.symm
          have B1 := hide (B0.out.trans (hu1.below (B := w.heap.size) hws.out (fun k hk => by cases hk) B0.out.size))
          have O1 := hide (own_upd O0.out hu1 (fun k hk => ⟨by have := (HOW.out.lt k hk).2; omega, by simp⟩))
          have hg1 := hide (hm1.ge (B := w.heap.size) (fun k hk => by cases hk) B0.out.size)
          have hsz1 := hide (show wr.heap.size + 1 < w1.heap.size from V1.out.lt)
          have hg1ne : Hid (∀ k, k < wr.heap.size → some k ≠ g1) := fun k hk e => by
            rcases hm1 with rfl | ⟨j, rfl, hj⟩
            · cases e
            · cases e
              simp at hj
              omega
          clear hw1 hs1 hu1 hm1 N1 N2 B0 O0
          go_wp2_with (fail)
          refine (rwBits_any 1 (mx : Int) w.heap.size (wr.heap.size + 1) none [] _ V1.out (by simp) B1.out.size (by omega) (by omega)).mono ?_
          rintro e w2 ⟨rfl, g2, hw2, hu2, hm2⟩
          rw [hcl.out, List.nil_append] at hw2
          have W2 := hide (W1.out.sep hu2 S1.out)
          have V2 := hide hw2
          have S2 := hide (W1.out.sepmv hm2 S1.out)
          have B2 := hide (B1.out.trans (hu2.below (B := w.heap.size) (by have := hws.out; omega) (fun k hk => by cases hk) B1.out.size))
          have O2 := hide (own_upd O1.out hu2 (fun k hk => ⟨by have := (HOW.out.lt k hk).2; omega, by simp⟩))
          have hg2gb : Hid (g2 ≠ some gb) := by
            rcases hm2 with rfl | ⟨j, rfl, hj⟩
            · intro e; cases e
            · intro e
              cases e
              have := HGB.out
              have := hsz1.out
              omega
          clear hw2 hu2 hm2 V1 W1 S1 B1 O1
          go_wp2_with (fail)
          refine (lPut_any w.heap.size wr.heap.size g1 _ A n c ls _ W2.out ?_ B2.out.size (H.out.below B2.out (Nat.le_refl _)) (by have := hmm.out; omega)).mono ?_
          · rw [Pl.bitsOf_length]
            omega
          rintro e w3 ⟨rfl, g3, hw3, hu3, hm3⟩
          have W3 := hide hw3
          have V3 := hide (V2.out.sep hu3 S2.out.symm)
          have hs3 : Sep (wr.heap.size + 1) g2 wr.heap.size g3 := V2.out.sepmv hm3 S2.out.symm
          have S3 := hide hs3.symm
          have B3 := hide (B2.out.trans (hu3.below (B := w.heap.size) hws.out hg1.out B2.out.size))
          have O3 := hide (own_upd O2.out hu3 (fun k hk => ⟨by have := (HOW.out.lt k hk).2; omega, hg1ne.out k (HOW.out.lt k hk).2⟩))
          have hz3 := hide (show gb < w3.heap.size by have := HGB.out; have := V3.out.lt; omega)
          clear hw3 hu3 hm3 W2 V2 S2 B2 O2 hs3
          go_wp2_with (fail)
          refine (rPut_any w.heap.size (wr.heap.size + 1) gb g2 _ A1 m c1 ls.flatten _ V3.out ?_ B3.out.size (Rd.of_own O3.out) (by have := hmm.out; omega) HIN.out ⟨hg2gb.out, by have := HGB.out; omega, hz3.out⟩).mono ?_
          · rw [Pl.bitsOf_length]
            omega
          rintro e w4 ⟨rfl, g4, hw4, hu4, hm4⟩
          have W4 := hide (W3.out.sep hu4 S3.out)
          have V4 := hide hw4
          have B4 := hide (B3.out.trans (hu4.below (B := w.heap.size) (by have := hws.out; omega) (fun q hq => (V3.out.glt q hq).1) B3.out.size))
          have htl : Hid ((Pl.bitsOf 1 mx ++ putL (Pl.cuts ls.flatten.length) ls.flatten).length ≤ 100000000) := by
            have h1 := putL_le (Pl.cuts ls.flatten.length) ls.flatten
            have h2 := cuts_len ls.flatten.length
            have h3 := hmm.out
            show _ ≤ _
            rw [List.length_append, Pl.bitsOf_length]
            omega
          generalize Pl.bitsOf 1 mx ++ putL (Pl.cuts ls.flatten.length) ls.flatten = tot at *
          have W4 := hide W4.out
          clear hw4 hu4 hm4 V3 B3 O3 S3
          go_wp2_with (fail)
          refine (awake18_any _).mono ?_
          rintro e w5 ⟨rfl, hb5⟩
          have W5 := hide (W4.out.below hb5)
          have V5 := hide (V4.out.below hb5)
          have B5 := hide (B4.out.trans (hb5.mono B4.out.size))
          clear hb5
          go_wp2_with (fail)
          refine (wLen_any _ _ _ _ _ W5.out).mono ?_
          rintro e w6 ⟨rfl, rfl⟩
          go_wp2_with (fail)
          refine (rwLen_any _ _ _ _ _ V5.out).mono ?_
          rintro e w6 ⟨rfl, rfl⟩
          go_wp2_with (fail)
          refine (wBytes_any _ _ _ _ _ W5.out (by have := htl.out; omega)).mono ?_
          rintro e w6 ⟨A6, n6, c6, rfl, hf6⟩
          have V6 := hide (V5.out.below hf6.below)
          have B6 := hide (B5.out.trans (hf6.below.mono B5.out.size))
          have R6 := hide hf6.rd
          clear hf6
          go_wp2_with (fail)
          refine (rwBytes_any _ _ _ _ _ V6.out (by have := htl.out; omega)).mono ?_
          rintro e w7 ⟨A7, n7, c7, rfl, hf7⟩
          have B7 := hide (B6.out.trans (hf7.below.mono B6.out.size))
          have k9 := hide (sameBytes_any _ _ _ _ _ _ _ _ w7 (R6.out.below hf7.below (Nat.le_refl _)) hf7.rd)
          clear hf7
          go_wp2_with (fail)
          refine k9.out.mono ?_
          rintro e w8 ⟨rfl, rfl⟩
          go_wp2
          go_ret
          exact ⟨by simp, B7.out⟩
        · go_wp2_with (fail)
          refine (awake18_any _).mono ?_
          rintro e w4 ⟨rfl, hb4⟩
          have hb5 := HB.out.trans (hb4.mono HB.out.size)
          clear hb4
          go_wp2
          go_ret
          exact ⟨rfl, hb5⟩
  · go_enter Try.func9, Try.ntmps9
    go_wp2_with (fail)
    refine (awake18_any _).mono ?_
    rintro e w1 ⟨rfl, hb1⟩
    go_wp2
    go_ret
    exact ⟨rfl, hb1⟩
end Go.Proofs.Ytikfogepdmpfaaa
