import Derived.Test.YtikfogepdmpfaaaWho2
namespace Go.Proofs.Ytikfogepdmpfaaa
open Go.RowKit

def RWBitsRel (base p : Nat) (g : Option Nat) (l : List Bool) (v : Int) (m : Nat) (w0 : World) (kk : Value) (wr : World) : Prop :=
  ∃ (j : Nat) (g' : Option Nat), j ≤ m ∧ kk = .int .i64 ((m : Int) - 1 - (j : Int)) ∧ Hid (Wf wr base p g' (l ++ (Pl.bitsOf v m).take j)) ∧ Hid (Upd p g w0 wr) ∧ Hid (Mv w0 g g')

theorem bit_arg64 (v : Int) (k : Nat) (h0 : 0 ≤ v) (h1 : v < 18446744073709551616) : wrap64 (bits BinOp.and IntKind.u64 (v / 2 ^ k) 1) = v / 2 ^ k % 2 := by
  have hd := div_pow_bd v _ k h0 h1
  rw [and_one_u64 _ hd.1 (by omega)]
  unfold wrap64
  omega

set_option maxRecDepth 100000 in
set_option maxHeartbeats 800000 in
theorem rwBits_cl (v n : Int) (m : Nat) (hcl : cl64 n = m) (base p : Nat) (g : Option Nat) (l : List Bool) (w : World) (h : Wf w base p g l) (hl : l.length ≤ 1099511620000) (hB : base ≤ w.heap.size) (hv0 : 0 ≤ v) (hv1 : v < 18446744073709551616) :
    Calls Try.prog 42 #[.pointer (some ⟨p, 0, none⟩), .int .u64 v, .int .i64 n] w (RfPost w base p g (l ++ Pl.bitsOf v m)) := by
  have hm := cl64_le n
  have hmv := cl64_val n
  rw [hcl] at hm hmv
  have H := hide h
  have HB := hide hB
  have HL := hide hl
  have hm0 : 0 ≤ (m : Int) := by omega
  have hmx : max 0 (min n 64) = (m : Int) := by omega
  have hm65 : (m : Int) ≤ 64 := by omega
  clear h hB hmv hcl hl
  go_enter Try.func42, Try.ntmps42
  go_wp2_with (fail)
  go_loopw [6] (RWBitsRel base p g l v m w) (fun kk _ => (intOf kk + 1).toNat)
  case atStart => exact ⟨0, g, Nat.zero_le _, by simp, hide (by simpa using H.out), Upd.refl _ _ _, Mv.refl _ _⟩
  case round =>
    obtain ⟨j, g', hj, rfl, hw, hu, hmv⟩ := hrel
    by_cases hlt : j < m
    · obtain ⟨k, hk⟩ : ∃ k, m - 1 - j = k := ⟨_, rfl⟩
      have hk2 : (m : Int) - 1 - (j : Int) = (k : Int) := by omega
      have hk0 : (0 : Int) ≤ (k : Int) := by omega
      have hk31 : (k : Int) ≤ 63 := by omega
      rw [hk2]
      have HK := hide hk
      have harg := hide (bit_arg64 v k hv0 hv1)
      have hlen : Hid ((l ++ (Pl.bitsOf v m).take j).length ≤ 1099511627000) := by
        have h1 := Pl.bitsOf_length v m
        have h2 := HL.out
        show _ ≤ _
        rw [List.length_append, List.length_take]
        omega
      have hbase : Hid (base ≤ wr.heap.size) := Nat.le_trans HB.out hu.out.size
      have hsn := hide (Pl.bitsOf_take_succ v m j hlt)
      clear hk hk2
      go_wp2_with (fail)
      rw [harg.out]
      refine (refBit_any _ base p g' _ wr hw.out hlen.out hbase.out).mono ?_
      rintro e w2 ⟨rfl, g2, hw2, hu2, hm2⟩
      have K1 := hide hw2
      have K2 := hide (hu.out.trans hmv.out hu2)
      have K3 := hide (hmv.out.trans hu.out.size hm2)
      clear hw2 hu2 hm2
      go_wp2
      go_roundw
      case rel =>
        refine ⟨j + 1, g2, hlt, ?_, hide ?_, K2, K3⟩
        · have := HK.out
          have e : (k : Int) - 1 = (m : Int) - 1 - ((j + 1 : Nat) : Int) := by omega
          rw [e]
        · rw [hsn.out, HK.out, ← List.append_assoc, ← dec_bit]
          exact K1.out
      case measure => simp [intOf]
    · obtain rfl : j = m := by omega
      have e1 : (j : Int) - 1 - (j : Int) = -1 := by omega
      rw [e1]
      clear e1
      go_wp2
      refine bodyPost_end (results_none rfl _ _ _) rfl ?_
      refine ⟨rfl, g', ?_, hu.out, hmv.out⟩
      have := hw.out
      rwa [List.take_of_length_le (by rw [Pl.bitsOf_length]; omega)] at this
theorem rwBits_any (v n : Int) (base p : Nat) (g : Option Nat) (l : List Bool) (w : World) (h : Wf w base p g l) (hl : l.length ≤ 1099511620000) (hB : base ≤ w.heap.size) (hv0 : 0 ≤ v) (hv1 : v < 18446744073709551616) :
    Calls Try.prog 42 #[.pointer (some ⟨p, 0, none⟩), .int .u64 v, .int .i64 n] w (RfPost w base p g (l ++ Pl.bitsOf v (cl64 n))) :=
  rwBits_cl v n _ rfl base p g l w h hl hB hv0 hv1

set_option maxHeartbeats 800000 in
theorem rwOcts_any (base p : Nat) (g : Option Nat) (l : List Bool) (A : Option Addr) (n c : Nat) (b : List UInt8) (w : World) (h : Wf w base p g l) (hl : l.length + 8 * b.length ≤ 1099511620000) (hB : base ≤ w.heap.size) (hr : Rd w A n c (bv b)) (ho : Off p g A n) :
    Calls Try.prog 36 #[.pointer (some ⟨p, 0, none⟩), .slice A n c] w (RfPost w base p g (l ++ Pl.octB b)) := by
  have H := hide h
  have HB := hide hB
  have hflat : Hid (([b] : List (List UInt8)).flatten = b) := by unfold Hid; simp
  have hps := h.lt
  have hgl := h.glt
  have rp := RdV.one (w := w.alloc (.cells #[.slice A n c] 23)) (b := w.heap.size) (c := 1) (cell_new rfl rfl) (by omega) (by unfold maxLen; omega) (l1 := b) (hr.alloc _)
  have HV : Hid (∀ w', Upd p g (w.alloc (.cells #[.slice A n c] 23)) w' → RdV w' (some ⟨w.heap.size, 0, none⟩) 1 1 [.slice A n c] [b]) := fun w' u => rp.upd u (Off.mk 1 (by omega) (fun e => by have := (hgl _ e.symm).2; omega)) (fun j A9 n9 c9 h => by
    match j, h with
    | 0, h => cases h; exact ho)
  have HL := hide hl
  clear rp hr ho h hB hps hgl hl
  go_enter Try.func36, Try.ntmps36
  go_wp2_with (fail)
  refine (refOcts_any base p g l _ _ _ [b] _ (H.out.alloc _) (by rw [hflat.out]; exact HL.out) (by have := HB.out; simp; omega) _ HV.out).mono ?_
  rintro e w2 ⟨rfl, g2, hw2, hu2, hm2⟩
  rw [hflat.out] at hw2
  have W2 := hide hw2
  have U2 := hide (((Upd.refl p g w).alloc (.cells #[.slice A n c] 23)).trans (Mv.refl _ _) hu2)
  have M2 := hide ((Mv.refl w g).comp ((Upd.refl p g w).alloc (.cells #[.slice A n c] 23)) hm2)
  clear hw2 hu2 hm2
  go_wp2
  refine bodyPost_end (results_none rfl _ _ _) rfl ?_
  exact ⟨rfl, g2, W2.out, U2.out, M2.out⟩

set_option maxHeartbeats 800000 in
theorem rwBetween_any (v s : Int) (base p : Nat) (g : Option Nat) (l : List Bool) (w : World) (h : Wf w base p g l) (hl : l.length ≤ 1099511610000) (hB : base ≤ w.heap.size) (hv0 : 0 ≤ v) (hv1 : v < 18446744073709551616) (hs0 : 0 ≤ s) (hs1 : s < 18446744073709551616) :
    Calls Try.prog 38 #[.pointer (some ⟨p, 0, none⟩), .int .u64 v, .int .u64 s] w (RfPost w base p g (l ++ Pl.bitsOf (min v s) (wid s))) := by
  have kW := hide (fun w => refWidth_any s w hs0 hs1)
  have kB := hide (fun x (hx : 0 ≤ x ∧ x < 18446744073709551616) => rwBits_any x (widthI s) base p g l w h (by omega) hB hx.1 hx.2)
  rw [cl64_wid] at kB
  clear h hl hB
  go_enter Try.func38, Try.ntmps38
  go_wp2_with (fail)
  refine (kW.out _).mono ?_
  rintro e w' ⟨rfl, rfl⟩
  go_wp2_with (fail)
  refine (kB.out _ (by omega)).mono ?_
  rintro e w2 ⟨rfl, hx⟩
  have HX := hide hx
  clear hx
  go_wp2
  refine bodyPost_end (results_none rfl _ _ _) rfl ?_
  exact ⟨rfl, HX.out⟩

set_option maxHeartbeats 1600000 in
theorem rwSmall_any (n : Int) (base p : Nat) (g : Option Nat) (l : List Bool) (w : World) (h : Wf w base p g l) (hl : l.length ≤ 1099511600000) (hB : base ≤ w.heap.size) (hn : n ≤ 9223372036854775807) :
    Calls Try.prog 40 #[.pointer (some ⟨p, 0, none⟩), .int .i64 n] w (RfPost w base p g (l ++ smallB n)) := by
  have H := hide h
  have HB := hide hB
  have HL := hide hl
  clear h hB hl
  obtain ⟨m, hmx⟩ : ∃ m, max n 0 = m := ⟨_, rfl⟩
  have hmx2 : max 0 n = m := by omega
  have hm0 : 0 ≤ m := by omega
  have hm1 : m ≤ 9223372036854775807 := by omega
  by_cases h64 : max n 0 < 64
  · rw [smallB_low n h64]
    rw [hmx] at h64 ⊢
    have kB := hide (fun x (hx : 0 ≤ x ∧ x < 18446744073709551616) => rwBits_any x 7 base p g l w H.out (by have := HL.out; omega) HB.out hx.1 hx.2)
    rw [show cl64 7 = 7 by decide] at kB
    clear hmx
    go_enter Try.func40, Try.ntmps40
    go_wp2_with (fail)
    refine (kB.out _ (by omega)).mono ?_
    rintro e w2 ⟨rfl, hx⟩
    have HX := hide hx
    clear hx
    go_wp2
    refine bodyPost_ret (results_none rfl _ _ _) rfl ?_
    exact ⟨rfl, HX.out⟩
  · rw [smallB_high n h64]
    rw [hmx] at h64 ⊢
    have hd := Pl.dlenF_bd 256 7 m
    have hbl := Pl.be_length (Pl.dlenF 256 7 m) m
    have kU := hide (fun w => refUnsigned_any m hm0 (by omega) w)
    generalize hD : Pl.dlenF 256 7 m = d at *
    clear hD
    generalize Pl.be d m = bs at *
    have hd0 : (0 : Int) ≤ (d : Int) := by omega
    have hd8 : (d : Int) ≤ 8 := by omega
    have HBL := hide hbl
    clear hbl hmx
    go_enter Try.func40, Try.ntmps40
    go_wp2_with (fail)
    refine (kU.out _).mono ?_
    rintro e w1 ⟨A1, c1, rfl, hf⟩
    have W1 := hide (H.out.below hf.below)
    have R1 := hide hf.rd
    have O1 := hide (Off.freshB hf H.out.lt (fun k hk => (H.out.glt k hk).2))
    have B1 := hide (Nat.le_trans HB.out hf.below.size)
    have U1 := hide (show Upd p g w w1 from Upd.of_below hf.below)
    clear hf
    go_wp2_with (fail)
    refine (rwBits_any 1 1 base p g l _ W1.out (by have := HL.out; omega) B1.out (by omega) (by omega)).mono ?_
    rintro e w2 ⟨rfl, g2, hw2, hu2, hm2⟩
    rw [show cl64 1 = 1 by decide] at hw2
    have W2 := hide hw2
    have U2 := hide (U1.out.trans (Mv.refl _ _) hu2)
    have M2 := hide ((Mv.refl w g).comp U1.out hm2)
    have R2 := hide (R1.out.upd hu2 O1.out)
    have O2 := hide (O1.out.mv hm2 R1.out.lt_all)
    have hlen2 := hide (show (l ++ Pl.bitsOf 1 1).length ≤ 1099511600001 by rw [List.length_append, Pl.bitsOf_length]; have := HL.out; omega)
    clear hw2 hu2 hm2
    go_wp2_with (fail)
    refine (rwBits_any (d : Int) 8 base p g2 _ _ W2.out (by have := hlen2.out; omega) (Nat.le_trans HB.out U2.out.size) hd0 (by omega)).mono ?_
    rintro e w3 ⟨rfl, g3, hw3, hu3, hm3⟩
    rw [show cl64 8 = 8 by decide] at hw3
    have W3 := hide hw3
    have U3 := hide (U2.out.trans M2.out hu3)
    have M3 := hide (M2.out.comp U2.out hm3)
    have R3 := hide (R2.out.upd hu3 O2.out)
    have O3 := hide (O2.out.mv hm3 R2.out.lt_all)
    have hlen3 := hide (show (l ++ Pl.bitsOf 1 1 ++ Pl.bitsOf (d : Int) 8).length ≤ 1099511600009 by rw [List.length_append, Pl.bitsOf_length]; have := hlen2.out; omega)
    clear hw3 hu3 hm3
    go_wp2_with (fail)
    refine (rwOcts_any base p g3 _ _ _ _ bs _ W3.out (by have := hlen3.out; have := HBL.out; omega) (Nat.le_trans HB.out U3.out.size) R3.out O3.out).mono ?_
    rintro e w4 ⟨rfl, g4, hw4, hu4, hm4⟩
    have W4 := hide hw4
    have U4 := hide (U3.out.trans M3.out hu4)
    have M4 := hide (M3.out.comp U3.out hm4)
    clear hw4 hu4 hm4
    go_wp2
    refine bodyPost_end (results_none rfl _ _ _) rfl ?_
    refine ⟨rfl, g4, ?_, U4.out, M4.out⟩
    have := W4.out
    simpa only [List.append_assoc] using this

theorem own_le {w : World} {base base' n size : Nat} {e : TypeId} {v : Value} {xs : List Value} (h : w.ownsRow base e size v n xs) (hb : base' ≤ base) : w.ownsRow base' e size v n xs := by
  refine ⟨h.1, ?_⟩
  rcases h.2 with h0 | ⟨g, cap, cur, hv, hB, hr⟩
  · exact .inl h0
  · exact .inr ⟨g, cap, cur, hv, Nat.le_trans hb hB, hr⟩

theorem rwLen_any (base p : Nat) (g : Option Nat) (l : List Bool) (w : World) (h : Wf w base p g l) :
    Calls Try.prog 44 #[.pointer (some ⟨p, 0, none⟩)] w fun e w' => e = .returned (.int .i64 (l.length : Int)) ∧ w = w' := by
  obtain ⟨A, n, c, h0, f0, ho, _⟩ := h
  have hn := RdB.length (Rd.of_own ho)
  rw [b01_length] at hn
  subst hn
  clear ho
  go_enter Try.func44, Try.ntmps44
  go_wp2
  go_ret
  exact ⟨rfl, rfl⟩

theorem rwBytes_any (base p : Nat) (g : Option Nat) (l : List Bool) (w : World) (h : Wf w base p g l) (hl : l.length ≤ 1099511627000) :
    Calls Try.prog 45 #[.pointer (some ⟨p, 0, none⟩)] w fun e w' => ∃ A n c, e = .returned (.slice A n c) ∧ Fresh w w' 5 A n c (bv (packW l)) := by
  have kB := hide (refBytes_any base p g l w h hl)
  clear h hl
  by_cases h0 : l.length = 0
  · rw [List.eq_nil_of_length_eq_zero h0] at kB ⊢
    rw [packW_nil]
    rw [Pl.pack_nil] at kB
    clear h0
    go_enter Try.func45, Try.ntmps45
    go_wp2_with (fail)
    refine kB.out.mono ?_
    rintro e w2 ⟨A2, n2, c2, rfl, hf⟩
    obtain rfl : n2 = 0 := RdB.length hf.rd
    have HF := hide hf.below
    clear hf
    go_wp2
    go_ret
    exact ⟨some ⟨w2.heap.size, 0, none⟩, 1, 1, rfl, own_le (own_one w2 (.int .u8 0) 5 w2.heap.size (Nat.le_refl _)) HF.out.size, HF.out.alloc HF.out.size _⟩
  · rw [packW_some l h0]
    have hp := Pl.pack_length l
    go_enter Try.func45, Try.ntmps45
    go_wp2_with (fail)
    refine kB.out.mono ?_
    rintro e w2 ⟨A2, n2, c2, rfl, hf⟩
    have hn : ((n2 : Int) == 0) = false := by
      have := RdB.length hf.rd
      simp
      intro e
      subst e
      omega
    have HF := hide hf
    clear hf h0 hp
    go_wp2
    go_ret
    exact ⟨A2, n2, c2, rfl, HF.out⟩
end Go.Proofs.Ytikfogepdmpfaaa
