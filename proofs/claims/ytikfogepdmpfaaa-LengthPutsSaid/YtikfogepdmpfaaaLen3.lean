import Derived.Test.YtikfogepdmpfaaaLen2
namespace Go.Proofs.Ytikfogepdmpfaaa
open Go.RowKit

def RPutRel (base p gb : Nat) (g : Option Nat) (ks : List Nat) (AK : Option Addr) (ck : Nat) (tot : List Bool) (w0 : World) (bb jj : Value) (wr : World) : Prop :=
  ∃ (j : Nat) (A : Option Addr) (n c : Nat) (g' : Option Nat) (acc : List Bool) (rest : List UInt8), j ≤ ks.length ∧ jj = .int .i64 (j : Int) ∧ bb = .slice A n c ∧ Hid (InB gb A n c) ∧ Hid (g' ≠ some gb ∧ gb < wr.heap.size ∧ Off p g' AK ks.length) ∧ Hid (Wf wr base p g' acc) ∧ Hid (Upd p g w0 wr) ∧ Hid (Mv w0 g g') ∧ Hid (Rd wr A n c (bv rest)) ∧ Hid (Rd wr AK ks.length ck (iv (natsI ks))) ∧ Hid (ToPut ks j rest acc tot 3000000)

set_option maxRecDepth 100000 in
set_option maxHeartbeats 1600000 in
theorem rPut_any (base p gb : Nat) (g : Option Nat) (l : List Bool) (A : Option Addr) (n c : Nat) (bs : List UInt8) (w : World) (h : Wf w base p g l) (hl : l.length ≤ 100000) (hB : base ≤ w.heap.size) (hr : Rd w A n c (bv bs)) (hn : bs.length ≤ 100000) (hin : InB gb A n c) (hgb' : g ≠ some gb ∧ gb ≠ p ∧ gb < w.heap.size) :
    Calls Try.prog 54 #[.pointer (some ⟨p, 0, none⟩), .slice A n c] w (RfPost w base p g (l ++ putL (Pl.cuts bs.length) bs)) := by
  have H := hide h
  have HB := hide hB
  have HR := hide hr
  have HI := hide hin
  have hgb := hide hgb'
  have hps := h.lt
  have hgl := hide (fun k hk => (h.glt k hk).2)
  have hst := hide (ToPut.start bs.length bs l rfl hl hn)
  have hmx := hide (cuts_max bs.length)
  generalize l ++ putL (Pl.cuts bs.length) bs = tot at *
  have kC := hide (fun w => refCuts_any ((bs.length : Nat) : Int) (by omega) w)
  simp only [Int.toNat_natCast] at kC
  have hkl := cuts_len bs.length
  generalize Pl.cuts bs.length = ks at *
  obtain rfl : n = bs.length := RdB.length hr
  generalize hbl : bs.length = m at *
  have HBL := hide hbl
  have hcap1 := hr.cap
  have hmax1 := hr.max
  clear h hB hr hl hbl hin hgb'
  have hkl2 : (ks.length : Int) ≤ 100001 := by omega
  go_enter Try.func54, Try.ntmps54
  go_wp2_with (fail)
  refine (kC.out _).mono ?_
  rintro e w2 ⟨A2, c2, rfl, hf2⟩
  have hoffK := hide (show Off p g A2 ks.length from Off.fresh hf2.1 hps hgl.out)
  have R1 := hide (HR.out.below hf2.below (Nat.le_refl _))
  have RK := hide hf2.rd
  have W2 := hide (H.out.below hf2.below)
  have B2 := hide hf2.below
  clear hf2
  go_wp2_with (fail)
  go_loopw [1, 5] (RPutRel base p gb g ks A2 c2 tot w) (fun _ j _ => ks.length - (intOf j).toNat)
  case atStart => exact ⟨0, A, m, c, g, l, bs, Nat.zero_le _, rfl, rfl, HI.out, ⟨hgb.out.1, Nat.lt_of_lt_of_le hgb.out.2.2 B2.out.size, hoffK.out⟩, W2.out, Upd.of_below B2.out, Mv.refl _ _, R1.out, RK.out, hst.out⟩
  case round =>
    obtain ⟨j, A3, n3, c3, g3, acc, rest, hj, rfl, rfl, hin, hgg, hw, hu, hmv, hrd, hrk, htp⟩ := hrel
    by_cases hlt : j < ks.length
    · obtain ⟨bk, ok, rfl, hbz, hcell⟩ := RdI.at_ hrk.out (show j < (natsI ks).length by rw [natsI_length]; exact hlt)
      have hkk : (natsI ks)[j]'(by rw [natsI_length]; exact hlt) = ((ks[j] : Nat) : Int) := by simp [natsI]
      rw [hkk] at hcell
      obtain ⟨hkr, htp2⟩ := htp.out.step hlt
      have hk65 := hmx.out ks[j] (List.getElem_mem hlt)
      have hlen := hide (show acc.length ≤ 3000000 ∧ 8 * rest.length ≤ 3000000 by have := htp.out.len; omega)
      generalize ks[j] = k at *
      have hn3 := RdB.length hrd.out
      have hc3 := hrd.out.cap
      have hm3 := hrd.out.max
      have hkn : k ≤ n3 := by omega
      have TP2 := hide htp2
      have HN3 := hide hn3
      have hk0 : (0 : Int) ≤ (k : Int) := by omega
      have hj0 : (0 : Int) ≤ (j : Int) := by omega
      have hkc : k ≤ c3 := by omega
      have hkn2 : (k : Int) ≤ (n3 : Int) := by omega
      have hkc2 : (k : Int) ≤ (c3 : Int) := by omega
      have HKK := hide hkk
      clear htp2 hn3 hkk hkr
      have hoffb := hide (show Off p g3 A3 n3 from hin.out.off hgb.out.2.1 hgg.out.1)
      have hbase := hide (Nat.le_trans HB.out hu.out.size)
      have kO := hide (rdet_any (k : Int) base p g3 acc wr hw.out (by have := hlen.out; omega) hbase.out hk0 (by omega))
      have htake := hide (hrd.out.take hkn)
      rw [bv_take] at htake
      have hdet := hide (det_le (k : Int))
      have hdrop : Hid (∀ W, Rd W A3 n3 c3 (bv rest) → ∀ o, A3 = some ⟨gb, o, none⟩ → Rd W (if c3 = k then some ⟨gb, o, none⟩ else some ⟨gb, o + k, none⟩) (n3 - k) (c3 - k) (bv (rest.drop k))) := fun W hW o e => by
        subst e
        have := hW.dropIf' hkn
        rwa [bv_drop] at this
      rcases hin.out with ⟨rfl, rfl, rfl⟩ | ⟨o3, rfl⟩
      · obtain rfl : k = 0 := by omega
        have hrl : Hid (rest = []) := List.eq_nil_of_length_eq_zero (by have := HN3.out; omega)
        have kO2 := kO
        simp only [Int.natCast_zero] at kO2
        go_wp2_with (fail)
        refine kO2.out.mono ?_
        rintro e w3 ⟨rfl, g4, hw4, hu4, hm4⟩
        have W4 := hide hw4
        have U4 := hide (hu.out.trans hmv.out hu4)
        have M4 := hide (hmv.out.comp hu.out hm4)
        have K4 := hide (hrk.out.upd hu4 hgg.out.2.2)
        have G4 : Hid (g4 ≠ some gb ∧ gb < w3.heap.size ∧ Off p g4 (some ⟨bk, ok, none⟩) ks.length) := ⟨by
          rcases hm4 with rfl | ⟨x, rfl, hx⟩
          · exact hgg.out.1
          · intro e
            cases e
            have := hgg.out.2.1
            omega, Nat.lt_of_lt_of_le hgg.out.2.1 hu4.size, hgg.out.2.2.mv hm4 hrk.out.lt_all⟩
        have hlen4 := hide (show (acc ++ det 0).length ≤ 3000016 by rw [List.length_append]; have := hlen.out; have := det_le 0; omega)
        clear hw4 hu4 hm4 hcell
        obtain ⟨bk', ok', he4, _, hcell4⟩ := RdI.at_ K4.out (show j < (natsI ks).length by rw [natsI_length]; exact hlt)
        cases he4
        rw [HKK.out] at hcell4
        simp only [Int.natCast_zero] at hcell4
        go_wp2_with (fail)
        refine (rwOcts_any base p g4 _ none 0 0 [] _ W4.out (by have := hlen4.out; simp only [List.length_nil]; omega) (Nat.le_trans HB.out U4.out.size) (Rd.nil _ _ _ (by unfold maxLen; omega)) (Off.nil _ _ _)).mono ?_
        rintro e w5 ⟨rfl, g5, hw5, hu5, hm5⟩
        have W5 := hide hw5
        have U5 := hide (U4.out.trans M4.out hu5)
        have M5 := hide (M4.out.comp U4.out hm5)
        have K5 := hide (K4.out.upd hu5 G4.out.2.2)
        have G5 : Hid (g5 ≠ some gb ∧ gb < w5.heap.size ∧ Off p g5 (some ⟨bk, ok, none⟩) ks.length) := ⟨by
          rcases hm5 with rfl | ⟨x, rfl, hx⟩
          · exact G4.out.1
          · intro e
            cases e
            have := G4.out.2.1
            omega, Nat.lt_of_lt_of_le G4.out.2.1 hu5.size, G4.out.2.2.mv hm5 K4.out.lt_all⟩
        clear hw5 hu5 hm5 hcell4
        obtain ⟨bk'', ok'', he5, _, hcell5⟩ := RdI.at_ K5.out (show j < (natsI ks).length by rw [natsI_length]; exact hlt)
        cases he5
        rw [HKK.out] at hcell5
        simp only [Int.natCast_zero] at hcell5
        have TP3 := TP2.out
        rw [hrl.out] at TP3
        simp only [List.drop_nil, List.take_nil, Int.natCast_zero] at TP3
        have TP3 := hide TP3
        go_wp2
        go_roundw
        case rel => exact ⟨j + 1, none, 0, 0, g5, _, [], by omega, by go_num, rfl, .inl ⟨rfl, rfl, rfl⟩, G5.out, W5.out, U5.out, M5.out, Rd.nil _ _ _ (by unfold maxLen; omega), K5.out, TP3.out⟩
        case measure => simp [intOf]; omega
      · rcases (show k = c3 ∨ ¬ c3 = k by omega) with rfl | hck
        all_goals
          first
            | (have hdrop2 := hdrop.out; simp only [if_neg hck] at hdrop2; have hck2 := hck)
            | (have hdrop2 := hdrop.out; simp only [eq_self, if_true] at hdrop2)
          have HD2 := hide hdrop2
          clear hdrop2
          go_wp2_with (fail)
          refine kO.out.mono ?_
          rintro e w3 ⟨rfl, g4, hw4, hu4, hm4⟩
          have W4 := hide hw4
          have U4 := hide (hu.out.trans hmv.out hu4)
          have M4 := hide (hmv.out.comp hu.out hm4)
          have T4 := hide (htake.out.upd hu4 (show Off p g3 (some ⟨gb, o3, none⟩) k from Off.mk k hgb.out.2.1 (fun e => hgg.out.1 e.symm)))
          have R4 := hide (hrd.out.upd hu4 hoffb.out)
          have K4 := hide (hrk.out.upd hu4 hgg.out.2.2)
          have G4 : Hid (g4 ≠ some gb ∧ gb < w3.heap.size ∧ Off p g4 (some ⟨bk, ok, none⟩) ks.length) := ⟨by
            rcases hm4 with rfl | ⟨x, rfl, hx⟩
            · exact hgg.out.1
            · intro e
              cases e
              have := hgg.out.2.1
              omega, Nat.lt_of_lt_of_le hgg.out.2.1 hu4.size, hgg.out.2.2.mv hm4 hrk.out.lt_all⟩
          have hlen4 := hide (show (acc ++ det (k : Int)).length ≤ 3000016 by rw [List.length_append]; have := hlen.out; have := hdet.out; omega)
          have O4 := hide (show Off p g4 (some ⟨gb, o3, none⟩) k from Off.mk k hgb.out.2.1 (fun e => G4.out.1 e.symm))
          have O4n := hide (show Off p g4 (some ⟨gb, o3, none⟩) n3 from Off.mk n3 hgb.out.2.1 (fun e => G4.out.1 e.symm))
          clear hw4 hu4 hm4 hcell
          obtain ⟨bk', ok', he4, _, hcell4⟩ := RdI.at_ K4.out (show j < (natsI ks).length by rw [natsI_length]; exact hlt)
          cases he4
          rw [HKK.out] at hcell4
          go_wp2_with (fail)
          refine (rwOcts_any base p g4 _ _ _ _ (rest.take k) _ W4.out ?_ (Nat.le_trans HB.out U4.out.size) T4.out O4.out).mono ?_
          · have := hlen4.out
            have := hlen.out
            rw [List.length_take]
            omega
          rintro e w5 ⟨rfl, g5, hw5, hu5, hm5⟩
          have W5 := hide hw5
          have U5 := hide (U4.out.trans M4.out hu5)
          have M5 := hide (M4.out.comp U4.out hm5)
          have R5 := hide (HD2.out _ (R4.out.upd hu5 O4n.out) o3 rfl)
          have K5 := hide (K4.out.upd hu5 G4.out.2.2)
          have G5 : Hid (g5 ≠ some gb ∧ gb < w5.heap.size ∧ Off p g5 (some ⟨bk, ok, none⟩) ks.length) := ⟨by
            rcases hm5 with rfl | ⟨x, rfl, hx⟩
            · exact G4.out.1
            · intro e
              cases e
              have := G4.out.2.1
              omega, Nat.lt_of_lt_of_le G4.out.2.1 hu5.size, G4.out.2.2.mv hm5 K4.out.lt_all⟩
          clear hw5 hu5 hm5 hcell4
          obtain ⟨bk'', ok'', he5, _, hcell5⟩ := RdI.at_ K5.out (show j < (natsI ks).length by rw [natsI_length]; exact hlt)
          cases he5
          rw [HKK.out] at hcell5
          go_wp2
          go_roundw
          case rel =>
            first
              | exact ⟨j + 1, _, _, _, g5, _, _, by omega, by go_num, rfl, .inr ⟨_, rfl⟩, G5.out, W5.out, U5.out, M5.out, R5.out, K5.out, TP2.out⟩
              | (have R6 := R5.out
                 rw [show n3 - k = 0 by omega, show k - k = 0 by omega] at R6
                 exact ⟨j + 1, _, _, _, g5, _, _, by omega, by go_num, rfl, .inr ⟨_, rfl⟩, G5.out, W5.out, U5.out, M5.out, R6, K5.out, TP2.out⟩)
          case measure => simp [intOf]; omega
    · go_wp2
      refine bodyPost_end (results_none rfl _ _ _) rfl ?_
      have e := htp.out.done (by omega)
      exact ⟨rfl, g3, e ▸ hw.out, hu.out, hmv.out⟩
end Go.Proofs.Ytikfogepdmpfaaa
