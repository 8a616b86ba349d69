import Derived.Test.YtikfogepdmpfaaaBit8
namespace Go.Proofs.Ytikfogepdmpfaaa
open Go.RowKit

/-- Two writers lie apart. -/
def Sep (p1 : Nat) (g1 : Option Nat) (p2 : Nat) (g2 : Option Nat) : Prop := p1 ≠ p2 ∧ some p1 ≠ g2 ∧ g1 ≠ some p2 ∧ (g1 = none ∨ g1 ≠ g2)
theorem Sep.symm {p1 p2 : Nat} {g1 g2 : Option Nat} (h : Sep p1 g1 p2 g2) : Sep p2 g2 p1 g1 := by
  obtain ⟨h1, h2, h3, h4⟩ := h
  refine ⟨h1.symm, h3.symm, h2.symm, ?_⟩
  rcases h4 with h4 | h4
  · rcases g2 with _ | k
    · exact .inl rfl
    · right
      rw [h4]
      simp
  · exact .inr h4.symm
theorem Sep.mv {w : World} {p1 p2 : Nat} {g1 g2 g2' : Option Nat} (h : Sep p1 g1 p2 g2) (m : Mv w g2 g2') (hp : p1 < w.heap.size) (hg : ∀ k, g1 = some k → k < w.heap.size) : Sep p1 g1 p2 g2' := by
  rcases m with rfl | ⟨j, rfl, hj⟩
  · exact h
  · refine ⟨h.1, fun e => ?_, h.2.2.1, .inr fun e => ?_⟩
    · cases e
      omega
    · have := hg j e
      omega
theorem Wr.sep {w w' : World} {base p1 p2 : Nat} {g1 g2 : Option Nat} {l : List Bool} (h : Wr w base p1 g1 l) (u : Upd p2 g2 w w') (s : Sep p1 g1 p2 g2) : Wr w' base p1 g1 l :=
  h.upd u s.1 s.2.1 s.2.2.1 s.2.2.2
theorem Wf.sep {w w' : World} {base p1 p2 : Nat} {g1 g2 : Option Nat} {l : List Bool} (h : Wf w base p1 g1 l) (u : Upd p2 g2 w w') (s : Sep p1 g1 p2 g2) : Wf w' base p1 g1 l :=
  h.upd u s.1 s.2.1 s.2.2.1 s.2.2.2
theorem Wr.sepmv {w : World} {base p1 p2 : Nat} {g1 g2 g2' : Option Nat} {l : List Bool} (h : Wr w base p1 g1 l) (m : Mv w g2 g2') (s : Sep p1 g1 p2 g2) : Sep p1 g1 p2 g2' :=
  s.mv m h.lt fun k hk => (h.glt k hk).2
theorem Wf.sepmv {w : World} {base p1 p2 : Nat} {g1 g2 g2' : Option Nat} {l : List Bool} (h : Wf w base p1 g1 l) (m : Mv w g2 g2') (s : Sep p1 g1 p2 g2) : Sep p1 g1 p2 g2' :=
  s.mv m h.lt fun k hk => (h.glt k hk).2

theorem RdV.below {w w' : World} {A : Option Addr} {n c : Nat} {vs : List Value} {ls : List (List UInt8)} (h : RdV w A n c vs ls) {B : Nat} (hb : Below B w w') (hB : w.heap.size ≤ B) : RdV w' A n c vs ls := h.keep fun _ hp => hb.cell (by omega)

def BOcRel (B : Nat) (g1 : Option Nat) (m : Nat) (ls : List (List UInt8)) (w0 : World) (ii : Value) (wr : World) : Prop :=
  ∃ (i : Nat) (g2 : Option Nat), i ≤ ls.length ∧ ii = .int .i64 (i : Int) ∧ Hid (Wr wr B B g1 (Pl.bitsOf 5 m)) ∧ Hid (Wr wr B (B + 1) g2 (Pl.bitsOf 5 m ++ Pl.octB (ls.take i).flatten)) ∧ Hid (Sep B g1 (B + 1) g2) ∧ Hid (Below B w0 wr) ∧ Hid ((ls.take i).flatten.length ≤ 200 * i)
def BOcRel2 (B : Nat) (g1 : Option Nat) (l1 l2 : List Bool) (a : List UInt8) (w0 : World) (ii : Value) (wr : World) : Prop :=
  ∃ (i : Nat) (g2 : Option Nat), i ≤ a.length ∧ ii = .int .i64 (i : Int) ∧ Hid (Wr wr B B g1 l1) ∧ Hid (Wr wr B (B + 1) g2 (l2 ++ Pl.octB (a.take i))) ∧ Hid (Sep B g1 (B + 1) g2) ∧ Hid (Below B w0 wr)

set_option maxRecDepth 100000 in
set_option maxHeartbeats 1600000 in
theorem bitsOctets_walk (x : Int) (A : Option Addr) (n c : Nat) (ls : List (List UInt8)) (w : World) (_hx : (Lit.int .i64 x).wf = true) (h : RdP w A n c ls) :
    Calls Try.prog 4 #[.int .i64 x, .slice A n c] w fun e w' => e = .returned (.bool true) ∧ Below w.heap.size w w' := by
  have hm := h.lenmax
  have hln := hide h.length
  obtain ⟨vs, hv⟩ := h
  have HV : Hid (RdV w A n c vs ls) := hv
  clear hv
  by_cases hn : n ≤ 20
  · obtain ⟨m, hm2⟩ : ∃ m : Nat, (x % 8).toNat = m := ⟨_, rfl⟩
    have hxm : (IntKind.u64.wrap x).tmod 8 = (m : Int) := by
      rw [Int.tmod_eq_emod_of_nonneg (by rw [IntKind.wrap_u64]; omega), IntKind.wrap_u64]
      omega
    have hm8 : (m : Int) ≤ 7 := by omega
    have hm0 : (0 : Int) ≤ (m : Int) := by omega
    have hcl : Hid (cl32 (m : Int) = m) := by unfold Hid cl32; omega
    clear hm2
    go_enter Try.func4, Try.ntmps4
    have WN1 := (Wr.new w w.heap.size 25).alloc (.cells #[.slice none 0 0, .int .i64 0] 25)
    have WN2 := Wr.new (w.alloc (.cells #[.slice none 0 0, .int .i64 0] 25)) w.heap.size 25
    have hb0 := ((Below.refl w.heap.size w).alloc (Nat.le_refl _) (.cells #[.slice none 0 0, .int .i64 0] 25)).alloc (by simp) (.cells #[.slice none 0 0, .int .i64 0] 25)
    rw [show (w.alloc (.cells #[.slice none 0 0, .int .i64 0] 25)).heap.size = w.heap.size + 1 by simp] at WN2
    have N1 := hide WN1
    have N2 := hide WN2
    have B0 := hide hb0
    have hBs : Hid (w.heap.size ≤ ((w.alloc (.cells #[.slice none 0 0, .int .i64 0] 25)).alloc (.cells #[.slice none 0 0, .int .i64 0] 25)).heap.size) := by unfold Hid; simp; omega
    clear WN1 WN2 hb0
    go_wp2_with (fail)
    refine (bits_any 5 (m : Int) w.heap.size w.heap.size none [] _ N1.out (by simp) hBs.out).mono ?_
    rintro e w1 ⟨rfl, g1, hw1, hu1, hm1⟩
    rw [hcl.out, List.nil_append] at hw1
    have hv1 := N2.out.upd hu1 (by omega) (by simp) (by simp) (.inl rfl)
    have hs1 : Sep (w.heap.size + 1) none w.heap.size g1 := N2.out.sepmv hm1 ⟨by omega, by simp, by simp, .inl rfl⟩
    have hb1 := B0.out.trans (hu1.below (B := w.heap.size) (Nat.le_refl _) (fun k hk => by cases hk) hBs.out)
    have hge1 := hm1.ge (B := w.heap.size) (fun k hk => by cases hk) hBs.out
    have W1 := hide hw1
    have V1 := hide hv1
    have S1 := hide hs1.symm
    have B1 := hide hb1
    have GE1 := hide hge1
    have hBs1 := hide hb1.size
    clear hw1 hv1 hs1 hb1 hu1 hm1 hge1 N1 N2 B0 hBs
    go_wp2_with (fail)
    refine (bits_any 5 (m : Int) w.heap.size (w.heap.size + 1) none [] _ V1.out (by simp) hBs1.out).mono ?_
    rintro e w2 ⟨rfl, g2, hw2, hu2, hm2⟩
    rw [hcl.out, List.nil_append] at hw2
    have W2 := hide (W1.out.sep hu2 S1.out)
    have V2 := hide hw2
    have S2 := hide (W1.out.sepmv hm2 S1.out)
    have B2 := hide (B1.out.trans (hu2.below (B := w.heap.size) (by omega) (fun k hk => by cases hk) hBs1.out))
    clear hw2 hu2 hm2 V1 W1 S1 B1 hBs1
    go_wp2_with (fail)
    go_loopw [8] (BOcRel w.heap.size g1 m ls w) (fun i _ => n - (intOf i).toNat)
    case atStart => exact ⟨0, g2, Nat.zero_le _, rfl, W2.out, hide (by simpa [Pl.octB_nil] using V2.out), S2.out, B2.out, Nat.le_refl _⟩
    case round =>
      obtain ⟨i, g2, hi, rfl, hw, hvv, hs, hb, hsum⟩ := hrel
      by_cases hlt : i < n
      · have hil : i < ls.length := by have := hln.out; omega
        obtain ⟨b, o, A', n', c', rfl, hvs, hcell, hrd⟩ := RdV.at_ (HV.out.below hb.out (Nat.le_refl _)) hil
        have hm' := hrd.lenmax
        have hl' := hide (RdB.length hrd)
        have hi0 : (0 : Int) ≤ (i : Int) := by omega
        have hi1 : (i : Int) < (n : Int) := by omega
        have HVS := hide hvs
        clear hrd hvs
        by_cases hbig : n' ≤ 200
        · have HSUCC := hide (flat_take_succ ls i hil)
          have HC : Hid (∀ w', Below w.heap.size w w' → w'.cell? ⟨b, o + i, none⟩ = some (.slice A' n' c') ∧ Rd w' A' n' c' (bv ls[i])) := fun w' hw' => by
            obtain ⟨b2, o2, A2, n2, c2, hA, hv2, hc2, hr2⟩ := RdV.at_ (HV.out.below hw' (Nat.le_refl _)) hil
            cases hA
            rw [HVS.out] at hv2
            cases hv2
            exact ⟨hc2, hr2⟩
          generalize hgen : ls[i] = a at *
          have HA := hide hgen
          clear hgen
          obtain ⟨wo, rfl⟩ : ∃ wo : World, wo = wr := ⟨_, rfl⟩
          go_wp2_with (fail)
          go_loopw [9] (BOcRel2 w.heap.size g1 (Pl.bitsOf 5 m) (Pl.bitsOf 5 m ++ Pl.octB (ls.take i).flatten) a w) (fun i _ => n' - (intOf i).toNat)
          case atStart => exact ⟨0, g2, Nat.zero_le _, rfl, hw, hide (by simpa [Pl.octB_nil] using hvv.out), hs, hb⟩
          case round =>
            obtain ⟨k, g3, hk, rfl, hw3, hv3, hs3, hb3⟩ := hrel
            have hcell := (HC.out wr hb3.out).1
            by_cases hlt2 : k < n'
            · have hka : k < a.length := by have := hl'.out; omega
              obtain ⟨b2, o2, rfl, hbz2, hcell2⟩ := RdB.at_ (HC.out wr hb3.out).2 hka
              have hk0 : (0 : Int) ≤ (k : Int) := by omega
              have hk1 : (k : Int) < (n' : Int) := by omega
              have hmore := hide (drop_one_more a k hka)
              have hlen : Hid ((Pl.bitsOf 5 m ++ Pl.octB (ls.take i).flatten ++ Pl.octB (a.take k)).length ≤ 1099511620000) := by
                have h1 := hsum.out
                have h2 := hl'.out
                have h3 := Pl.bitsOf_length 5 m
                show _ ≤ _
                simp only [List.length_append, Pl.octB_length, List.length_take]
                omega
              have kB := hide (bits_any (a[k].toNat : Int) 8 w.heap.size (w.heap.size + 1) g3 _ wr hv3.out hlen.out hb3.out.size)
              have hc1 := a[k].toNat_lt
              have hc0 : 0 ≤ (a[k].toNat : Int) ∧ (a[k].toNat : Int) < 256 := by omega
              generalize (a[k].toNat : Int) = cc at *
              clear hc1
              go_wp2_with (fail)
              refine kB.out.mono ?_
              rintro e w3 ⟨rfl, g4, hw4, hu4, hm4⟩
              have W4 := hide (hw3.out.sep hu4 hs3.out)
              have V4 := hide hw4
              have S4 := hide (hw3.out.sepmv hm4 hs3.out)
              have B4 := hide (hb3.out.trans (hu4.below (B := w.heap.size) (by omega) (fun q hq => (hv3.out.glt q hq).1) hb3.out.size))
              clear hw4 hu4 hm4
              go_wp2
              go_roundw
              case rel =>
                refine ⟨k + 1, g4, by omega, by go_num, W4.out, hide ?_, S4.out, B4.out⟩
                rw [hmore.out, ← List.append_assoc]
                exact V4.out
              case measure => simp [intOf]; omega
            · go_wp2
              go_roundw
              case rel =>
                refine ⟨i + 1, g3, by omega, by go_num, hw3.out, hide ?_, hs3.out, hb3.out, hide ?_⟩
                · rw [HSUCC.out, Pl.octB_append, ← List.append_assoc]
                  have := hv3.out
                  rwa [List.take_of_length_le (l := a) (by have := hl'.out; omega)] at this
                · have h1 := hsum.out
                  have h2 := hl'.out
                  rw [HSUCC.out, List.length_append]
                  omega
              case measure => simp [intOf]; omega
        · go_wp2_with (fail)
          refine (awake01_any _).mono ?_
          rintro e w4 ⟨rfl, hb4⟩
          have hb5 := hb.out.trans (hb4.mono hb.out.size)
          clear hb4
          go_wp2
          go_ret
          exact ⟨rfl, hb5⟩
      · have hin : i = ls.length := by have := hln.out; omega
        have hfl : (ls.take i).flatten = ls.flatten := by rw [List.take_of_length_le (by omega)]
        have hlen : Hid (ls.flatten.length ≤ 4000) := by
          have := hsum.out
          rw [hfl] at this
          have := hln.out
          unfold Hid
          omega
        have V3 := hide (hfl ▸ hvv.out)
        clear hfl hin
        have hge2 := hide (fun q hq => (hvv.out.glt q hq).1)
        have HR : Hid (∀ w', Upd w.heap.size g1 wr w' → RdV w' A n c vs ls) := fun w' u => HV.out.old hb.out (Nat.le_refl _) u (Nat.le_refl _) GE1.out hb.out.size
        go_wp2_with (fail)
        refine (octs_any w.heap.size w.heap.size g1 _ A n c ls _ hw.out ?_ hb.out.size vs HR.out).mono ?_
        · have := hlen.out
          rw [Pl.bitsOf_length]
          omega
        rintro e w3 ⟨rfl, g4, hw4, hu4, hm4⟩
        have W4 := hide hw4
        have V4 := hide (V3.out.sep hu4 hs.out.symm)
        have B4 := hide (hb.out.trans (hu4.below (B := w.heap.size) (Nat.le_refl _) GE1.out hb.out.size))
        clear hw4 hu4 hm4
        go_wp2_with (fail)
        refine (awake01_any _).mono ?_
        rintro e w4 ⟨rfl, hb5⟩
        have W5 := hide (W4.out.below hb5)
        have V5 := hide (V4.out.below hb5)
        have B5 := hide (B4.out.trans (hb5.mono B4.out.size))
        clear hb5
        go_wp2_with (fail)
        refine (wlen_any _ _ _ _ _ W5.out).mono ?_
        rintro e w5 ⟨rfl, rfl⟩
        go_wp2_with (fail)
        refine (wlen_any _ _ _ _ _ V5.out).mono ?_
        rintro e w5 ⟨rfl, rfl⟩
        go_wp2_with (fail)
        refine (wbytes_any _ _ _ _ _ W5.out ?_).mono ?_
        · have := hlen.out
          simp only [List.length_append, Pl.octB_length, Pl.bitsOf_length]
          omega
        rintro e w5 ⟨A5, n5, c5, rfl, hf5⟩
        have V6 := hide (V5.out.below hf5.below)
        have B6 := hide (B5.out.trans (hf5.below.mono B5.out.size))
        have R6 := hide hf5.rd
        clear hf5
        go_wp2_with (fail)
        refine (wbytes_any _ _ _ _ _ V6.out ?_).mono ?_
        · have := hlen.out
          simp only [List.length_append, Pl.octB_length, Pl.bitsOf_length]
          omega
        rintro e w6 ⟨A6, n6, c6, rfl, hf6⟩
        have B7 := hide (B6.out.trans (hf6.below.mono B6.out.size))
        have k9 := hide (sameBytes_any _ _ _ _ _ _ _ _ w6 (R6.out.below hf6.below (Nat.le_refl _)) hf6.rd)
        clear hf6
        go_wp2_with (fail)
        refine k9.out.mono ?_
        rintro e w7 ⟨rfl, rfl⟩
        go_wp2
        go_ret
        exact ⟨by simp, B7.out⟩
  · go_enter Try.func4, Try.ntmps4
    go_wp2_with (fail)
    refine (awake01_any _).mono ?_
    rintro e w1 ⟨rfl, hb1⟩
    go_wp2
    go_ret
    exact ⟨rfl, hb1⟩
end Go.Proofs.Ytikfogepdmpfaaa
