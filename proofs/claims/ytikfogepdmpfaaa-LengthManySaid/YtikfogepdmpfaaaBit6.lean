import Derived.Test.YtikfogepdmpfaaaBit5
namespace Go.Proofs.Ytikfogepdmpfaaa
open Go.RowKit

def RBitsRel (base p : Nat) (g : Option Nat) (l : List Bool) (v : Int) (m : Nat) (w0 : World) (kk : Value) (wr : World) : Prop :=
  ∃ (j : Nat) (g' : Option Nat), j ≤ m ∧ kk = .int .i64 ((m : Int) - 1 - (j : Int)) ∧ Hid (Wf wr base p g' (l ++ (Pl.bitsOf v m).take j)) ∧ Hid (Upd p g w0 wr) ∧ Hid (Mv w0 g g')

theorem bit8_arg (v : Int) (k : Nat) : bits BinOp.and IntKind.u32 (v / 2 ^ k) 1 % 256 = if decide (v / 2 ^ k % 2 = 1) then 1 else 0 := by
  rw [and_one_u32 _]
  have h : v / 2 ^ k % 2 = 0 ∨ v / 2 ^ k % 2 = 1 := by omega
  rcases h with h | h <;> rw [h] <;> decide

set_option maxRecDepth 100000 in
set_option maxHeartbeats 800000 in
theorem refBits_cl (v n : Int) (m : Nat) (hcl : cl32 n = m) (base p : Nat) (g : Option Nat) (l : List Bool) (w : World) (h : Wf w base p g l) (hl : l.length ≤ 1099511620000) (hB : base ≤ w.heap.size) :
    Calls Try.prog 19 #[.pointer (some ⟨p, 0, none⟩), .int .u32 v, .int .i64 n] w (RfPost w base p g (l ++ Pl.bitsOf v m)) := by
  obtain ⟨i0, hi, hz0, hz1, hz2⟩ := info_parts Try.info_byte
  have hm := cl32_le n
  have hmv := cl32_val n
  rw [hcl] at hm hmv
  have H := hide h
  have HB := hide hB
  have HL := hide hl
  have hm0 : 0 ≤ (m : Int) := by omega
  have hcs : (32 < n ∧ Hid ((31 : Int) = (m : Int) - 1 - ((0 : Nat) : Int))) ∨ (n ≤ 32 ∧ 0 < n ∧ n = (m : Int) ∧ Hid ((m : Int) - 1 = (m : Int) - 1 - ((0 : Nat) : Int))) ∨ (n ≤ 32 ∧ n ≤ 0 ∧ Hid ((-1 : Int) = (m : Int) - 1 - ((0 : Nat) : Int))) := by
    by_cases h1 : 32 < n
    · exact .inl ⟨h1, by unfold Hid; omega⟩
    · by_cases h2 : 0 < n
      · exact .inr (.inl ⟨by omega, h2, by omega, by unfold Hid; omega⟩)
      · exact .inr (.inr ⟨by omega, by omega, by unfold Hid; omega⟩)
  clear h hB hmv hcl hl
  rcases hcs with ⟨hn, HM⟩ | ⟨hn, hn0, rfl, HM⟩ | ⟨hn, hn0, HM⟩
  all_goals
    go_enter Try.func19, Try.ntmps19
    go_wp2_with (fail)
    go_loopw [6] (RBitsRel base p g l v m w) (fun kk _ => (intOf kk + 1).toNat)
    case atStart => exact ⟨0, g, Nat.zero_le _, congrArg (Value.int .i64) HM.out, hide (by simpa using H.out), Upd.refl _ _ _, Mv.refl _ _⟩
    case round =>
      obtain ⟨j, g', hj, rfl, hw, hu, hmv⟩ := hrel
      by_cases hlt : j < m
      · obtain ⟨k, hk⟩ : ∃ k, m - 1 - j = k := ⟨_, rfl⟩
        have hk2 : (m : Int) - 1 - (j : Int) = (k : Int) := by omega
        have hk0 : (0 : Int) ≤ (k : Int) := by omega
        have hk31 : (k : Int) ≤ 31 := by omega
        rw [hk2]
        have HK := hide hk
        have harg := hide (bit8_arg v k)
        have hlen : Hid ((l ++ (Pl.bitsOf v m).take j).length ≤ 1099511627000) := by
          have h1 := Pl.bitsOf_length v m
          have h2 := HL.out
          show _ ≤ _
          rw [List.length_append, List.length_take]
          omega
        have hbase : Hid (base ≤ wr.heap.size) := Nat.le_trans HB.out hu.out.size
        have hsn := hide (Pl.bitsOf_take_succ v m j hlt)
        obtain ⟨A, nn, c, h0, f0, ho, hg, hne⟩ := hw.out
        have hn := RdB.length (Rd.of_own ho)
        rw [b01_length] at hn
        have hps := lt_cell h0
        simp only at hps
        have hnb : nn + 1 ≤ 1099511627776 := by
          have := hlen.out
          omega
        have HO := hide ho
        have HG := hide hg
        have HPS := hide hps
        clear hk hk2 hn ho hg hne hps
        go_wp2_with (at_builtin; refine wpList_app _ rfl (.tmp 20) (.tmp 27) _ rfl base 5 i0 (.int .u8 0) 1 Try.underlying23 hi hz0 hz1 hz2 rfl _ _ _ rfl (HO.out.alloc _) _ _ _ _ rfl (Rd.one wr _ 5) (one_int _ _) hnb (by omega) ?_ ?_)
        · have := hbase.out
          first | omega | (simp; omega)
        · intro A1 c1 w1 hown1 hg1 hl1
          rw [HG.out] at hg1 hl1
          rw [harg.out, b01_snoc] at hown1
          obtain ⟨H1, H2, H3, ⟨u0, c0'⟩, d0⟩ := hw.out.app (w0 := wr.alloc (.cells #[_] 5)) ((Upd.refl p none wr).alloc _) hown1 hg1 (Below.heap_alloc _ _ _ HPS.out) (by simpa using hl1)
          have K1 := hide H1
          have K2 := hide (hu.out.trans hmv.out H2)
          have K3 := hide (hmv.out.trans hu.out.size H3)
          clear H1 H2 H3 hown1 hg1 hl1
          go_wp2
          go_roundw
          case rel =>
            refine ⟨j + 1, _, hlt, ?_, hide ?_, K2, K3⟩
            · have := HK.out
              have e : (k : Int) - 1 = (m : Int) - 1 - ((j + 1 : Nat) : Int) := by omega
              rw [e]
            · rw [hsn.out, HK.out, ← List.append_assoc]
              exact K1.out
          case measure => simp [intOf]
      · obtain rfl : j = m := by omega
        have e1 : (j : Int) - 1 - (j : Int) = -1 := by omega
        rw [e1]
        clear e1
        go_wp2
        refine bodyPost_end (results_none rfl _ _ _) rfl ?_
        refine ⟨rfl, g', ?_, hu.out, hmv.out⟩
        have := hw.out
        rwa [List.take_of_length_le (by rw [Pl.bitsOf_length]; omega)] at this

theorem refBits_any (v n : Int) (base p : Nat) (g : Option Nat) (l : List Bool) (w : World) (h : Wf w base p g l) (hl : l.length ≤ 1099511620000) (hB : base ≤ w.heap.size) :
    Calls Try.prog 19 #[.pointer (some ⟨p, 0, none⟩), .int .u32 v, .int .i64 n] w (RfPost w base p g (l ++ Pl.bitsOf v (cl32 n))) :=
  refBits_cl v n _ rfl base p g l w h hl hB

def ROctsRel (base p : Nat) (g : Option Nat) (l : List Bool) (ls : List (List UInt8)) (w0 : World) (ii : Value) (wr : World) : Prop :=
  ∃ (i : Nat) (g' : Option Nat), i ≤ ls.length ∧ ii = .int .i64 (i : Int) ∧ Hid (Wf wr base p g' (l ++ Pl.octB (ls.take i).flatten)) ∧ Hid (Upd p g w0 wr) ∧ Hid (Mv w0 g g')
def ROctsRel2 (base p : Nat) (g : Option Nat) (l : List Bool) (a : List UInt8) (w0 : World) (ii : Value) (wr : World) : Prop :=
  ∃ (i : Nat) (g' : Option Nat), i ≤ a.length ∧ ii = .int .i64 (i : Int) ∧ Hid (Wf wr base p g' (l ++ Pl.octB (a.take i))) ∧ Hid (Upd p g w0 wr) ∧ Hid (Mv w0 g g')

set_option maxRecDepth 100000 in
set_option maxHeartbeats 800000 in
theorem refOcts_any (base p : Nat) (g : Option Nat) (l : List Bool) (A : Option Addr) (n c : Nat) (ls : List (List UInt8)) (w : World) (h : Wf w base p g l) (hl : l.length + 8 * ls.flatten.length ≤ 1099511620000) (hB : base ≤ w.heap.size)
    (vs : List Value) (hR : ∀ w', Upd p g w w' → RdV w' A n c vs ls) :
    Calls Try.prog 22 #[.pointer (some ⟨p, 0, none⟩), .slice A n c] w (RfPost w base p g (l ++ Pl.octB ls.flatten)) := by
  have H := hide h
  have HB := hide hB
  have HL := hide hl
  have HR := hide hR
  have hr0 := hR w (Upd.refl _ _ _)
  have hln := hide hr0.p.length
  have hm := hr0.p.lenmax
  clear h hB hl hR hr0
  go_enter Try.func22, Try.ntmps22
  go_wp2
  go_loopw [4] (ROctsRel base p g l ls w) (fun i _ => n - (intOf i).toNat)
  case atStart => exact ⟨0, g, Nat.zero_le _, rfl, hide (by simpa [Pl.octB_nil] using H.out), Upd.refl _ _ _, Mv.refl _ _⟩
  case round =>
    obtain ⟨i, g', hi, rfl, hw, hu, hmv⟩ := hrel
    by_cases hlt : i < n
    · have hil : i < ls.length := by have := hln.out; omega
      obtain ⟨b, o, A', n', c', rfl, hvs, hcell, hrd⟩ := RdV.at_ (HR.out wr hu.out) hil
      have hm' := hrd.lenmax
      have hl' := hide (RdB.length hrd)
      have HRD := hide hrd
      have hi0 : (0 : Int) ≤ (i : Int) := by omega
      have hi1 : (i : Int) < (n : Int) := by omega
      have HVS := hide hvs
      clear hrd hcell
      have HSUCC := hide (flat_take_succ ls i hil)
      have HLE := hide (flat_take_le ls (i + 1))
      have HX : Hid (∀ w', Upd p g w w' → Rd w' A' n' c' (bv ls[i])) := fun w' hw' => (HR.out w' hw').part hil HVS.out
      have HC : Hid (∀ w', Upd p g w w' → w'.cell? ⟨b, o + i, none⟩ = some (.slice A' n' c')) := fun w' hw' => by
        obtain ⟨b2, o2, A2, n2, c2, hA, hv2, hc2, _⟩ := RdV.at_ (HR.out w' hw') hil
        cases hA
        rw [HVS.out] at hv2
        cases hv2
        exact hc2
      clear hvs
      generalize hgen : ls[i] = a at *
      have HA := hide hgen
      clear hgen
      obtain ⟨wo, rfl⟩ : ∃ wo : World, wo = wr := ⟨_, rfl⟩
      go_wp2
      go_loopw [5] (ROctsRel2 base p g' (l ++ Pl.octB (ls.take i).flatten) a wo) (fun i _ => n' - (intOf i).toNat)
      case atStart => exact ⟨0, g', Nat.zero_le _, rfl, hide (by simpa [Pl.octB_nil] using hw.out), Upd.refl _ _ _, Mv.refl _ _⟩
      case round =>
        obtain ⟨k, g2, hk, rfl, hw2, hu2, hmv2⟩ := hrel
        have hcell := HC.out wr (hu.out.trans hmv.out hu2.out)
        by_cases hlt2 : k < n'
        · have hka : k < a.length := by have := hl'.out; omega
          obtain ⟨b2, o2, rfl, hbz2, hcell2⟩ := RdB.at_ (HX.out wr (hu.out.trans hmv.out hu2.out)) hka
          have hk0 : (0 : Int) ≤ (k : Int) := by omega
          have hmore := hide (drop_one_more a k hka)
          have hlen : Hid ((l ++ Pl.octB (ls.take i).flatten ++ Pl.octB (a.take k)).length ≤ 1099511620000) := by
            have h1 := HL.out
            have h2 := HSUCC.out
            have h3 := HLE.out
            have h4 := congrArg List.length h2
            rw [List.length_append] at h4
            show _ ≤ _
            simp only [List.length_append, Pl.octB_length, List.length_take]
            omega
          have hbase : Hid (base ≤ wr.heap.size) := Nat.le_trans HB.out (hu.out.trans hmv.out hu2.out).size
          have kB := hide (refBits_any (a[k].toNat : Int) 8 base p g2 _ wr hw2.out hlen.out hbase.out)
          have hc1 := a[k].toNat_lt
          have hc0 : 0 ≤ (a[k].toNat : Int) ∧ (a[k].toNat : Int) < 256 := by omega
          generalize (a[k].toNat : Int) = cc at *
          clear hc1
          go_wp2_with (fail)
          refine kB.out.mono ?_
          rintro e w2 ⟨rfl, g3, hw3, hu3, hm3⟩
          have hm3 := hide (hmv2.out.trans hu2.out.size hm3)
          have hu3 := hide (hu2.out.trans hmv2.out hu3)
          have hw3 := hide hw3
          go_wp2
          go_roundw
          case rel =>
            refine ⟨k + 1, g3, by omega, by go_num, hide ?_, hu3, hm3⟩
            rw [hmore.out, ← List.append_assoc]
            exact hw3.out
          case measure => simp [intOf]; omega
        · have hw3 := hide hw2
          have hu3 := hide (hu.out.trans hmv.out hu2.out)
          have hm3 := hide (hmv.out.trans hu.out.size hmv2.out)
          go_wp2
          go_roundw
          case rel =>
            refine ⟨i + 1, g2, by omega, by go_num, hide ?_, hu3, hm3⟩
            rw [HSUCC.out, Pl.octB_append, ← List.append_assoc]
            have := hw3.out.out
            rwa [List.take_of_length_le (l := a) (by have := hl'.out; omega)] at this
          case measure => simp [intOf]; omega
    · go_wp2
      refine bodyPost_end (results_none rfl _ _ _) rfl ?_
      refine ⟨rfl, g', ?_, hu.out, hmv.out⟩
      have := hw.out
      rwa [List.take_of_length_le (l := ls) (by have := hln.out; omega)] at this
end Go.Proofs.Ytikfogepdmpfaaa
