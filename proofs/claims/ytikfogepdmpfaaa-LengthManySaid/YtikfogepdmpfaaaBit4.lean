import Derived.Test.YtikfogepdmpfaaaBit3
import Derived.Test.YtikfogepdmpfaaaParts
namespace Go.Proofs.Ytikfogepdmpfaaa
open Go.RowKit

/-- A slice whose cells are the slices vs, which read as ls. -/
def RdV (w : World) (A : Option Addr) (n c : Nat) (vs : List Value) (ls : List (List UInt8)) : Prop :=
  Rd w A n c vs ∧ vs.length = ls.length ∧ ∀ (i : Nat) (l : List UInt8), ls[i]? = some l → ∃ A' n' c', vs[i]? = some (.slice A' n' c') ∧ Rd w A' n' c' (bv l)
section
variable {w w' : World} {A : Option Addr} {n c : Nat} {vs : List Value} {ls : List (List UInt8)}
theorem RdP.v (h : RdP w A n c ls) : ∃ vs, RdV w A n c vs ls := h
theorem RdV.p (h : RdV w A n c vs ls) : RdP w A n c ls := ⟨vs, h⟩
theorem RdV.keep (h : RdV w A n c vs ls) (hk : ∀ p : Addr, p.block < w.heap.size → w'.cell? p = w.cell? p) : RdV w' A n c vs ls := by
  obtain ⟨hr, hl, hx⟩ := h
  refine ⟨hr.keep hk, hl, fun i l hi => ?_⟩
  obtain ⟨A', n', c', hv, hr'⟩ := hx i l hi
  exact ⟨A', n', c', hv, hr'.keep hk⟩
theorem RdV.at_ (h : RdV w A n c vs ls) {k : Nat} (hk : k < ls.length) : ∃ b o A' n' c', A = some ⟨b, o, none⟩ ∧ vs[k]? = some (.slice A' n' c') ∧ w.cell? ⟨b, o + k, none⟩ = some (.slice A' n' c') ∧ Rd w A' n' c' (bv ls[k]) := by
  obtain ⟨hr, hl, hx⟩ := h
  obtain ⟨b, o, u, hA, hb, hu, hc⟩ := hr.at_ (k := k) (by have := hr.len; omega)
  obtain ⟨A', n', c', hv, hr'⟩ := hx k ls[k] (List.getElem?_eq_getElem hk)
  have hu2 := hu
  rw [hv] at hu
  cases hu
  exact ⟨b, o, A', n', c', hA, hv, hc, hr'⟩
theorem RdV.part (h : RdV w A n c vs ls) {k : Nat} (hk : k < ls.length) {A' : Option Addr} {n' c' : Nat} (hv : vs[k]? = some (.slice A' n' c')) : Rd w A' n' c' (bv ls[k]) := by
  obtain ⟨_, _, A2, n2, c2, _, hv2, _, hr⟩ := h.at_ hk
  rw [hv] at hv2
  cases hv2
  exact hr
end

theorem drop_one_more (a : List UInt8) (k : Nat) (h : k < a.length) : Pl.octB (a.take (k + 1)) = Pl.octB (a.take k) ++ Pl.bitsOf (a[k].toNat : Int) 8 := by
  rw [List.take_succ_eq_append_getElem h, Pl.octB_append, Pl.octB_one]

def OctsRel (base p : Nat) (g : Option Nat) (l : List Bool) (ls : List (List UInt8)) (w0 : World) (ii : Value) (wr : World) : Prop :=
  ∃ (i : Nat) (g' : Option Nat), i ≤ ls.length ∧ ii = .int .i64 (i : Int) ∧ Hid (Wr wr base p g' (l ++ Pl.octB (ls.take i).flatten)) ∧ Hid (Upd p g w0 wr) ∧ Hid (Mv w0 g g')
def OctsRel2 (base p : Nat) (g : Option Nat) (l : List Bool) (a : List UInt8) (w0 : World) (ii : Value) (wr : World) : Prop :=
  ∃ (i : Nat) (g' : Option Nat), i ≤ a.length ∧ ii = .int .i64 (i : Int) ∧ Hid (Wr wr base p g' (l ++ Pl.octB (a.take i))) ∧ Hid (Upd p g w0 wr) ∧ Hid (Mv w0 g g')

set_option maxRecDepth 100000 in
set_option maxHeartbeats 800000 in
theorem octs_any (base p : Nat) (g : Option Nat) (l : List Bool) (A : Option Addr) (n c : Nat) (ls : List (List UInt8)) (w : World) (h : Wr w base p g l) (hl : l.length + 8 * ls.flatten.length ≤ 1099511620000) (hB : base ≤ w.heap.size)
    (vs : List Value) (hR : ∀ w', Upd p g w w' → RdV w' A n c vs ls) :
    Calls Try.prog 21 #[.pointer (some ⟨p, 0, none⟩), .slice A n c] w (BitPost w base p g (l ++ Pl.octB ls.flatten)) := by
  have H := hide h
  have HB := hide hB
  have HL := hide hl
  have HR := hide hR
  have hr0 := hR w (Upd.refl _ _ _)
  have hln := hide hr0.p.length
  have hm := hr0.p.lenmax
  have hcl := cl32_le
  clear h hB hl hR hr0 hcl
  go_enter Try.func21, Try.ntmps21
  go_wp2
  go_loopw [10] (OctsRel base p g l ls w) (fun i _ => n - (intOf i).toNat)
  case atStart => exact ⟨0, g, Nat.zero_le _, rfl, hide (by simpa [Pl.octB_nil] using H.out), Upd.refl _ _ _, Mv.refl _ _⟩
  case round =>
    obtain ⟨i, g', hi, rfl, hw, hu, hmv⟩ := hrel
    by_cases hlt : i < n
    · have hil : i < ls.length := by have := hln.out; omega
      obtain ⟨b, o, A', n', c', rfl, hvs, hcell, hrd⟩ := RdV.at_ (HR.out wr hu.out) hil
      have hm' := hrd.lenmax
      have hl' := hide (RdB.length hrd)
      have HRD := hide hrd
      have hi0 : (0 : Int) ≤ (i : Int) := by omega
      clear hrd
      have HVS := hide hvs
      have HSUCC := hide (flat_take_succ ls i hil)
      have HLE := hide (flat_take_le ls (i + 1))
      have HX : Hid (∀ w', Upd p g w w' → Rd w' A' n' c' (bv ls[i])) := fun w' hw' => (HR.out w' hw').part hil HVS.out
      clear hvs
      generalize hgen : ls[i] = a at *
      have HA := hide hgen
      clear hgen
      obtain ⟨wo, rfl⟩ : ∃ wo : World, wo = wr := ⟨_, rfl⟩
      go_wp2
      go_loopw [16] (OctsRel2 base p g' (l ++ Pl.octB (ls.take i).flatten) a wo) (fun i _ => n' - (intOf i).toNat)
      case atStart => exact ⟨0, g', Nat.zero_le _, rfl, hide (by simpa [Pl.octB_nil] using hw.out), Upd.refl _ _ _, Mv.refl _ _⟩
      case round =>
        obtain ⟨k, g2, hk, rfl, hw2, hu2, hmv2⟩ := hrel
        by_cases hlt2 : k < n'
        · have hka : k < a.length := by have := hl'.out; omega
          obtain ⟨b2, o2, rfl, hbz2, hcell2⟩ := RdB.at_ (HX.out wr (hu.out.trans hmv.out hu2.out)) hka
          have hk0 : (0 : Int) ≤ (k : Int) := by omega
          have hmore := hide (drop_one_more a k hka)
          have hc1 := a[k].toNat_lt
          have hc0 : 0 ≤ (a[k].toNat : Int) ∧ (a[k].toNat : Int) < 4294967296 := by omega
          have hlen : Hid ((l ++ Pl.octB (ls.take i).flatten ++ Pl.octB (a.take k)).length ≤ 1099511620000) := by
            have h1 := HL.out
            have h2 := HSUCC.out
            have h3 := HLE.out
            have h4 := congrArg List.length h2
            rw [List.length_append] at h4
            show _ ≤ _
            simp only [List.length_append, Pl.octB_length, List.length_take]
            omega
          have hbase : Hid (base ≤ wr.heap.size) := Nat.le_trans HB.out (hu.out.trans hmv.out hu2.out).size
          have kB := hide (bits_any (a[k].toNat : Int) 8 base p g2 _ wr hw2.out hlen.out hbase.out)
          generalize (a[k].toNat : Int) = cc at *
          clear hc1
          go_wp2_with (fail)
          refine kB.out.mono ?_
          rintro e w2 ⟨rfl, g3, hw3, hu3, hm3⟩
          have hm3 := hide (hmv2.out.trans hu2.out.size hm3)
          have hu3 := hide (hu2.out.trans hmv2.out hu3)
          have hw3 := hide hw3
          go_wp2
          go_roundw
          case rel =>
            refine ⟨k + 1, g3, by omega, by go_num, hide ?_, hu3, hm3⟩
            rw [hmore.out, ← List.append_assoc]
            exact hw3.out
          case measure => simp [intOf]; omega
        · have hw3 := hide hw2
          have hu3 := hide (hu.out.trans hmv.out hu2.out)
          have hm3 := hide (hmv.out.trans hu.out.size hmv2.out)
          go_wp2
          go_roundw
          case rel =>
            refine ⟨i + 1, g2, by omega, by go_num, hide ?_, hu3, hm3⟩
            rw [HSUCC.out, Pl.octB_append, ← List.append_assoc]
            have := hw3.out.out
            rwa [List.take_of_length_le (l := a) (by have := hl'.out; omega)] at this
          case measure => simp [intOf]; omega
    · go_wp2
      refine bodyPost_end (results_none rfl _ _ _) rfl ?_
      refine ⟨rfl, g', ?_, hu.out, hmv.out⟩
      have := hw.out
      rwa [List.take_of_length_le (l := ls) (by have := hln.out; omega)] at this
end Go.Proofs.Ytikfogepdmpfaaa
