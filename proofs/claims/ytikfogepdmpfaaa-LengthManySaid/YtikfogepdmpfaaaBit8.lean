import Derived.Test.YtikfogepdmpfaaaBit7
namespace Go.Proofs.Ytikfogepdmpfaaa
open Go.RowKit

/-- A slice lies off the two blocks. -/
def Off (p : Nat) (g : Option Nat) (A : Option Addr) (n : Nat) : Prop := 0 < n → ∀ b o s, A = some ⟨b, o, s⟩ → b ≠ p ∧ some b ≠ g
section
variable {w w' : World} {A : Option Addr} {n c p : Nat} {g : Option Nat} {xs vs : List Value} {ls : List (List UInt8)}
theorem Rd.upd (h : Rd w A n c xs) (u : Upd p g w w') (ho : Off p g A n) : Rd w' A n c xs := by
  refine ⟨h.1, h.2.1, h.2.2.1, fun hn => ?_⟩
  obtain ⟨b, o, e, hc⟩ := h.2.2.2 hn
  obtain ⟨h1, h2⟩ := ho hn b o none e
  exact ⟨b, o, e, fun i x hx => (u.cell (a := ⟨b, o + i, none⟩) (lt_cell (hc i x hx)) h1 h2).trans (hc i x hx)⟩
theorem Off.of_lt (h : Rd w A n c xs) (hp : w.heap.size ≤ p) (hg : ∀ k, g = some k → w.heap.size ≤ k) : Off p g A n := fun hn b o s e => by
  obtain ⟨b', o', e', hc⟩ := h.2.2.2 hn
  rw [e'] at e
  cases e
  have hx : 0 < xs.length := by have := h.1; omega
  have hb := lt_cell (hc 0 _ (List.getElem?_eq_getElem hx))
  simp only at hb
  refine ⟨by omega, fun e => ?_⟩
  have := hg b e.symm
  omega
theorem Off.nil (p : Nat) (g : Option Nat) (A : Option Addr) : Off p g A 0 := fun h => absurd h (by omega)
theorem Off.mk {b o : Nat} (n : Nat) (h1 : b ≠ p) (h2 : some b ≠ g) : Off p g (some ⟨b, o, none⟩) n := fun _ b' o' s e => by
  cases e
  exact ⟨h1, h2⟩
/-- A new slice lies off what was there. -/
theorem Off.fresh {T : TypeId} {base : Nat} (h : w'.ownsRow base T 1 (.slice A n c) n xs) (hp : p < base) (hg : ∀ k, g = some k → k < base) : Off p g A n := fun hn b o s e => by
  subst e
  rcases h.2 with ⟨_, h0⟩ | ⟨g', cap, cur, hv, hB, _⟩
  · omega
  · cases hv
    refine ⟨by omega, fun e => ?_⟩
    have := hg b e.symm
    omega
theorem RdV.upd (h : RdV w A n c vs ls) (u : Upd p g w w') (ho : Off p g A n) (hv : ∀ (i : Nat) (A' : Option Addr) (n' c' : Nat), vs[i]? = some (.slice A' n' c') → Off p g A' n') : RdV w' A n c vs ls := by
  obtain ⟨hr, hl, hx⟩ := h
  refine ⟨hr.upd u ho, hl, fun i l hi => ?_⟩
  obtain ⟨A', n', c', hv', hr'⟩ := hx i l hi
  exact ⟨A', n', c', hv', hr'.upd u (hv i A' n' c' hv')⟩
/-- What was there when the two blocks were not stays. -/
theorem RdV.old {W : World} {B : Nat} (h : RdV W A n c vs ls) (hb : Below B W w) (hB : W.heap.size ≤ B) (u : Upd p g w w') (hp : B ≤ p) (hg : ∀ k, g = some k → B ≤ k) (hs : B ≤ w.heap.size) : RdV w' A n c vs ls :=
  h.keep fun q hq => (hb.trans (u.below hp hg hs)).cell (by omega)
end

theorem cell_new {w : World} {cs : Array Value} {t : TypeId} {b i : Nat} {u : Value} (hb : b = w.heap.size) (h : cs[i]? = some u) : (w.alloc (.cells cs t)).cell? ⟨b, i, none⟩ = some u := by
  subst hb
  have hl := heap_alloc_new w (.cells cs t)
  unfold World.cell?
  rw [show (w.alloc (.cells cs t)).heap[(⟨w.heap.size, i, none⟩ : Addr).block]? = some (.cells cs t) from hl]
  exact h
/-- Two slices laid side by side. -/
theorem RdV.two {w : World} {b c : Nat} {A1 A2 : Option Addr} {n1 c1 n2 c2 : Nat} {l1 l2 : List UInt8} (h0 : w.cell? ⟨b, 0, none⟩ = some (.slice A1 n1 c1)) (h1 : w.cell? ⟨b, 1, none⟩ = some (.slice A2 n2 c2)) (hc : 2 ≤ c) (hm : c ≤ maxLen) (r1 : Rd w A1 n1 c1 (bv l1)) (r2 : Rd w A2 n2 c2 (bv l2)) :
    RdV w (some ⟨b, 0, none⟩) 2 c [.slice A1 n1 c1, .slice A2 n2 c2] [l1, l2] := by
  refine ⟨⟨rfl, hc, hm, fun _ => ⟨b, 0, rfl, fun i u hu => ?_⟩⟩, rfl, fun i l hi => ?_⟩
  · match i, hu with
    | 0, hu => simp at hu; subst hu; exact h0
    | 1, hu => simp at hu; subst hu; exact h1
  · match i, hi with
    | 0, hi => simp at hi; subst hi; exact ⟨A1, n1, c1, rfl, r1⟩
    | 1, hi => simp at hi; subst hi; exact ⟨A2, n2, c2, rfl, r2⟩
theorem RdV.one {w : World} {b c : Nat} {A1 : Option Addr} {n1 c1 : Nat} {l1 : List UInt8} (h0 : w.cell? ⟨b, 0, none⟩ = some (.slice A1 n1 c1)) (hc : 1 ≤ c) (hm : c ≤ maxLen) (r1 : Rd w A1 n1 c1 (bv l1)) :
    RdV w (some ⟨b, 0, none⟩) 1 c [.slice A1 n1 c1] [l1] := by
  refine ⟨⟨rfl, hc, hm, fun _ => ⟨b, 0, rfl, fun i u hu => ?_⟩⟩, rfl, fun i l hi => ?_⟩
  · match i, hu with
    | 0, hu => simp at hu; subst hu; exact h0
  · match i, hi with
    | 0, hi => simp at hi; subst hi; exact ⟨A1, n1, c1, rfl, r1⟩

theorem Wr.new (w : World) (base : Nat) (t : TypeId) : Wr (w.alloc (.cells #[.slice none 0 0, .int .i64 0] t)) base w.heap.size none [] :=
  ⟨none, 0, 0, by simp, by simp, by simp, by simp, World.ownsRow_nil _ _ _ _, rfl, by simp⟩
theorem Wf.new (w : World) (base : Nat) (t : TypeId) : Wf (w.alloc (.cells #[.slice none 0 0] t)) base w.heap.size none [] :=
  ⟨none, 0, 0, by simp, by simp, World.ownsRow_nil _ _ _ _, rfl, by simp⟩
theorem Mv.ge {w : World} {g g' : Option Nat} (m : Mv w g g') {B : Nat} (hg : ∀ k, g = some k → B ≤ k) (hB : B ≤ w.heap.size) : ∀ k, g' = some k → B ≤ k := by
  rcases m with rfl | ⟨j, rfl, hj⟩
  · exact hg
  · intro k hk
    cases hk
    omega

theorem own_upd {w w' : World} {base n size p : Nat} {g : Option Nat} {e : TypeId} {v : Value} {xs : List Value} (h : w.ownsRow base e size v n xs) (u : Upd p g w w') (hv : ∀ k, v.ownBlock = some k → k ≠ p ∧ some k ≠ g) : w'.ownsRow base e size v n xs :=
  own_of_block h fun k hk => u.block k (h.lt k hk).2 (hv k hk).1 (hv k hk).2
theorem below_drewN {B : Nat} {a : World} : ∀ (q : Nat) {w : World}, Below B a w → Below B a (w.drewN q)
  | 0, _, h => h
  | q + 1, w, h => by
    have := below_drewN q (w := w) h
    exact ⟨this.os, this.tape, this.output, this.size, this.block⟩

theorem keepW {w5 w' w'' : World} {a : Addr} {v : Value} (h1 : w5.drew.cell? a = some v) (h : w'.cell? a = some v ∧ Below w5.heap.size w5 w') (hb : Below w'.heap.size w' w'') : w''.cell? a = some v ∧ Below w5.heap.size w5 w'' :=
  have h2 : w5.cell? a = some v := h1
  ⟨((below_next h.2 hb).cell (lt_cell h2)).trans h2, below_next h.2 hb⟩

set_option maxRecDepth 100000 in
set_option maxHeartbeats 800000 in
theorem awake01_any (w : World) : Calls Try.prog 17 #[] w fun e w' => e = .returned (.bool true) ∧ Below w.heap.size w w' := by
  go_enter Try.func17, Try.ntmps17
  go_wp2_with (fail)
  have N0 := Wr.new w w.heap.size 25
  have hb0 := (Below.refl w.heap.size w).alloc (Nat.le_refl _) (.cells #[.slice none 0 0, .int .i64 0] 25)
  refine (bits_any 5 3 w.heap.size w.heap.size none [] _ N0 (by simp) (by simp)).mono ?_
  rintro e w1 ⟨rfl, g1, hw1, hu1, hm1⟩
  have hb1 := hb0.trans (hu1.below (B := w.heap.size) (Nat.le_refl _) (fun k hk => by cases hk) (by simp))
  have e1 : [] ++ Pl.bitsOf 5 (cl32 3) = Pl.bitsOf 5 3 := rfl
  rw [e1] at hw1
  have K1 := hide (And.intro hw1 hb1)
  have hg1 := hide (hm1.ge (B := w.heap.size) (fun k hk => by cases hk) (by simp))
  clear hw1 hu1 hm1 hb1 hb0 N0 e1
  go_wp2_with (fail)
  have hz : w.heap.size < w1.heap.size := by have := K1.out.2.size; have := K1.out.1.lt; omega
  have hb2 := K1.out.2.alloc (Nat.le_of_lt hz) (.cells #[.int .u8 255] 5)
  have hb3 := hb2.alloc (by simp; omega) (.cells #[.slice (some ⟨w1.heap.size, 0, none⟩) 1 1, .slice none 0 0] 23)
  have hw3 := (K1.out.1.alloc (.cells #[.int .u8 255] 5)).alloc (.cells #[.slice (some ⟨w1.heap.size, 0, none⟩) 1 1, .slice none 0 0] 23)
  have r1 : Rd ((w1.alloc (.cells #[.int .u8 255] 5)).alloc (.cells #[.slice (some ⟨w1.heap.size, 0, none⟩) 1 1, .slice none 0 0] 23)) (some ⟨w1.heap.size, 0, none⟩) 1 1 (bv [255]) := (Rd.one w1 (.int .u8 255) 5).alloc _
  have rp := RdV.two (w := (w1.alloc (.cells #[.int .u8 255] 5)).alloc (.cells #[.slice (some ⟨w1.heap.size, 0, none⟩) 1 1, .slice none 0 0] 23)) (b := w1.heap.size + 1) (c := 2) (cell_new (by simp) rfl) (cell_new (by simp) rfl) (by omega) (by unfold maxLen; omega) r1 (l2 := []) (Rd.nil _ none 0 (by unfold maxLen; omega))
  have hgg := hg1.out
  have hgl := K1.out.1.glt
  have HV : Hid (∀ w', Upd w.heap.size g1 ((w1.alloc (.cells #[.int .u8 255] 5)).alloc (.cells #[.slice (some ⟨w1.heap.size, 0, none⟩) 1 1, .slice none 0 0] 23)) w' → RdV w' (some ⟨w1.heap.size + 1, 0, none⟩) 2 2 [.slice (some ⟨w1.heap.size, 0, none⟩) 1 1, .slice none 0 0] [[255], []]) := fun w' u => rp.upd u (Off.mk 2 (by omega) (fun e => by have := (hgl _ e.symm).2; omega)) (fun i A' n' c' h => by
    match i, h with
    | 0, h => cases h; exact Off.mk 1 (by omega) (fun e => by have := (hgl _ e.symm).2; omega)
    | 1, h => cases h; exact Off.nil _ _ _)
  have HW := hide hw3
  have HB := hide hb3
  clear hb2 hb3 hw3 r1 rp hgg hgl
  refine (octs_any w.heap.size w.heap.size g1 _ _ _ _ [[255], []] _ HW.out (by decide) ?_ _ HV.out).mono ?_
  · simp; omega
  rintro e w2 ⟨rfl, g2, hw2, hu2, hm2⟩
  have hb4 := HB.out.trans (hu2.below (B := w.heap.size) (Nat.le_refl _) hg1.out (by simp; omega))
  have W2 := hide hw2
  have B2 := hide hb4
  clear hu2 hm2 hw2 hb4 HV HW HB
  go_wp2_with (fail)
  refine (wbytes_any w.heap.size w.heap.size g2 _ _ W2.out (by decide)).mono ?_
  rintro e w3 ⟨A, n, c, rfl, hf⟩
  have hb5 := B2.out.trans (hf.below.mono B2.out.size)
  have W3 := hide (W2.out.below hf.below)
  have B3 := hide hb5
  have e1 : Pl.pack (Pl.bitsOf 5 3 ++ Pl.octB [[255], []].flatten) = [191, 224] := by decide +kernel
  rw [e1] at hf
  obtain rfl : n = 2 := RdB.length hf.rd
  obtain ⟨b, o, rfl, _, hc0⟩ := RdB.at_ (l := [191, 224]) hf.rd (k := 0) (by decide)
  obtain ⟨b', o', he, _, hc1⟩ := RdB.at_ (l := [191, 224]) hf.rd (k := 1) (by decide)
  cases he
  have v0 : ((([191, 224] : List UInt8)[0]'(by decide)).toNat : Int) = 191 := by decide
  have v1 : ((([191, 224] : List UInt8)[1]'(by decide)).toNat : Int) = 224 := by decide
  rw [v0] at hc0
  rw [v1] at hc1
  simp only [Nat.add_zero] at hc0
  have kL := hide (wlen_any w.heap.size w.heap.size g2 _ w3 W3.out)
  have e2 : (Pl.bitsOf 5 3 ++ Pl.octB [[255], []].flatten).length = 11 := by decide +kernel
  rw [e2] at kL
  clear hf e1 v0 v1 hb5 e2
  go_wp2_with (fail)
  refine kL.out.mono ?_
  rintro e w4 ⟨rfl, rfl⟩
  go_wp2
  go_ret
  exact ⟨rfl, B3.out⟩
end Go.Proofs.Ytikfogepdmpfaaa
