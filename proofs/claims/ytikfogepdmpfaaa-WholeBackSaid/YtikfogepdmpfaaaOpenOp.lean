import Derived.Test.YtikfogepdmpfaaaParts
import Derived.Deep.Slices
import Derived.Deep.Fields
import Derived.ChangeSame
namespace Go.Proofs.Ytikfogepdmpfaaa
open Go.ChangeShapes Go.WideShapes Go.ChangeAt Go.RowKit Go.Deep

section
variable {H : Type} {enc : TypeId × Value → H} {P : Program} {w : World} {base : Nat} {spare : Nat → Bool} {held : Bool}
theorem open_slice_fields {t e : TypeId} {fs : Array Field} {fuel : Nat} {cs : List Value} {x : DataW H × List MemPlace} (ht : P.underlying t = some (.slice e)) (he : P.underlying e = some (.struct fs))
    (hone : oneCellFields P fs = true) (hC : P.cellsOf e = fs.size) (h : DataW.trod enc P w base spare held fuel t cs = some x) :
    (cs = [.slice none 0 0] ∧ x = (.nil, [])) ∨
    ∃ (a : Addr) (len cap m : Nat) (D : Nat → DataW H) (Pl : Nat → List MemPlace), cs = [.slice (some a) len cap] ∧ base ≤ a.block ∧ len ≤ cap ∧ cap ≤ maxLen ∧ m = (if spare a.block then cap else len) ∧
      x = (.slice ((List.range len).map D) ((List.range (m - len)).map fun j => D (len + j)), MemPlace.row a (m * fs.size) ++ (List.range m).flatMap Pl) ∧
      ∀ i, i < m → ∃ (ys : List (DataW H × List MemPlace)) (n : Nat), D i = .agg (ys.map (·.1)) ∧ Pl i = ys.flatMap (·.2) ∧ ys.length = fs.size ∧
        ∀ (j : Nat) (f : Field), fs[j]? = some f → ∃ (v : Value) (y : DataW H × List MemPlace), w.cell? (a.add (i * fs.size + j)) = some v ∧ ys[j]? = some y ∧ DataW.trod enc P w base spare held n f.type [v] = some y := by
  rcases open_slice ht h with h0 | ⟨a, len, cap, m, n, D, Pl, hcs, hb, hl, hm, hmm, hx, hi⟩
  · exact .inl h0
  · refine .inr ⟨a, len, cap, m, D, Pl, hcs, hb, hl, hm, hmm, by rw [hC] at hx; exact hx, fun i him => ?_⟩
    obtain ⟨cs', hc, ht'⟩ := hi i him
    rw [hC] at hc
    obtain ⟨ys, n', hn', hy, hlen, hyl, hf⟩ := DataW.trod_struct he ht'
    obtain ⟨_, hcl, hat⟩ := World.cells?_some hc
    simp only [Prod.mk.injEq] at hy
    refine ⟨ys, n', hy.1, hy.2, hyl, fun j f hj => ?_⟩
    obtain ⟨ho, hk⟩ := hone_of hone j f hj
    have hjl : j < fs.size := (Array.getElem?_eq_some_iff.1 hj).1
    have hcell := hat j hjl
    have hv : cs'[j]? = some (cs'[j]'(by omega)) := List.getElem?_eq_getElem (by omega)
    have h1 := hf j f hj
    rw [ho, hk] at h1
    have hone' : (cs'.drop j).take 1 = [cs'[j]'(by omega)] := by
      rw [List.drop_eq_getElem_cons (by omega)]
      rfl
    rw [hone'] at h1
    have hys : ys[j]? = some (ys[j]'(by omega)) := List.getElem?_eq_getElem (by omega)
    refine ⟨_, _, ?_, hys, h1.trans hys⟩
    rw [← Go.Deep.add_add, hcell, hv]
end

/-- One call of a script (layer 1). -/
structure Op1 where
  kind : Int
  n : Int
  v : Int
  b : List UInt8
instance : Inhabited Op1 := ⟨⟨0, 0, 0, []⟩⟩

/-- The i-th call lies in memory. -/
def AtO1 (w : World) (A : Option Addr) (i : Nat) (op : Op1) : Prop :=
  ∃ b o A' n' c', A = some ⟨b, o, none⟩ ∧ w.cell? ⟨b, o + i * 4, none⟩ = some (.int .i64 op.kind) ∧ w.cell? ⟨b, o + i * 4 + 1, none⟩ = some (.int .i64 op.n) ∧ w.cell? ⟨b, o + i * 4 + 2, none⟩ = some (.int .u32 op.v) ∧
    w.cell? ⟨b, o + i * 4 + 3, none⟩ = some (.slice A' n' c') ∧ Rd w A' n' c' (bv op.b) ∧ (-9223372036854775808 ≤ op.kind ∧ op.kind ≤ 9223372036854775807) ∧ (-9223372036854775808 ≤ op.n ∧ op.n ≤ 9223372036854775807) ∧ (0 ≤ op.v ∧ op.v < 4294967296)

/-- A script (layer 1). -/
def RdO1 (w : World) (A : Option Addr) (n c : Nat) (ops : List Op1) : Prop :=
  n = ops.length ∧ n ≤ c ∧ c ≤ maxLen ∧ ∀ (i : Nat) (op : Op1), ops[i]? = some op → AtO1 w A i op

theorem AtO1.keep {w w' : World} {A : Option Addr} {i : Nat} {op : Op1} (h : AtO1 w A i op) (hk : ∀ p : Addr, p.block < w.heap.size → w'.cell? p = w.cell? p) : AtO1 w' A i op := by
  obtain ⟨b, o, A', n', c', e, h0, h1, h2, h3, hr, hw⟩ := h
  exact ⟨b, o, A', n', c', e, (hk _ (World.block_lt_of_cell? w _ h0)).trans h0, (hk _ (World.block_lt_of_cell? w _ h1)).trans h1, (hk _ (World.block_lt_of_cell? w _ h2)).trans h2, (hk _ (World.block_lt_of_cell? w _ h3)).trans h3, hr.keep hk, hw⟩
theorem RdO1.below {w w' : World} {A : Option Addr} {n c : Nat} {ops : List Op1} (h : RdO1 w A n c ops) {B : Nat} (hb : Below B w w') (hB : w.heap.size ≤ B) : RdO1 w' A n c ops :=
  ⟨h.1, h.2.1, h.2.2.1, fun i op hi => (h.2.2.2 i op hi).keep fun p hp => hb.cell (by omega)⟩

section
variable {H : Type} {enc : TypeId × Value → H} {P : Program} {W : World} {base : Nat} {spare : Nat → Bool} {held : Bool}
theorem open_ops1 {t e bt bet it ut : TypeId} {f0 f1 f2 f3 : Field} {fuel : Nat} {a : Option Addr} {len cap : Nat} {x : DataW H × List MemPlace} (ht : P.underlying t = some (.slice e)) (he : P.underlying e = some (.struct #[f0, f1, f2, f3]))
    (hone : oneCellFields P #[f0, f1, f2, f3] = true) (hC : P.cellsOf e = 4) (t0 : f0.type = it) (t1 : f1.type = it) (t2 : f2.type = ut) (t3 : f3.type = bt)
    (hit : P.underlying it = some (.int .i64)) (hut : P.underlying ut = some (.int .u32)) (hbt : P.underlying bt = some (.slice bet)) (hbe : P.underlying bet = some (.int .u8)) (hcb : P.cellsOf bet = 1)
    (hf : DataW.trod enc P W base spare held fuel t [.slice a len cap] = some x) : ∃ ops, RdO1 W a len cap ops := by
  rcases (open_slice_fields (fs := #[f0, f1, f2, f3]) ht he hone hC hf) with ⟨hcs, _⟩ | ⟨x, l, c, m, D, Pl, hcs, _, hl, hm, hmm, _, hx⟩
  · simp at hcs
    obtain ⟨rfl, rfl, rfl⟩ := hcs
    exact ⟨[], rfl, Nat.le_refl _, by unfold maxLen; omega, fun i op h => by simp at h⟩
  · simp at hcs
    obtain ⟨rfl, rfl, rfl⟩ := hcs
    have hlen : len ≤ m := by
      rw [hmm]
      split <;> omega
    obtain ⟨L, hL⟩ := choose_lt (α := Op1) (n := len) (p := fun i op => AtO1 W (some x) i op) (fun i hi => by
      obtain ⟨ys, n, _, _, _, hfs⟩ := hx i (by omega)
      obtain ⟨v0, y0, c0, _, d0⟩ := hfs 0 f0 rfl
      obtain ⟨v1, y1, c1, _, d1⟩ := hfs 1 f1 rfl
      obtain ⟨v2, y2, c2, _, d2⟩ := hfs 2 f2 rfl
      obtain ⟨v3, y3, c3, _, d3⟩ := hfs 3 f3 rfl
      rw [t0] at d0
      rw [t1] at d1
      rw [t2] at d2
      rw [t3] at d3
      obtain ⟨k0, hk0, _, w0⟩ := DataW.trod_int hit d0
      obtain ⟨k1, hk1, _, w1⟩ := DataW.trod_int hit d1
      obtain ⟨k2, hk2, _, w2⟩ := DataW.trod_int hut d2
      cases hk0; cases hk1; cases hk2
      obtain ⟨A', n', c', l, rfl, hr⟩ := open_bytes1 hbt hbe hcb d3
      obtain ⟨b, o, s⟩ := x
      have hs : s = none := by
        obtain ⟨ys', n', _, _, _, hfs'⟩ := hx 0 (by omega)
        obtain ⟨v0', y0', c0', _⟩ := hfs' 0 f0 rfl
        simpa [Addr.add] using World.cell?_spot c0'
      subst hs
      rw [Addr.add_lit] at c0 c1 c2 c3
      exact ⟨⟨k0, k1, k2, l⟩, b, o, A', n', c', rfl, c0, c1, c2, c3, hr, bd_i64 w0, bd_i64 w1, bd_u32 w2⟩)
    refine ⟨(List.range len).map L, by simp, hl, hm, fun i op hi => ?_⟩
    have hi' : i < len := by
      have := (List.getElem?_eq_some_iff.1 hi).1
      simpa using this
    simp [hi'] at hi
    subst hi
    exact hL i hi'
end
end Go.Proofs.Ytikfogepdmpfaaa
