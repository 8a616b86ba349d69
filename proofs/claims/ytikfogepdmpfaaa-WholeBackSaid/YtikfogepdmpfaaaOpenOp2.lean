import Derived.Test.YtikfogepdmpfaaaOpenOp
namespace Go.Proofs.Ytikfogepdmpfaaa
open Go.ChangeShapes Go.WideShapes Go.ChangeAt Go.RowKit Go.Deep

/-- One call of a script (layer 17). -/
structure Op2 where
  kind : Int
  n : Int
  v : Int
  s : Int
  b : List UInt8
instance : Inhabited Op2 := ⟨⟨0, 0, 0, 0, []⟩⟩

/-- The i-th call lies in memory. -/
def AtO2 (w : World) (A : Option Addr) (i : Nat) (op : Op2) : Prop :=
  ∃ b o A' n' c', A = some ⟨b, o, none⟩ ∧ w.cell? ⟨b, o + i * 5, none⟩ = some (.int .i64 op.kind) ∧ w.cell? ⟨b, o + i * 5 + 1, none⟩ = some (.int .i64 op.n) ∧ w.cell? ⟨b, o + i * 5 + 2, none⟩ = some (.int .u64 op.v) ∧ w.cell? ⟨b, o + i * 5 + 3, none⟩ = some (.int .u64 op.s) ∧
    w.cell? ⟨b, o + i * 5 + 4, none⟩ = some (.slice A' n' c') ∧ Rd w A' n' c' (bv op.b) ∧ (-9223372036854775808 ≤ op.kind ∧ op.kind ≤ 9223372036854775807) ∧ (-9223372036854775808 ≤ op.n ∧ op.n ≤ 9223372036854775807) ∧ (0 ≤ op.v ∧ op.v < 18446744073709551616) ∧ (0 ≤ op.s ∧ op.s < 18446744073709551616)

/-- A script (layer 17). -/
def RdO2 (w : World) (A : Option Addr) (n c : Nat) (ops : List Op2) : Prop :=
  n = ops.length ∧ n ≤ c ∧ c ≤ maxLen ∧ ∀ (i : Nat) (op : Op2), ops[i]? = some op → AtO2 w A i op

theorem AtO2.keep {w w' : World} {A : Option Addr} {i : Nat} {op : Op2} (h : AtO2 w A i op) (hk : ∀ p : Addr, p.block < w.heap.size → w'.cell? p = w.cell? p) : AtO2 w' A i op := by
  obtain ⟨b, o, A', n', c', e, h0, h1, h2, h3, h4, hr, hw⟩ := h
  exact ⟨b, o, A', n', c', e, (hk _ (World.block_lt_of_cell? w _ h0)).trans h0, (hk _ (World.block_lt_of_cell? w _ h1)).trans h1, (hk _ (World.block_lt_of_cell? w _ h2)).trans h2, (hk _ (World.block_lt_of_cell? w _ h3)).trans h3, (hk _ (World.block_lt_of_cell? w _ h4)).trans h4, hr.keep hk, hw⟩
theorem RdO2.below {w w' : World} {A : Option Addr} {n c : Nat} {ops : List Op2} (h : RdO2 w A n c ops) {B : Nat} (hb : Below B w w') (hB : w.heap.size ≤ B) : RdO2 w' A n c ops :=
  ⟨h.1, h.2.1, h.2.2.1, fun i op hi => (h.2.2.2 i op hi).keep fun p hp => hb.cell (by omega)⟩

section
variable {H : Type} {enc : TypeId × Value → H} {P : Program} {W : World} {base : Nat} {spare : Nat → Bool} {held : Bool}
theorem open_ops2 {t e bt bet it ut : TypeId} {f0 f1 f2 f3 f4 : Field} {fuel : Nat} {a : Option Addr} {len cap : Nat} {x : DataW H × List MemPlace} (ht : P.underlying t = some (.slice e)) (he : P.underlying e = some (.struct #[f0, f1, f2, f3, f4]))
    (hone : oneCellFields P #[f0, f1, f2, f3, f4] = true) (hC : P.cellsOf e = 5) (t0 : f0.type = it) (t1 : f1.type = it) (t2 : f2.type = ut) (t3 : f3.type = ut) (t4 : f4.type = bt)
    (hit : P.underlying it = some (.int .i64)) (hut : P.underlying ut = some (.int .u64)) (hbt : P.underlying bt = some (.slice bet)) (hbe : P.underlying bet = some (.int .u8)) (hcb : P.cellsOf bet = 1)
    (hf : DataW.trod enc P W base spare held fuel t [.slice a len cap] = some x) : ∃ ops, RdO2 W a len cap ops := by
  rcases (open_slice_fields (fs := #[f0, f1, f2, f3, f4]) ht he hone hC hf) with ⟨hcs, _⟩ | ⟨x, l, c, m, D, Pl, hcs, _, hl, hm, hmm, _, hx⟩
  · simp at hcs
    obtain ⟨rfl, rfl, rfl⟩ := hcs
    exact ⟨[], rfl, Nat.le_refl _, by unfold maxLen; omega, fun i op h => by simp at h⟩
  · simp at hcs
    obtain ⟨rfl, rfl, rfl⟩ := hcs
    have hlen : len ≤ m := by
      rw [hmm]
      split <;> omega
    obtain ⟨L, hL⟩ := choose_lt (α := Op2) (n := len) (p := fun i op => AtO2 W (some x) i op) (fun i hi => by
      obtain ⟨ys, n, _, _, _, hfs⟩ := hx i (by omega)
      obtain ⟨v0, y0, c0, _, d0⟩ := hfs 0 f0 rfl
      obtain ⟨v1, y1, c1, _, d1⟩ := hfs 1 f1 rfl
      obtain ⟨v2, y2, c2, _, d2⟩ := hfs 2 f2 rfl
      obtain ⟨v3, y3, c3, _, d3⟩ := hfs 3 f3 rfl
      obtain ⟨v4, y4, c4, _, d4⟩ := hfs 4 f4 rfl
      rw [t0] at d0
      rw [t1] at d1
      rw [t2] at d2
      rw [t3] at d3
      rw [t4] at d4
      obtain ⟨k0, hk0, _, w0⟩ := DataW.trod_int hit d0
      obtain ⟨k1, hk1, _, w1⟩ := DataW.trod_int hit d1
      obtain ⟨k2, hk2, _, w2⟩ := DataW.trod_int hut d2
      obtain ⟨k3, hk3, _, w3⟩ := DataW.trod_int hut d3
      cases hk0; cases hk1; cases hk2; cases hk3
      obtain ⟨A', n', c', l, rfl, hr⟩ := open_bytes1 hbt hbe hcb d4
      obtain ⟨b, o, s⟩ := x
      have hs : s = none := by
        obtain ⟨ys', n', _, _, _, hfs'⟩ := hx 0 (by omega)
        obtain ⟨v0', y0', c0', _⟩ := hfs' 0 f0 rfl
        simpa [Addr.add] using World.cell?_spot c0'
      subst hs
      rw [Addr.add_lit] at c0 c1 c2 c3 c4
      exact ⟨⟨k0, k1, k2, k3, l⟩, b, o, A', n', c', rfl, c0, c1, c2, c3, c4, hr, bd_i64 w0, bd_i64 w1, bd_u64 w2, bd_u64 w3⟩)
    refine ⟨(List.range len).map L, by simp, hl, hm, fun i op hi => ?_⟩
    have hi' : i < len := by
      have := (List.getElem?_eq_some_iff.1 hi).1
      simpa using this
    simp [hi'] at hi
    subst hi
    exact hL i hi'
end
end Go.Proofs.Ytikfogepdmpfaaa
