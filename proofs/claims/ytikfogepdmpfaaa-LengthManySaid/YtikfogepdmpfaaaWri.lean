/-
  Words for memory that is written: worlds that part in two named blocks alone, and in new ones; a writer of bits, the program's and the reference's.
-/
import Derived.Test.YtikfogepdmpfaaaSameB
import Derived.Test.YtikfogepdmpfaaaRowW
import Derived.Test.YtikfogepdmpfaaaPlBits
namespace Go.Proofs.Ytikfogepdmpfaaa
open Go.RowKit

/-- w' is w but for the blocks p and g, and what is new. -/
structure Upd (p : Nat) (g : Option Nat) (w w' : World) : Prop where
  os : w'.os = w.os
  tape : w'.tape = w.tape
  output : w'.output = w.output
  size : w.heap.size ≤ w'.heap.size
  block : ∀ k, k < w.heap.size → k ≠ p → some k ≠ g → w'.heap[k]? = w.heap[k]?

/-- The row's block behind a step: the old one or a new one. -/
def Mv (w : World) (g g' : Option Nat) : Prop := g' = g ∨ ∃ k, g' = some k ∧ w.heap.size ≤ k

section
variable {p : Nat} {g g' g'' : Option Nat} {w w' w'' : World}
theorem Mv.refl (w : World) (g : Option Nat) : Mv w g g := .inl rfl
theorem Mv.trans (h : Mv w g g') (hs : w.heap.size ≤ w'.heap.size) (k : Mv w' g' g'') : Mv w g g'' := by
  rcases k with rfl | ⟨j, rfl, hj⟩
  · exact h
  · exact .inr ⟨j, rfl, by omega⟩
theorem Upd.refl (p : Nat) (g : Option Nat) (w : World) : Upd p g w w := ⟨rfl, rfl, rfl, Nat.le_refl _, fun _ _ _ _ => rfl⟩
theorem Upd.trans (h : Upd p g w w') (m : Mv w g g') (k : Upd p g' w' w'') : Upd p g w w'' :=
  ⟨k.os.trans h.os, k.tape.trans h.tape, k.output.trans h.output, Nat.le_trans h.size k.size, fun i hi h1 h2 => (k.block i (Nat.lt_of_lt_of_le hi h.size) h1 (by
    rcases m with rfl | ⟨j, rfl, hj⟩
    · exact h2
    · intro e
      cases e
      omega)).trans (h.block i hi h1 h2)⟩
theorem Upd.of_below (h : Below w.heap.size w w') : Upd p g w w' := ⟨h.os, h.tape, h.output, h.size, fun k hk _ _ => h.block k hk⟩
theorem Upd.below {B : Nat} (h : Upd p g w w') (hp : B ≤ p) (hg : ∀ k, g = some k → B ≤ k) (hB : B ≤ w.heap.size) : Below B w w' :=
  ⟨h.os, h.tape, h.output, h.size, fun k hk => h.block k (by omega) (by omega) (fun e => by have := hg k e.symm; omega)⟩
theorem Upd.setCell (h : Upd p g w w') {a : Addr} (ha : a.block = p) (u : Value) : Upd p g w (w'.setCell a u) :=
  ⟨h.os, h.tape, h.output, by simpa [World.setCell] using h.size, fun k hk h1 h2 => (Below.heap_setCell _ _ _ _ (by omega)).trans (h.block k hk h1 h2)⟩
theorem Upd.drewN (h : Upd p g w w') (q : Nat) : Upd p g w (w'.drewN q) := by
  induction q generalizing w' with
  | zero => exact h
  | succ q ih =>
    have := ih h
    exact ⟨this.os, this.tape, this.output, this.size, this.block⟩
theorem Upd.drew (h : Upd p g w w') : Upd p g w w'.drew := ⟨h.os, h.tape, h.output, h.size, h.block⟩
theorem Upd.alloc (h : Upd p g w w') (o : Obj) : Upd p g w (w'.alloc o) :=
  ⟨h.os, h.tape, h.output, Nat.le_trans h.size (by simp), fun k hk h1 h2 => (Below.heap_alloc _ _ _ (Nat.lt_of_lt_of_le hk h.size)).trans (h.block k hk h1 h2)⟩
theorem Upd.cell (h : Upd p g w w') {a : Addr} (h0 : a.block < w.heap.size) (h1 : a.block ≠ p) (h2 : some a.block ≠ g) : w'.cell? a = w.cell? a := World.cell?_of_block (h.block _ h0 h1 h2)
theorem Upd.frozen (h : Upd p g w w') {a : Addr} (h0 : a.block < w.heap.size) (h1 : a.block ≠ p) (h2 : some a.block ≠ g) : w'.frozen? a = w.frozen? a := World.frozen?_of_block (h.block _ h0 h1 h2)
end

theorem lt_cell {w : World} {a : Addr} {u : Value} (h : w.cell? a = some u) : a.block < w.heap.size := World.block_lt_of_cell? w a h

/-- A row of the call's own stays where its block stays. -/
theorem own_of_block {w w' : World} {base n size : Nat} {e : TypeId} {v : Value} {xs : List Value} (h : w.ownsRow base e size v n xs) (hb : ∀ k, v.ownBlock = some k → w'.heap[k]? = w.heap[k]?) : w'.ownsRow base e size v n xs := by
  refine ⟨h.1, ?_⟩
  rcases h.2 with h0 | ⟨g, cap, cur, hv, hB, hh, hr⟩
  · exact .inl h0
  · subst hv
    exact .inr ⟨g, cap, cur, rfl, hB, (hb g rfl).trans hh, hr⟩

/-- The program's writer at block p has the bits l; its octets lie in the block g. -/
def Wr (w : World) (base p : Nat) (g : Option Nat) (l : List Bool) : Prop :=
  ∃ A n c, w.cell? ⟨p, 0, none⟩ = some (.slice A n c) ∧ w.cell? ⟨p, 1, none⟩ = some (.int .i64 (l.length : Int)) ∧ w.frozen? ⟨p, 0, none⟩ = false ∧ w.frozen? ⟨p, 1, none⟩ = false ∧
    w.ownsRow base 5 1 (.slice A n c) n (bv (Pl.pack l)) ∧ (Value.slice A n c).ownBlock = g ∧ g ≠ some p

def b01 (l : List Bool) : List UInt8 := l.map fun b => if b then 1 else 0
theorem b01_length (l : List Bool) : (b01 l).length = l.length := by simp [b01]
theorem b01_append (a b : List Bool) : b01 (a ++ b) = b01 a ++ b01 b := by simp [b01]

/-- The reference's writer at block p has the bits l. -/
def Wf (w : World) (base p : Nat) (g : Option Nat) (l : List Bool) : Prop :=
  ∃ A n c, w.cell? ⟨p, 0, none⟩ = some (.slice A n c) ∧ w.frozen? ⟨p, 0, none⟩ = false ∧
    w.ownsRow base 5 1 (.slice A n c) n (bv (b01 l)) ∧ (Value.slice A n c).ownBlock = g ∧ g ≠ some p

section
variable {w w' : World} {base p : Nat} {g : Option Nat} {l : List Bool}
theorem Wr.lt (h : Wr w base p g l) : p < w.heap.size := by
  obtain ⟨A, n, c, h0, _⟩ := h
  exact lt_cell h0
theorem Wr.glt (h : Wr w base p g l) : ∀ k, g = some k → base ≤ k ∧ k < w.heap.size := by
  obtain ⟨A, n, c, _, _, _, _, ho, rfl, _⟩ := h
  exact ho.lt
theorem Wr.gp (h : Wr w base p g l) : g ≠ some p := by
  obtain ⟨A, n, c, _, _, _, _, _, _, hp⟩ := h
  exact hp
theorem Wr.keep (h : Wr w base p g l) (hp : w'.heap[p]? = w.heap[p]?) (hg : ∀ k, g = some k → w'.heap[k]? = w.heap[k]?) : Wr w' base p g l := by
  obtain ⟨A, n, c, h0, h1, f0, f1, ho, rfl, hne⟩ := h
  exact ⟨A, n, c, (World.cell?_of_block (a := ⟨p, 0, none⟩) hp).trans h0, (World.cell?_of_block (a := ⟨p, 1, none⟩) hp).trans h1, (World.frozen?_of_block (a := ⟨p, 0, none⟩) hp).trans f0, (World.frozen?_of_block (a := ⟨p, 1, none⟩) hp).trans f1, own_of_block ho hg, rfl, hne⟩
theorem Wr.upd {p2 : Nat} {g2 : Option Nat} (h : Wr w base p g l) (u : Upd p2 g2 w w') (h1 : p ≠ p2) (h2 : some p ≠ g2) (h3 : g ≠ some p2) (h4 : g = none ∨ g ≠ g2) : Wr w' base p g l :=
  h.keep (u.block p h.lt h1 h2) fun k hk => u.block k (h.glt k hk).2 (fun e => h3 (by rw [hk, e])) (by
    rcases h4 with h4 | h4
    · rw [hk] at h4; cases h4
    · rw [← hk]; exact h4)
theorem Wr.below (h : Wr w base p g l) (u : Below w.heap.size w w') : Wr w' base p g l :=
  h.keep (u.block p h.lt) fun k hk => u.block k (h.glt k hk).2
theorem Wr.alloc (h : Wr w base p g l) (o : Obj) : Wr (w.alloc o) base p g l := h.below ((Below.refl _ _).alloc (Nat.le_refl _) o)
theorem Wr.len (h : Wr w base p g l) : l.length ≤ 8 * 9223372036854775807 := by
  obtain ⟨A, n, c, _, _, _, _, ho, _⟩ := h
  have h1 := (Rd.of_own ho).lenmax
  have h2 := RdB.length (Rd.of_own ho)
  rw [Pl.pack_length] at h2
  omega

theorem Wf.lt (h : Wf w base p g l) : p < w.heap.size := by
  obtain ⟨A, n, c, h0, _⟩ := h
  exact lt_cell h0
theorem Wf.glt (h : Wf w base p g l) : ∀ k, g = some k → base ≤ k ∧ k < w.heap.size := by
  obtain ⟨A, n, c, _, _, ho, rfl, _⟩ := h
  exact ho.lt
theorem Wf.gp (h : Wf w base p g l) : g ≠ some p := by
  obtain ⟨A, n, c, _, _, _, _, hp⟩ := h
  exact hp
theorem Wf.keep (h : Wf w base p g l) (hp : w'.heap[p]? = w.heap[p]?) (hg : ∀ k, g = some k → w'.heap[k]? = w.heap[k]?) : Wf w' base p g l := by
  obtain ⟨A, n, c, h0, f0, ho, rfl, hne⟩ := h
  exact ⟨A, n, c, (World.cell?_of_block (a := ⟨p, 0, none⟩) hp).trans h0, (World.frozen?_of_block (a := ⟨p, 0, none⟩) hp).trans f0, own_of_block ho hg, rfl, hne⟩
theorem Wf.upd {p2 : Nat} {g2 : Option Nat} (h : Wf w base p g l) (u : Upd p2 g2 w w') (h1 : p ≠ p2) (h2 : some p ≠ g2) (h3 : g ≠ some p2) (h4 : g = none ∨ g ≠ g2) : Wf w' base p g l :=
  h.keep (u.block p h.lt h1 h2) fun k hk => u.block k (h.glt k hk).2 (fun e => h3 (by rw [hk, e])) (by
    rcases h4 with h4 | h4
    · rw [hk] at h4; cases h4
    · rw [← hk]; exact h4)
theorem Wf.below (h : Wf w base p g l) (u : Below w.heap.size w w') : Wf w' base p g l :=
  h.keep (u.block p h.lt) fun k hk => u.block k (h.glt k hk).2
theorem Wf.alloc (h : Wf w base p g l) (o : Obj) : Wf (w.alloc o) base p g l := h.below ((Below.refl _ _).alloc (Nat.le_refl _) o)
end

end Go.Proofs.Ytikfogepdmpfaaa
