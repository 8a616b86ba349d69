import Derived.Test.YtikfogepdmpfaaaWri
import Derived.Test.YtikfogepdmpfaaaProg
import Derived.Test.YtikfogepdmpfaaaOct
import Derived.KernelRfl
import Derived.BigRegion
import Derived.Outline
namespace Go.Proofs.Ytikfogepdmpfaaa
open Go.RowKit

/-- A writer whose octets are bs, before the bit is set and counted. -/
def Half (w : World) (base p : Nat) (g : Option Nat) (N : Nat) (bs : List UInt8) : Prop :=
  ∃ A n c, w.cell? ⟨p, 0, none⟩ = some (.slice A n c) ∧ w.cell? ⟨p, 1, none⟩ = some (.int .i64 (N : Int)) ∧ w.frozen? ⟨p, 0, none⟩ = false ∧ w.frozen? ⟨p, 1, none⟩ = false ∧
    w.ownsRow base 5 1 (.slice A n c) n (bv bs) ∧ (Value.slice A n c).ownBlock = g ∧ g ≠ some p

theorem Half.of_wr {w : World} {base p : Nat} {g : Option Nat} {l : List Bool} (h : Wr w base p g l) : Half w base p g l.length (Pl.pack l) := h
theorem Half.wr {w : World} {base p N : Nat} {g : Option Nat} {l : List Bool} {bs : List UInt8} (h : Half w base p g N bs) (hN : N = l.length) (hb : bs = Pl.pack l) : Wr w base p g l := by
  subst hN hb
  exact h
section
variable {w : World} {base p N gA : Nat} {g : Option Nat} {bs : List UInt8}
theorem cell_setCell_ne {w : World} {a b : Addr} (u : Value) (h : b.block ≠ a.block) : (w.setCell a u).cell? b = w.cell? b := World.cell?_of_block (Below.heap_setCell w a u _ h)
theorem frozen_setCell_ne {w : World} {a b : Addr} (u : Value) (h : b.block ≠ a.block) : (w.setCell a u).frozen? b = w.frozen? b := World.frozen?_of_block (Below.heap_setCell w a u _ h)
theorem Half.set (h : Half w base p (some gA) N bs) (k : Nat) (x : UInt8) : Half (w.setCell ⟨gA, k, none⟩ (.int .u8 (x.toNat : Int))) base p (some gA) N (bs.set k x) := by
  obtain ⟨A, n, c, h0, h1, f0, f1, ho, hg, hne⟩ := h
  have hp : p ≠ gA := fun e => hne (by rw [e])
  rcases A with _ | ⟨b, o, s⟩
  · cases hg
  · obtain ⟨rfl, rfl, rfl⟩ : b = gA ∧ o = 0 ∧ s = none := by
      rcases ho.2 with ⟨hv, _⟩ | ⟨g', cap, cur, hv, _⟩
      · cases hv
      · cases hv
        cases hg
        exact ⟨rfl, rfl, rfl⟩
    refine ⟨_, n, c, (cell_setCell_ne _ hp).trans h0, (cell_setCell_ne _ hp).trans h1, (frozen_setCell_ne _ hp).trans f0, (frozen_setCell_ne _ hp).trans f1, ?_, hg, hne⟩
    have := (ho.stored k (.int .u8 (x.toNat : Int))).1
    unfold bv at this ⊢
    rwa [List.map_set]
theorem Half.count (h : Half w base p g N bs) (M : Nat) : Half (w.setCell ⟨p, 1, none⟩ (.int .i64 (M : Int))) base p g M bs := by
  obtain ⟨A, n, c, h0, h1, f0, f1, ho, hg, hne⟩ := h
  refine ⟨A, n, c, ?_, ?_, ?_, ?_, ownsRow_setCell_other ho (by rw [hg]; exact hne) _, hg, hne⟩
  · rw [World.cell?_setCell_other _ _ _ _ (by simp)]
    exact h0
  · exact World.cell?_setCell_same _ _ _ h1
  · rw [World.frozen?_setCell]
    exact f0
  · rw [World.frozen?_setCell]
    exact f1
end

/-- Behind an append, and the store of the new slice. -/
theorem Half.app {w w0 w1 : World} {base p N : Nat} {g : Option Nat} {bs bs2 : List UInt8} (h : Half w base p g N bs) (hw : Upd p none w w0) {A' : Option Addr} {m c' : Nat} (ho : w1.ownsRow base 5 1 (.slice A' m c') m (bv bs2)) (hg : w0.grownBy w1 g) (hp0 : w0.heap[p]? = w.heap[p]?)
    (hl : (Value.slice A' m c').ownBlock = g ∨ (Value.slice A' m c').ownBlock = some w0.heap.size) :
    Half (w1.setCell ⟨p, 0, none⟩ (.slice A' m c')) base p (Value.slice A' m c').ownBlock N bs2 ∧ Upd p g w (w1.setCell ⟨p, 0, none⟩ (.slice A' m c')) ∧ Mv w g (Value.slice A' m c').ownBlock ∧
      w1.cell? ⟨p, 1, none⟩ = some (.int .i64 (N : Int)) ∧ (∃ u, w1.cell? ⟨p, 0, none⟩ = some u) ∧ w1.frozen? ⟨p, 0, none⟩ = false ∧ w1.frozen? ⟨p, 1, none⟩ = false := by
  obtain ⟨A, n, c, h0, h1, f0, f1, _, hgg, hne⟩ := h
  have hps : p < w.heap.size := lt_cell h0
  have hsz := hw.size
  have hp1 : w1.heap[p]? = w.heap[p]? := (hg.block p (by omega) (fun e => hne e.symm)).trans hp0
  have hne2 : (Value.slice A' m c').ownBlock ≠ some p := by
    rcases hl with e | e
    · rw [e]; exact hne
    · rw [e]
      intro e2
      cases e2
      omega
  have c0 := (World.cell?_of_block (a := ⟨p, 0, none⟩) hp1).trans h0
  have c1 := (World.cell?_of_block (a := ⟨p, 1, none⟩) hp1).trans h1
  have d0 := (World.frozen?_of_block (a := ⟨p, 0, none⟩) hp1).trans f0
  have d1 := (World.frozen?_of_block (a := ⟨p, 1, none⟩) hp1).trans f1
  refine ⟨⟨A', m, c', World.cell?_setCell_same _ _ _ c0, ?_, ?_, ?_, ownsRow_setCell_other ho hne2 _, rfl, hne2⟩, ?_, ?_, c1, ⟨_, c0⟩, d0, d1⟩
  · rw [World.cell?_setCell_other _ _ _ _ (by simp)]
    exact c1
  · rw [World.frozen?_setCell]; exact d0
  · rw [World.frozen?_setCell]; exact d1
  · have hu : Upd p g w w1 := ⟨hg.os.trans hw.os, hg.tape.trans hw.tape, hg.output.trans hw.output, Nat.le_trans hw.size hg.size, fun k hk h1 h2 => (hg.block k (by omega) h2).trans (hw.block k hk h1 (by simp))⟩
    exact hu.setCell rfl _
  · rcases hl with e | e
    · exact .inl e
    · exact .inr ⟨_, e, hsz⟩

theorem Upd.setRow {p : Nat} {g : Option Nat} {w w' : World} (h : Upd p g w w') {a : Addr} (ha : g = some a.block) (u : Value) : Upd p g w (w'.setCell a u) :=
  ⟨h.os, h.tape, h.output, by simpa [World.setCell] using h.size, fun k hk h1 h2 => (Below.heap_setCell _ _ _ _ (by intro e; exact h2 (by rw [ha, e]))).trans (h.block k hk h1 h2)⟩

theorem Upd.cellp {p : Nat} {g : Option Nat} {w w' : World} (h : Upd p g w w') (o : Nat) (u : Value) : Upd p g w (w'.setCell ⟨p, o, none⟩ u) := h.setCell rfl u
theorem Upd.cellg {p k : Nat} {w w' : World} (h : Upd p (some k) w w') (o : Nat) (u : Value) : Upd p (some k) w (w'.setCell ⟨k, o, none⟩ u) := h.setRow rfl u

def HalfPost (w : World) (base p : Nat) (g : Option Nat) (N : Nat) (bs : List UInt8) (e : Ending) (w' : World) : Prop :=
  e = .returned (.tuple #[]) ∧ ∃ g', Half w' base p g' N bs ∧ Upd p g w w' ∧ Mv w g g'
def BitPost (w : World) (base p : Nat) (g : Option Nat) (l : List Bool) (e : Ending) (w' : World) : Prop :=
  e = .returned (.tuple #[]) ∧ ∃ g', Wr w' base p g' l ∧ Upd p g w w' ∧ Mv w g g'
end Go.Proofs.Ytikfogepdmpfaaa
