/-
  A constraint that came in, opened to its six cells.
-/
import Derived.Test.YthflgoigbgnkoaaOpen
import Derived.Test.YthflgoigbgnkoaaBounds2
namespace Go.Proofs.Ythflgoigbgnkoaa
open Go.ChangeShapes Go.WideShapes Go.ChangeAt Go.RowKit

theorem cells_con : (Try.prog).cellsOf 42 = 6 := by kernel_rfl

theorem list6 {α : Type} : ∀ {l : List α}, l.length = 6 → ∃ a b c d e f, l = [a, b, c, d, e, f]
  | [a, b, c, d, e, f], _ => ⟨a, b, c, d, e, f, rfl⟩

section
variable {H : Type} {enc : TypeId × Value → H} {W : World} {base b0 : Nat} {spare : Nat → Bool} {held : Bool} {r : Reach}

theorem open_con {v : Value} {d : DataW H} {p : List MemPlace} (hv : Value.okWide Try.prog W r b0 42 v) (h : DataW.Trod enc Try.prog W base spare held 42 v d p) :
    ∃ (x0 x1 x2 x3 : Bool) (lo hi : Int), v = .agg #[.bool x0, .bool x1, .bool x2, .bool x3, .int .i64 lo, .int .i64 hi] ∧ InI lo ∧ InI hi := by
  obtain ⟨⟨l⟩, rfl, hsz⟩ := okWide_struct Try.underlying42 hv
  obtain ⟨c0, c1, c2, c3, c4, c5, rfl⟩ := list6 (hsz.trans cells_con)
  obtain ⟨fuel, hf⟩ := h
  obtain ⟨xs, n, _, _, _, hlen, hg⟩ := DataW.trod_struct Try.underlying42 hf
  have hlen6 : xs.length = 6 := hlen
  have at_ : ∀ i, i < 6 → ∃ y, xs[i]? = some y := fun i hi => ⟨_, List.getElem?_eq_getElem (by omega)⟩
  obtain ⟨y0, e0⟩ := at_ 0 (by omega)
  obtain ⟨y1, e1⟩ := at_ 1 (by omega)
  obtain ⟨y2, e2⟩ := at_ 2 (by omega)
  obtain ⟨y3, e3⟩ := at_ 3 (by omega)
  obtain ⟨y4, e4⟩ := at_ 4 (by omega)
  obtain ⟨y5, e5⟩ := at_ 5 (by omega)
  have h0 := (hg 0 _ rfl).trans e0
  have h1 := (hg 1 _ rfl).trans e1
  have h2 := (hg 2 _ rfl).trans e2
  have h3 := (hg 3 _ rfl).trans e3
  have h4 := (hg 4 _ rfl).trans e4
  have h5 := (hg 5 _ rfl).trans e5
  simp only [Value.cells] at h0 h1 h2 h3 h4 h5
  obtain ⟨b0, hb0, _⟩ := DataW.trod_bool Try.underlying4 h0
  obtain ⟨b1, hb1, _⟩ := DataW.trod_bool Try.underlying4 h1
  obtain ⟨b2, hb2, _⟩ := DataW.trod_bool Try.underlying4 h2
  obtain ⟨b3, hb3, _⟩ := DataW.trod_bool Try.underlying4 h3
  obtain ⟨lo, hlo, _, w4⟩ := DataW.trod_int Try.underlying2 h4
  obtain ⟨hi, hhi, _, w5⟩ := DataW.trod_int Try.underlying2 h5
  cases hb0; cases hb1; cases hb2; cases hb3; cases hlo; cases hhi
  exact ⟨b0, b1, b2, b3, lo, hi, rfl, bd_i64 w4, bd_i64 w5⟩
end
end Go.Proofs.Ythflgoigbgnkoaa
