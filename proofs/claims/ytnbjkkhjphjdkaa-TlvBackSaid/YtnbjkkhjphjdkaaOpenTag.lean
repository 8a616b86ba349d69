/-
  A tag that came in, opened to its two cells.
-/
import Derived.Test.YtnbjkkhjphjdkaaOpen
namespace Go.Proofs.Ytnbjkkhjphjdkaa
open Go.ChangeShapes Go.WideShapes Go.ChangeAt Go.RowKit

theorem cells_tag : (Try.prog).cellsOf 23 = 2 := by kernel_rfl
theorem list2 {α : Type} : ∀ {l : List α}, l.length = 2 → ∃ a b, l = [a, b]
  | [a, b], _ => ⟨a, b, rfl⟩

section
variable {H : Type} {enc : TypeId × Value → H} {W : World} {base b0 : Nat} {spare : Nat → Bool} {held : Bool} {r : Reach}
theorem open_tag {v : Value} {d : DataW H} {p : List MemPlace} (hv : Value.okWide Try.prog W r b0 23 v) (h : DataW.Trod enc Try.prog W base spare held 23 v d p) :
    ∃ (cl no : Int), v = .agg #[.int .i64 cl, .int .i64 no] ∧ (-9223372036854775808 ≤ cl ∧ cl ≤ 9223372036854775807) ∧ (-9223372036854775808 ≤ no ∧ no ≤ 9223372036854775807) := by
  obtain ⟨⟨l⟩, rfl, hsz⟩ := okWide_struct Try.underlying23 hv
  obtain ⟨c0, c1, rfl⟩ := list2 (hsz.trans cells_tag)
  obtain ⟨fuel, hf⟩ := h
  obtain ⟨xs, n, _, _, _, hlen, hg⟩ := DataW.trod_struct Try.underlying23 hf
  have hlen2 : xs.length = 2 := hlen
  have at_ : ∀ i, i < 2 → ∃ y, xs[i]? = some y := fun i hi => ⟨_, List.getElem?_eq_getElem (by omega)⟩
  obtain ⟨y0, e0⟩ := at_ 0 (by omega)
  obtain ⟨y1, e1⟩ := at_ 1 (by omega)
  have h0 := (hg 0 _ rfl).trans e0
  have h1 := (hg 1 _ rfl).trans e1
  simp only [Value.cells] at h0 h1
  obtain ⟨lo, hlo, _, w4⟩ := DataW.trod_int Try.underlying3 h0
  obtain ⟨hi, hhi, _, w5⟩ := DataW.trod_int Try.underlying3 h1
  cases hlo; cases hhi
  exact ⟨lo, hi, rfl, bd_i64 w4, bd_i64 w5⟩
end
end Go.Proofs.Ytnbjkkhjphjdkaa
