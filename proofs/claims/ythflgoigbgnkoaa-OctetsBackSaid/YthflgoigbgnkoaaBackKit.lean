import Derived.Test.YthflgoigbgnkoaaLawOrder2
import Derived.Test.YthflgoigbgnkoaaPlBack
import Derived.Test.YthflgoigbgnkoaaOct9
import Derived.Deep.RegionHeld3
namespace Go.Proofs.Ythflgoigbgnkoaa
open Go.RowKit

theorem keepRaw {w wa wb : World} {A : Option Addr} {n c : Nat} {xs : List Value} (h : Rd wa A n c xs ∧ Below w.heap.size w wa) (hb : Below wa.heap.size wa wb) : Rd wb A n c xs ∧ Below w.heap.size w wb :=
  ⟨h.1.below hb (Nat.le_refl _), below_next h.2 hb⟩

section
variable {P : Program} {md : Region.Mode} {ops : Array Oper} {Q : Exit → Act → World → Prop} {S : World → Prop}
/-- An operation that yields the same in every world is taken first; its slot is named. -/
theorem takeD {i : Nat} {oi : Oper} {v : Value} {fuel : Nat} {listed : Array Bool} {a : Act} {w : World} (d : Nat) (hi : ops[i]? = some oi) (hd : oi.dst = some d)
    (hs : Region.noSelect ops = true) (hf : Region.free md ops listed i = true) (hr : (Region.ready md ops listed).contains i = true)
    (hQ : ∀ c a w, Q (.panic c) (a.put oi.dst v) w → Q (.panic c) a w) (hy : YieldsIf P ops S oi v a) (hS : S w)
    (h : wpAnyH P md ops Q S fuel (listed.setIfInBounds i true) (a.put (some d) v) w) : wpAnyH P md ops Q S (fuel + 1) listed a w :=
  wpAnyH_take hi hs hf hr hQ hy hS (by rw [hd]; exact h)
end

end Go.Proofs.Ythflgoigbgnkoaa
