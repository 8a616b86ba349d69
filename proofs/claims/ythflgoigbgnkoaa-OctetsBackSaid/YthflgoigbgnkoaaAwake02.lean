import Derived.Test.YthflgoigbgnkoaaOct2
import Derived.Test.YthflgoigbgnkoaaOct3
namespace Go.Proofs.Ythflgoigbgnkoaa
open Go.RowKit

theorem awake02_any (w : World) : Calls Try.prog 18 #[] w fun e w' => e = .returned (.bool true) ∧ Below w.heap.size w w' := by
  go_enter Try.func18, Try.ntmps18
  go_wp2_with (fail)
  refine (groups_any 300 (by omega) (by omega) _).mono ?_
  rintro e w1 ⟨A, c, rfl, hf⟩
  have e1 : Pl.dlenF 128 9 300 = 2 := by decide
  rw [e1] at hf ⊢
  have hb := hf.below
  obtain ⟨b, o, rfl, _, hc0⟩ := RdB.at_ (l := Pl.gr 2 300) hf.rd (k := 0) (by decide)
  obtain ⟨b', o', he, _, hc1⟩ := RdB.at_ (l := Pl.gr 2 300) hf.rd (k := 1) (by decide)
  cases he
  have v0 : ((Pl.gr 2 300)[0]'(by decide)).toNat = 130 := by decide
  have v1 : ((Pl.gr 2 300)[1]'(by decide)).toNat = 44 := by decide
  rw [v0] at hc0
  rw [v1] at hc1
  simp only [Nat.add_zero] at hc0
  clear hf e1 v0 v1
  go_wp2_with (fail)
  refine (signed_any (-129) _).mono ?_
  rintro e w2 ⟨A2, c2, rfl, hf2⟩
  have e2 : Pl.slenF 7 (-129) = 2 := by decide
  rw [e2] at hf2 ⊢
  have hb2 := hf2.below
  clear hf2 e2
  go_wp2
  go_ret
  exact ⟨rfl, below_next hb hb2⟩

end Go.Proofs.Ythflgoigbgnkoaa
