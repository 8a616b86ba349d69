import Derived.Test.YtikfogepdmpfaaaCuts
namespace Go.Proofs.Ytikfogepdmpfaaa
open Go.RowKit

theorem cuts70000 : Pl.cuts 70000 = [65536, 4464] := by
  rw [Pl.cuts_big 70000 (by decide)]
  have : Pl.cutK 70000 = 65536 := by decide
  rw [this, Pl.cuts_small _ (by decide)]

theorem awake18_any (w : World) : Calls Try.prog 52 #[] w fun e w' => e = .returned (.bool true) ∧ Below w.heap.size w w' := by
  go_enter Try.func52, Try.ntmps52
  go_wp2_with (fail)
  refine (cuts_any 70000 (by omega) _).mono ?_
  rintro e w' ⟨A, c, rfl, hf⟩
  have e : Pl.cuts (70000 : Int).toNat = [65536, 4464] := cuts70000
  rw [e] at hf ⊢
  have hr := hf.rd
  have hb := hf.below
  obtain ⟨b, o, rfl, _, hc0⟩ := RdI.at_ (l := [65536, 4464]) hr (k := 0) (by simp)
  obtain ⟨b', o', he, _, hc1⟩ := RdI.at_ (l := [65536, 4464]) hr (k := 1) (by simp)
  cases he
  simp only [List.getElem_cons_zero, List.getElem_cons_succ, Nat.add_zero] at hc0 hc1
  clear hf hr e
  simp only [List.length_cons, List.length_nil]
  go_wp2
  go_ret
  exact ⟨rfl, hb⟩

end Go.Proofs.Ytikfogepdmpfaaa
