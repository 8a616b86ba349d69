import Derived.Test.YtikfogepdmpfaaaOct5
import Derived.Test.YtikfogepdmpfaaaOct2
namespace Go.Proofs.Ytikfogepdmpfaaa
open Go.RowKit

/-- What is read of octets with a sign: the number, the fault. -/
def takeSV (l : List UInt8) : Int :=
  if l.length = 0 then 0 else if 8 < l.length then 0 else if Pl.be (Pl.slenF 7 (Pl.sval l)) (Pl.sval l) = l then Pl.sval l else 0
def takeSE (l : List UInt8) : Int :=
  if l.length = 0 then 3 else if 8 < l.length then 4 else if Pl.be (Pl.slenF 7 (Pl.sval l)) (Pl.sval l) = l then 0 else 4

theorem sext_all (l : List UInt8) (n : Nat) (hn : n = l.length) (h1 : 1 ≤ n) (h8 : n ≤ 8) : wrap64 (wrap64 (Pl.val l) * 2 ^ (64 - 8 * n)) / 2 ^ (64 - 8 * n) = Pl.sval l := by
  have hb := Pl.val_bd l
  have h2 := Pl.val_lt l
  have h3 := Pl.val_nonneg l
  unfold Pl.sval
  rw [← hn] at *
  generalize Pl.val l = v at *
  have hc : n = 1 ∨ n = 2 ∨ n = 3 ∨ n = 4 ∨ n = 5 ∨ n = 6 ∨ n = 7 ∨ n = 8 := by omega
  clear hn h1 h8
  rcases hc with rfl | rfl | rfl | rfl | rfl | rfl | rfl | rfl
  all_goals
    simp only [Nat.reduceMul, Nat.reduceSub, Int.reducePow] at *
    unfold wrap64
    cases hneg : Pl.neg l
    · have := hb.2 hneg
      simp only [Bool.false_eq_true, if_false]
      omega
    · have := hb.1 hneg
      simp only [if_true]
      omega
theorem sext8 (l : List UInt8) (hn : 8 = l.length) : wrap64 (Pl.val l) = Pl.sval l := by
  have h := sext_all l 8 hn (by omega) (by omega)
  simp at h
  have e : wrap64 (wrap64 (Pl.val l)) = wrap64 (Pl.val l) := by unfold wrap64; omega
  rw [e] at h
  exact h



end Go.Proofs.Ytikfogepdmpfaaa
