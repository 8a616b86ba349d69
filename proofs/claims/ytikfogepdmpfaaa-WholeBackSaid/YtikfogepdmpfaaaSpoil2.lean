import Derived.Test.YtikfogepdmpfaaaSpoil
import Derived.Test.YtikfogepdmpfaaaWri
namespace Go.Proofs.Ytikfogepdmpfaaa
open Go.RowKit

theorem grown_trans {w w' w'' : World} {r : Option Nat} (h : w.grownBy w' r) (k : w'.grownBy w'' r) : w.grownBy w'' r :=
  ⟨k.os.trans h.os, k.tape.trans h.tape, k.output.trans h.output, Nat.le_trans h.size k.size, fun i hi hr => (k.block i (Nat.lt_of_lt_of_le hi h.size) hr).trans (h.block i hi hr)⟩
theorem grown_below {B : Nat} {w0 w w' : World} {r : Option Nat} (h : Below B w0 w) (k : w.grownBy w' r) (hr : ∀ j, r = some j → B ≤ j) (hB : B ≤ w.heap.size) : Below B w0 w' := h.grown k hB hr
theorem Wr.grown {w w' : World} {base p : Nat} {g r : Option Nat} {l : List Bool} (h : Wr w base p g l) (k : w.grownBy w' r) (h1 : some p ≠ r) (h2 : g = none ∨ g ≠ r) : Wr w' base p g l :=
  h.keep (k.block p h.lt h1) fun j hj => k.block j (h.glt j hj).2 (by
    rcases h2 with h2 | h2
    · rw [hj] at h2; cases h2
    · rw [← hj]; exact h2)
theorem Wf.grown {w w' : World} {base p : Nat} {g r : Option Nat} {l : List Bool} (h : Wf w base p g l) (k : w.grownBy w' r) (h1 : some p ≠ r) (h2 : g = none ∨ g ≠ r) : Wf w' base p g l :=
  h.keep (k.block p h.lt h1) fun j hj => k.block j (h.glt j hj).2 (by
    rcases h2 with h2 | h2
    · rw [hj] at h2; cases h2
    · rw [← hj]; exact h2)

def SpRel2 (n : Nat) (l : List UInt8) (base g c : Nat) (w0 : World) (i : Value) (wr : World) : Prop :=
  ∃ (k : Nat) (xs : List Value), k ≤ n ∧ i = .int .i64 (k : Int) ∧ wr.ownsRow base 5 1 (.slice (some ⟨g, 0, none⟩) n c) n xs ∧ Hid (w0.grownBy wr (some g)) ∧ Hid (∀ j, k ≤ j → xs[j]? = (bv l)[j]?)

theorem spoil2_any (A : Option Addr) (n c base : Nat) (l : List UInt8) (w : World) (h : w.ownsRow base 5 1 (.slice A n c) n (bv l)) :
    Calls Try.prog 24 #[.slice A n c] w fun e w' => e = .returned (.tuple #[]) ∧ w.grownBy w' (Value.slice A n c).ownBlock := by
  have hm := (Rd.of_own h).lenmax
  have hl := RdB.length (Rd.of_own h)
  by_cases hn : n = 0
  · subst hn
    clear h hl
    go_enter Try.func24, Try.ntmps24
    go_wp2
    go_loopw [2] (fun i wr => i = .int .i64 0 ∧ wr = w) (fun _ _ => 0)
    case atStart => exact ⟨rfl, rfl⟩
    case round =>
      obtain ⟨rfl, rfl⟩ := hrel
      go_wp2
      refine bodyPost_end (results_none rfl _ _ _) rfl ?_
      exact ⟨rfl, World.grownBy.refl _ _⟩
  · obtain ⟨g, rfl⟩ : ∃ g, A = some ⟨g, 0, none⟩ := by
      rcases h.2 with ⟨_, h0⟩ | ⟨g, cap, cur, hv, hB, _⟩
      · exact absurd h0 hn
      · cases hv
        exact ⟨g, rfl⟩
    have HO := hide h
    have HL := hide hl
    clear h hl hn
    go_enter Try.func24, Try.ntmps24
    go_wp2
    go_loopw [2] (SpRel2 n l base g c w) (fun i _ => n - (intOf i).toNat)
    case atStart => exact ⟨0, _, Nat.zero_le _, rfl, HO.out, World.grownBy.refl _ _, fun j _ => rfl⟩
    case round =>
      obtain ⟨k, xs, hk, rfl, hown, hbr, hxs⟩ := hrel
      by_cases hlt : k < n
      · have hu : xs[k]? = some (.int .u8 (l[k]'(by have := HL.out; omega)).toNat) := by
          rw [hxs.out k (Nat.le_refl _), bv_at l k (by have := HL.out; omega)]
        have hcell := (hown.cellAt k (by omega)).trans hu
        have hfr := hown.frozenAt k
        have hst := hide (fun u => hown.stored k u)
        clear hown hu
        go_wp2
        go_roundw
        case measure => simp [intOf]; omega
        case rel =>
          refine ⟨k + 1, _, by omega, by go_num, (hst.out _).1, grown_trans hbr.out (hst.out _).2, fun j hj => ?_⟩
          rw [List.getElem?_set_ne (by omega)]
          exact hxs.out j (by omega)
      · clear hown
        go_wp2
        refine bodyPost_end (results_none rfl _ _ _) rfl ?_
        exact ⟨rfl, hbr.out⟩
end Go.Proofs.Ytikfogepdmpfaaa
