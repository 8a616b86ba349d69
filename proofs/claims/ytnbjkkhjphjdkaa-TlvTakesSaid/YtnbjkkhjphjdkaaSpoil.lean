import Derived.Test.YtnbjkkhjphjdkaaRowW
import Derived.Test.YtnbjkkhjphjdkaaProg
import Derived.KernelRfl
namespace Go.Proofs.Ytnbjkkhjphjdkaa
open Go.RowKit

theorem own_below {w w' : World} {base n : Nat} {e : TypeId} {v : Value} {xs : List Value} (h : w.ownsRow base e 1 v n xs) (hb : Below w.heap.size w w') : w'.ownsRow base e 1 v n xs := by
  refine ⟨h.1, ?_⟩
  rcases h.2 with h0 | ⟨g, cap, cur, hv, hB, hh, hr⟩
  · exact .inl h0
  · refine .inr ⟨g, cap, cur, hv, hB, ?_, hr⟩
    rw [hb.block g ?_]
    · exact hh
    · exact (Array.getElem?_eq_some_iff.1 hh).1
theorem own_prefix {w : World} {base g n c : Nat} {e : TypeId} {ys : List Value} (h : w.ownsRow base e 1 (.slice (some ⟨g, 0, none⟩) c c) c ys) (hn : n ≤ c) : w.ownsRow base e 1 (.slice (some ⟨g, 0, none⟩) n c) n (ys.take n) := by
  refine ⟨by have := h.1; simp; omega, ?_⟩
  rcases h.2 with ⟨hv, _⟩ | ⟨g', cap, cur, hv, hB, hh, hnc, hcm, hsz, ht⟩
  · cases hv
  · cases hv
    refine .inr ⟨g, c, cur, rfl, hB, hh, hn, hcm, hsz, ?_⟩
    rw [← ht, List.take_take]
    congr 1
    omega

def SpRel (n : Nat) (l : List UInt8) (base g c : Nat) (w0 : World) (i : Value) (wr : World) : Prop :=
  ∃ (k : Nat) (xs : List Value), k ≤ n ∧ i = .int .i64 (k : Int) ∧ wr.ownsRow base 5 1 (.slice (some ⟨g, 0, none⟩) n c) n xs ∧ Below base w0 wr ∧ Hid (∀ j, k ≤ j → xs[j]? = (bv l)[j]?)

theorem spoil_any (A : Option Addr) (n c base : Nat) (l : List UInt8) (w : World) (h : w.ownsRow base 5 1 (.slice A n c) n (bv l)) (_hB : base ≤ w.heap.size) :
    Calls Try.prog 21 #[.slice A n c] w fun e w' => e = .returned (.tuple #[]) ∧ Below base w w' := by
  have hm := (Rd.of_own h).lenmax
  have hl := RdB.length (Rd.of_own h)
  by_cases hn : n = 0
  · subst hn
    clear h hl
    go_enter Try.func21, Try.ntmps21
    go_wp2
    go_loopw [2] (fun i wr => i = .int .i64 0 ∧ wr = w) (fun _ _ => 0)
    case atStart => exact ⟨rfl, rfl⟩
    case round =>
      obtain ⟨rfl, rfl⟩ := hrel
      go_wp2
      refine bodyPost_end (results_none rfl _ _ _) rfl ?_
      exact ⟨rfl, Below.refl _ _⟩
  · obtain ⟨g, rfl, hg⟩ : ∃ g, A = some ⟨g, 0, none⟩ ∧ base ≤ g := by
      rcases h.2 with ⟨_, h0⟩ | ⟨g, cap, cur, hv, hB, _⟩
      · exact absurd h0 hn
      · cases hv
        exact ⟨g, rfl, hB⟩
    have HO := hide h
    have HL := hide hl
    clear h hl hn
    go_enter Try.func21, Try.ntmps21
    go_wp2
    go_loopw [2] (SpRel n l base g c w) (fun i _ => n - (intOf i).toNat)
    case atStart => exact ⟨0, _, Nat.zero_le _, rfl, HO.out, Below.refl _ _, fun j _ => rfl⟩
    case round =>
      obtain ⟨k, xs, hk, rfl, hown, hbr, hxs⟩ := hrel
      by_cases hlt : k < n
      · have hu : xs[k]? = some (.int .u8 (l[k]'(by have := HL.out; omega)).toNat) := by
          rw [hxs.out k (Nat.le_refl _), bv_at l k (by have := HL.out; omega)]
        have hcell := (hown.cellAt k (by omega)).trans hu
        have hfr := hown.frozenAt k
        have hst := hide (fun u => hown.stored k u)
        clear hown hu
        go_wp2
        go_roundw
        case measure => simp [intOf]; omega
        case rel =>
          refine ⟨k + 1, _, by omega, by go_num, (hst.out _).1, hbr.setCell hg _, fun j hj => ?_⟩
          rw [List.getElem?_set_ne (by omega)]
          exact hxs.out j (by omega)
      · clear hown
        go_wp2
        refine bodyPost_end (results_none rfl _ _ _) rfl ?_
        exact ⟨rfl, hbr⟩

end Go.Proofs.Ytnbjkkhjphjdkaa
