import Derived.Test.YtikfogepdmpfaaaOpen
import Derived.Deep.Slices
namespace Go.Proofs.Ytikfogepdmpfaaa
open Go.ChangeShapes Go.WideShapes Go.ChangeAt Go.RowKit Go.Deep

/-- A slice of slices of octets reads as ls. -/
def RdP (w : World) (A : Option Addr) (n c : Nat) (ls : List (List UInt8)) : Prop :=
  ∃ vs : List Value, Rd w A n c vs ∧ vs.length = ls.length ∧ ∀ (i : Nat) (l : List UInt8), ls[i]? = some l → ∃ A' n' c', vs[i]? = some (.slice A' n' c') ∧ Rd w A' n' c' (bv l)

section
variable {w w' : World} {A : Option Addr} {n c : Nat} {ls : List (List UInt8)}
theorem RdP.length (h : RdP w A n c ls) : n = ls.length := by
  obtain ⟨vs, hr, hl, _⟩ := h
  exact hr.len.trans hl
theorem RdP.lenmax (h : RdP w A n c ls) : n ≤ 9223372036854775807 := by
  obtain ⟨vs, hr, hl, _⟩ := h
  exact hr.lenmax
theorem RdP.keep (h : RdP w A n c ls) (hk : ∀ p : Addr, p.block < w.heap.size → w'.cell? p = w.cell? p) : RdP w' A n c ls := by
  obtain ⟨vs, hr, hl, hx⟩ := h
  refine ⟨vs, hr.keep hk, hl, fun i l hi => ?_⟩
  obtain ⟨A', n', c', hv, hr'⟩ := hx i l hi
  exact ⟨A', n', c', hv, hr'.keep hk⟩
theorem RdP.below (h : RdP w A n c ls) {B : Nat} (hb : Below B w w') (hB : w.heap.size ≤ B) : RdP w' A n c ls := h.keep fun _ hp => hb.cell (by omega)
theorem RdP.drewN (h : RdP w A n c ls) (k : Nat) : RdP (w.drewN k) A n c ls := h
theorem RdP.alloc (h : RdP w A n c ls) (o : Obj) : RdP (w.alloc o) A n c ls := h.keep fun p hp => World.cell?_alloc_lt w o p hp
theorem RdP.at_ (h : RdP w A n c ls) {k : Nat} (hk : k < ls.length) : ∃ b o A' n' c', A = some ⟨b, o, none⟩ ∧ b < w.heap.size ∧ w.cell? ⟨b, o + k, none⟩ = some (.slice A' n' c') ∧ Rd w A' n' c' (bv ls[k]) := by
  have hn := h.length
  obtain ⟨vs, hr, hl, hx⟩ := h
  obtain ⟨b, o, u, hA, hb, hu, hc⟩ := hr.at_ (k := k) (by omega)
  obtain ⟨A', n', c', hv, hr'⟩ := hx k ls[k] (List.getElem?_eq_getElem hk)
  rw [hv] at hu
  cases hu
  exact ⟨b, o, A', n', c', hA, hb, hc, hr'⟩
theorem RdP.nil (w : World) (A : Option Addr) (c : Nat) (hc : c ≤ maxLen) : RdP w A 0 c [] := ⟨[], Rd.nil w A c hc, rfl, fun i l h => by simp at h⟩
end

section
variable {H : Type} {enc : TypeId × Value → H} {P : Program} {W : World} {base : Nat} {spare : Nat → Bool} {held : Bool}
theorem open_bytes1 {t e : TypeId} {fuel : Nat} {v : Value} {x : DataW H × List MemPlace} (ht : P.underlying t = some (.slice e)) (he : P.underlying e = some (.int .u8)) (hc : P.cellsOf e = 1)
    (hf : DataW.trod enc P W base spare held fuel t [v] = some x) : ∃ A n c l, v = .slice A n c ∧ Rd W A n c (bv l) := by
  rcases open_ints ht he hc hf with ⟨hcs, _⟩ | ⟨x, l, c, zs, hcs, _⟩
  all_goals
    simp at hcs
    subst hcs
    obtain ⟨l, hl⟩ := open_bytes ht he hc hf
    exact ⟨_, _, _, l, rfl, hl⟩

theorem open_bytess {t et e : TypeId} {fuel : Nat} {a : Option Addr} {len cap : Nat} {x : DataW H × List MemPlace} (ht : P.underlying t = some (.slice et)) (het : P.underlying et = some (.slice e)) (he : P.underlying e = some (.int .u8))
    (hct : P.cellsOf et = 1) (hc : P.cellsOf e = 1) (hf : DataW.trod enc P W base spare held fuel t [.slice a len cap] = some x) : ∃ ls, RdP W a len cap ls := by
  rcases open_slice1 ht hct hf with ⟨hcs, _⟩ | ⟨x, l, c, m, n, V, D, Pl, hcs, _, hl, hm, hmm, _, hx⟩
  · simp at hcs
    obtain ⟨rfl, rfl, rfl⟩ := hcs
    exact ⟨[], RdP.nil _ _ _ (by unfold maxLen; omega)⟩
  · simp at hcs
    obtain ⟨rfl, rfl, rfl⟩ := hcs
    have hlen : len ≤ m := by
      rw [hmm]
      split <;> omega
    obtain ⟨L, hL⟩ := choose_lt (α := List UInt8) (n := len) (p := fun i l => ∃ A n c, V i = .slice A n c ∧ Rd W A n c (bv l)) (fun i hi => by
      obtain ⟨A, n, c, l, h1, h2⟩ := open_bytes1 het he hc (hx i (by omega)).2
      exact ⟨l, A, n, c, h1, h2⟩)
    refine ⟨(List.range len).map L, (List.range len).map V, ⟨by simp, hl, hm, fun hn => ?_⟩, by simp, fun i l hi => ?_⟩
    · obtain ⟨b, o, s⟩ := x
      have h0 := (hx 0 (by omega)).1
      have hs : s = none := by simpa [Addr.add] using World.cell?_spot h0
      subst hs
      refine ⟨b, o, rfl, fun i u hu => ?_⟩
      have hi : i < len := by
        have := (List.getElem?_eq_some_iff.1 hu).1
        simpa using this
      have hc := (hx i (by omega)).1
      rw [Addr.add_lit] at hc
      rw [hc, ← hu]
      simp [hi]
    · have hi' : i < len := by
        have := (List.getElem?_eq_some_iff.1 hi).1
        simpa using this
      simp [hi'] at hi
      subst hi
      obtain ⟨A, n, c, h1, h2⟩ := hL i hi'
      exact ⟨A, n, c, by simp [hi', h1], h2⟩
end

theorem flat_take_le (ls : List (List UInt8)) (k : Nat) : (ls.take k).flatten.length ≤ ls.flatten.length := by
  have := congrArg List.length (congrArg List.flatten (List.take_append_drop k ls))
  simp only [List.flatten_append, List.length_append] at this
  omega
theorem flat_take_succ (ls : List (List UInt8)) (k : Nat) (h : k < ls.length) : (ls.take (k + 1)).flatten = (ls.take k).flatten ++ ls[k] := by
  rw [List.take_succ_eq_append_getElem h, List.flatten_append, List.flatten_singleton]

end Go.Proofs.Ytikfogepdmpfaaa
