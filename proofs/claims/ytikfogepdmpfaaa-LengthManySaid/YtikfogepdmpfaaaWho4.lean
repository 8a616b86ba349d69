import Derived.Test.YtikfogepdmpfaaaWho3
import Derived.Deep.RegionHeld3
namespace Go.Proofs.Ytikfogepdmpfaaa
open Go.RowKit
variable {D : Nat → Prop}

/-- A reader of numbers at block P, over a reader of bits at block q: the place a, the fault E, whether it is of one octet 00. -/
def Wd (w : World) (P q : Nat) (D : Nat → Prop) (bs : List UInt8) (a : Nat) (E : Int) (em : Bool) : Prop :=
  ∃ e1 e2 : Int, w.cell? ⟨P, 0, none⟩ = some (.pointer (some ⟨q, 0, none⟩)) ∧ w.cell? ⟨P, 1, none⟩ = some (.int .i64 e1) ∧ w.cell? ⟨P, 2, none⟩ = some (.bool em) ∧ w.frozen? ⟨P, 1, none⟩ = false ∧ Rr w q D bs a e2 ∧ E = (if e1 ≠ 0 then e1 else e2) ∧ q < P

section
variable {w w' : World} {P q : Nat} {bs : List UInt8} {a : Nat} {E : Int} {em : Bool}
theorem Wd.lt (h : Wd w P q D bs a E em) : P < w.heap.size := by
  obtain ⟨e1, e2, h0, _⟩ := h
  exact lt_cell h0
theorem Wd.qp (h : Wd w P q D bs a E em) : q < P := by
  obtain ⟨e1, e2, _, _, _, _, _, _, h⟩ := h
  exact h
theorem Wd.inb (h : Wd w P q D bs a E em) : a ≤ 8 * bs.length ∧ bs.length ≤ 1099511627776 := by
  obtain ⟨e1, e2, _, _, _, _, h, _⟩ := h
  exact h.inb
theorem Wd.dnew (h : Wd w P q D bs a E em) {k : Nat} (hk : q ≤ k) : ¬ D k := by
  obtain ⟨e1, e2, _, _, _, _, h, _⟩ := h
  exact h.dnew hk
theorem Wd.below (h : Wd w P q D bs a E em) (b : Below w.heap.size w w') : Wd w' P q D bs a E em := by
  have hp := h.lt
  obtain ⟨e1, e2, h0, h1, h2, f1, hr, hE, hqp⟩ := h
  exact ⟨e1, e2, (b.cell hp).trans h0, (b.cell hp).trans h1, (b.cell hp).trans h2, (b.frozen hp).trans f1, hr.below b, hE, hqp⟩
theorem Wd.drewN (h : Wd w P q D bs a E em) (k : Nat) : Wd (w.drewN k) P q D bs a E em := h
/-- Other blocks are written. -/
theorem Wd.upd {p2 : Nat} {g2 : Option Nat} (h : Wd w P q D bs a E em) (u : Upd p2 g2 w w') (h1 : P ≠ p2) (h2 : some P ≠ g2) (h3 : q ≠ p2) (h4 : some q ≠ g2) (d1 : ¬ D p2) (d2 : ∀ k, g2 = some k → ¬ D k) : Wd w' P q D bs a E em := by
  have hp := h.lt
  obtain ⟨e1, e2, c0, c1, c2, f1, hr, hE, hqp⟩ := h
  have hc : ∀ j, w'.cell? ⟨P, j, none⟩ = w.cell? ⟨P, j, none⟩ := fun j => u.cell (a := ⟨P, j, none⟩) hp h1 h2
  exact ⟨e1, e2, (hc 0).trans c0, (hc 1).trans c1, (hc 2).trans c2, (u.frozen (a := ⟨P, 1, none⟩) hp h1 h2).trans f1, hr.upd u h3 h4 d1 d2, hE, hqp⟩
theorem Wd.grown {r : Option Nat} (h : Wd w P q D bs a E em) (k : w.grownBy w' r) (h1 : some P ≠ r) (h2 : some q ≠ r) (d : ∀ j, r = some j → ¬ D j) : Wd w' P q D bs a E em := by
  rcases r with _ | j
  · exact h.below ⟨k.os, k.tape, k.output, k.size, fun i hi => k.block i hi (by simp)⟩
  · exact h.upd (p2 := j) (g2 := none) ⟨k.os, k.tape, k.output, k.size, fun i hi h1 _ => k.block i hi (fun e => by cases e; exact h1 rfl)⟩ (fun e => h1 (by rw [e])) (by simp) (fun e => h2 (by rw [e])) (by simp) (d j rfl) (fun _ e => by cases e)
end

/-- What a read leaves. -/
def WdPost (w : World) (P q : Nat) (D : Nat → Prop) (bs : List UInt8) (a : Nat) (E : Int) (em : Bool) (v : Value) (en : Ending) (w' : World) : Prop :=
  en = .returned v ∧ Wd w' P q D bs a E em ∧ Upd P (some q) w w'
theorem Upd.q {P q : Nat} {w w' : World} (h : Upd q none w w') : Upd P (some q) w w' := ⟨h.os, h.tape, h.output, h.size, fun k hk _ h2 => h.block k hk (fun e => h2 (by rw [e])) (by simp)⟩

theorem wdErr_any (P q : Nat) (bs : List UInt8) (a : Nat) (E : Int) (em : Bool) (w : World) (h : Wd w P q D bs a E em) :
    Calls Try.prog 82 #[.pointer (some ⟨P, 0, none⟩)] w fun e w' => e = .returned (.int .i64 E) ∧ w = w' := by
  obtain ⟨e1, e2, h0, h1, h2, f1, hr, rfl, hqp⟩ := h
  have kE := hide (rErr_any q bs a e2 w hr)
  clear hr
  by_cases he : e1 = 0
  · subst he
    simp only [ne_eq, not_true_eq_false, if_false]
    go_enter Try.func82, Try.ntmps82
    go_wp2_with (fail)
    refine kE.out.mono ?_
    rintro e w' ⟨rfl, rfl⟩
    go_wp2
    go_ret
    exact ⟨rfl, rfl⟩
  · rw [if_pos he]
    have he2 : (e1 != 0) = true := by simp [he]
    clear he
    go_enter Try.func82, Try.ntmps82
    go_wp2
    go_ret
    exact ⟨rfl, rfl⟩

def failE (E x : Int) : Int := if E = 0 then x else E
theorem wdFail_any (P q : Nat) (bs : List UInt8) (a : Nat) (E x : Int) (em : Bool) (w : World) (h : Wd w P q D bs a E em) :
    Calls Try.prog 77 #[.pointer (some ⟨P, 0, none⟩), .int .i64 x] w (WdPost w P q D bs a (failE E x) em (.tuple #[])) := by
  have kE := hide (wdErr_any P q bs a E em w h)
  have H := hide h
  obtain ⟨e1, e2, h0, h1, h2, f1, hr, hE, hqp⟩ := h
  unfold failE
  by_cases he : E = 0
  · subst he
    rw [if_pos rfl]
    have HE := hide hE
    have HR := hide hr
    have HQ := hide hqp
    clear hE hr hqp
    go_enter Try.func77, Try.ntmps77
    go_wp2_with (fail)
    refine kE.out.mono ?_
    rintro e w' ⟨rfl, rfl⟩
    go_wp2
    refine bodyPost_end (results_none rfl _ _ _) rfl ?_
    have u := (Upd.refl P none w).cellp 1 (.int .i64 x)
    refine ⟨rfl, ⟨x, e2, ?_, World.cell?_setCell_same _ _ _ h1, ?_, ?_, HR.out.upd u (by have := HQ.out; omega) (by simp) (HR.out.dnew (Nat.le_of_lt HQ.out)) (fun _ e => by cases e), ?_, HQ.out⟩, (Upd.refl _ _ _).cellp 1 _⟩
    · rw [World.cell?_setCell_other _ _ _ _ (by simp)]; exact h0
    · rw [World.cell?_setCell_other _ _ _ _ (by simp)]; exact h2
    · rw [World.frozen?_setCell]; exact f1
    · have := HE.out
      by_cases hx : x = 0
      · subst hx
        by_cases h3 : e1 = 0
        · subst h3
          simpa using this
        · rw [if_pos h3] at this
          exact absurd this.symm h3
      · rw [if_pos hx]
  · rw [if_neg he]
    have he2 : (E == 0) = false := by simp [he]
    clear he hE hr
    go_enter Try.func77, Try.ntmps77
    go_wp2_with (fail)
    refine kE.out.mono ?_
    rintro e w' ⟨rfl, rfl⟩
    go_wp2
    refine bodyPost_end (results_none rfl _ _ _) rfl ?_
    exact ⟨rfl, H.out, Upd.refl _ _ _⟩

theorem wdLeft_any (P q : Nat) (bs : List UInt8) (a : Nat) (E : Int) (em : Bool) (w : World) (h : Wd w P q D bs a E em) :
    Calls Try.prog 80 #[.pointer (some ⟨P, 0, none⟩)] w fun e w' => e = .returned (.int .i64 (Pl.left bs a)) ∧ ∃ k, w' = w.drewN k := by
  obtain ⟨e1, e2, h0, h1, h2, f1, hr, _, hqp⟩ := h
  have kL := hide (rLeftB_any q bs a e2 w hr)
  clear hr
  generalize Pl.left bs a = L at *
  go_enter Try.func80, Try.ntmps80
  go_wp2_with (fail)
  refine kL.out.mono ?_
  rintro e w' ⟨rfl, k, rfl⟩
  go_wp2
  go_ret
  exact ⟨rfl, _, rfl⟩

def WoPost (w : World) (P q : Nat) (D : Nat → Prop) (bs : List UInt8) (a : Nat) (E : Int) (em : Bool) (l : List UInt8) (en : Ending) (w' : World) : Prop :=
  ∃ A n c, en = .returned (.slice A n c) ∧ Wd w' P q D bs a E em ∧ Upd P (some q) w w' ∧ w'.ownsRow w.heap.size 5 1 (.slice A n c) n (bv l)
theorem wdOcts_any (P q : Nat) (bs : List UInt8) (a : Nat) (E n : Int) (em : Bool) (w : World) (h : Wd w P q D bs a E em) (hn : n ≤ 9223372036854775807) :
    Calls Try.prog 71 #[.pointer (some ⟨P, 0, none⟩), .int .i64 n] w (WoPost w P q D bs (Pl.rdA bs a E (8 * clOct n)) (Pl.rdE bs a E ((8 * clOct n : Nat) : Int)) em (Pl.rdO bs a E (clOct n))) := by
  have kE := hide (wdErr_any P q bs a E em w h)
  have H := hide h
  by_cases he : E = 0
  · subst he
    obtain ⟨e1, e2, h0, h1, h2, f1, hr, hE, hqp⟩ := h
    have he1 : e1 = 0 ∧ e2 = 0 := by
      by_cases h3 : e1 = 0
      · subst h3
        exact ⟨rfl, by simpa using hE.symm⟩
      · rw [if_pos h3] at hE
        exact absurd hE.symm h3
    obtain ⟨rfl, rfl⟩ := he1
    have kO := hide (rocts_any q bs a 0 n w hr hn)
    have HF := hide (And.intro h0 (And.intro h1 (And.intro h2 (And.intro f1 hqp))))
    clear hr hE hqp
    generalize Pl.rdA bs a 0 (8 * clOct n) = a' at *
    generalize Pl.rdE bs a 0 ((8 * clOct n : Nat) : Int) = E' at *
    generalize Pl.rdO bs a 0 (clOct n) = l at *
    go_enter Try.func71, Try.ntmps71
    go_wp2_with (fail)
    refine kE.out.mono ?_
    rintro e w' ⟨rfl, rfl⟩
    go_wp2_with (fail)
    refine kO.out.mono ?_
    rintro e w2 ⟨A2, n2, c2, rfl, hr2, hu2, ho2⟩
    have R2 := hide hr2
    have U2 := hide hu2
    have O2 := hide ho2
    clear hr2 hu2 ho2
    go_wp2
    go_ret
    obtain ⟨g0, g1, g2, gf, gq⟩ := HF.out
    have hp := lt_cell g0
    have hc : ∀ j, w2.cell? ⟨P, j, none⟩ = w.cell? ⟨P, j, none⟩ := fun j => U2.out.cell (a := ⟨P, j, none⟩) hp (by simp only; omega) (by simp)
    exact ⟨A2, n2, c2, rfl, ⟨0, E', (hc 0).trans g0, (hc 1).trans g1, (hc 2).trans g2, (U2.out.frozen (a := ⟨P, 1, none⟩) hp (by simp only; omega) (by simp)).trans gf, R2.out, by simp, gq⟩, U2.out.q, O2.out⟩
  · have he2 : (E != 0) = true := by simp [he]
    have e1 := Pl.rdE_err bs a E ((8 * clOct n : Nat) : Int) he
    unfold Pl.rdA Pl.rdO
    rw [e1]
    simp only [if_neg he]
    clear he e1 h
    go_enter Try.func71, Try.ntmps71
    go_wp2_with (fail)
    refine kE.out.mono ?_
    rintro e w' ⟨rfl, rfl⟩
    go_wp2
    go_ret
    exact ⟨none, 0, 0, rfl, H.out, Upd.refl _ _ _, World.ownsRow_nil _ _ _ _⟩
end Go.Proofs.Ytikfogepdmpfaaa
