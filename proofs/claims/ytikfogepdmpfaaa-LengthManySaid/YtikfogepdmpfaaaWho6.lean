import Derived.Test.YtikfogepdmpfaaaWho5
import Derived.Test.YtikfogepdmpfaaaOct7
import Derived.BigRegion
namespace Go.Proofs.Ytikfogepdmpfaaa
open Go.RowKit
variable {D : Nat → Prop}

theorem wrBack_err (P q : Nat) (bs : List UInt8) (a : Nat) (E : Int) (em : Bool) (f : Value) (w : World) (h : Wd w P q D bs a E em) (hE : E ≠ 0) :
    Calls Try.prog 102 #[.pointer (some ⟨P, 0, none⟩), f] w fun e w' => e = .returned (.bool false) ∧ w = w' := by
  have kE := hide (wdErr_any P q bs a E em w h)
  have he2 : (E != 0) = true := by simp [hE]
  clear h hE
  go_enter Try.func102, Try.ntmps102
  go_wp2_with (fail)
  refine kE.out.mono ?_
  rintro e w' ⟨rfl, rfl⟩
  go_wp2
  go_ret
  exact ⟨rfl, rfl⟩

/-- What a function that is handed to Back leaves. -/
def InBack (P q : Nat) (D : Nat → Prop) (bs : List UInt8) (em : Bool) (fb : Nat) (w1 : World) (Post : Nat → Int → World → Prop) (e : Ending) (w2 : World) : Prop :=
  e = .returned (.tuple #[]) ∧ ∃ a' E', Wd w2 P q D bs a' E' em ∧ (∀ j, w2.cell? ⟨fb, j, none⟩ = w1.cell? ⟨fb, j, none⟩) ∧ (∀ k, D k → w2.heap[k]? = w1.heap[k]?) ∧ Post a' E' w2
def BackPost (P q : Nat) (D : Nat → Prop) (bs : List UInt8) (a : Nat) (em : Bool) (Post : Nat → Int → World → Prop) (e : Ending) (w' : World) : Prop :=
  ∃ a' E' w2, e = .returned (.bool (decide (E' = 0))) ∧ Post a' E' w2 ∧ Wd w' P q D bs (if E' = 0 then a' else a) E' em ∧ Upd P (some q) w2 w'

theorem wd_drew {w : World} {P q : Nat} {bs : List UInt8} {a : Nat} {E : Int} {em : Bool} (h : Wd w P q D bs a E em) : Wd w.drew P q D bs a E em := h
theorem wd_back0 {w w2 : World} {o : Obj} {P q : Nat} {bs : List UInt8} {a a' : Nat} {E' : Int} {em : Bool} {A : Option Addr} {n c : Nat} (hr : Rr w q D bs a 0) (h0 : w.cell? ⟨q, 0, none⟩ = some (.slice A n c)) (h2 : Wd w2 P q D bs a' E' em) (hD : ∀ k, D k → w2.heap[k]? = (w.alloc o).heap[k]?) (hE : E' ≠ 0) :
    Wd ((((w2.setCell ⟨q, 0, none⟩ (.slice A n c)).setCell ⟨q, 1, none⟩ (.int .i64 (a : Int))).setCell ⟨q, 2, none⟩ (.int .i64 0)).setCell ⟨P, 1, none⟩ (.int .i64 E')) P q D bs a E' em ∧
      Upd P (some q) w2 ((((w2.setCell ⟨q, 0, none⟩ (.slice A n c)).setCell ⟨q, 1, none⟩ (.int .i64 (a : Int))).setCell ⟨q, 2, none⟩ (.int .i64 0)).setCell ⟨P, 1, none⟩ (.int .i64 E')) := by
  obtain ⟨x1, x2, y0, y1, y2, yf, yr, _, yqp⟩ := h2
  obtain ⟨⟨A3, n3, c3, z0, z1, zf0, zf1, _, zo, _⟩, z2, zf2⟩ := yr
  have hdl := hr.dlt
  obtain ⟨⟨A', n', c', h0', _, _, _, rr, ro, rb⟩, _⟩ := hr
  rw [h0] at h0'
  cases h0'
  have hrd : Rd w2 A n c (bv bs) := by
    refine ⟨rr.1, rr.2.1, rr.2.2.1, fun hn => ?_⟩
    obtain ⟨b, o', e, hc⟩ := rr.2.2.2 hn
    have hdb := ro.2 b o' none e hn
    refine ⟨b, o', e, fun i u hu => ?_⟩
    have h3 := hc i u hu
    have h4 := (hD b hdb).trans (Below.heap_alloc w o b (lt_cell h3))
    exact (World.cell?_of_block (a := ⟨b, o' + i, none⟩) h4).trans h3
  have u1 : Upd P (some q) w2 ((w2.setCell ⟨q, 0, none⟩ (.slice A n c)).setCell ⟨q, 1, none⟩ (.int .i64 (a : Int))) := ((Upd.refl P (some q) w2).cellg 0 _).cellg 1 _
  have u2 := (u1.cellg 2 (.int .i64 0)).cellp 1 (.int .i64 E')
  have hqP : q ≠ P := by omega
  have hPq : P ≠ q := by omega
  refine ⟨⟨E', 0, ?_, ?_, ?_, ?_, ⟨⟨A, n, c, ?_, ?_, ?_, ?_, (hrd.upd u2 (off_lo (p := P) (g := some q) ro.2 (fun hd => by have := hdl P hd; omega) (fun k e hd => by (have e2 : q = k := by simpa using e); (have := hdl k hd); omega))), ro, rb⟩, ?_, ?_⟩, by rw [if_pos hE], yqp⟩, u2⟩
  · rw [World.cell?_setCell_other _ _ _ _ (by simp), cell_setCell_ne _ hPq, cell_setCell_ne _ hPq, cell_setCell_ne _ hPq]
    exact y0
  · exact World.cell?_setCell_same _ _ _ (u := .int .i64 x1) (by rw [cell_setCell_ne _ hPq, cell_setCell_ne _ hPq, cell_setCell_ne _ hPq]; exact y1)
  · rw [World.cell?_setCell_other _ _ _ _ (by simp), cell_setCell_ne _ hPq, cell_setCell_ne _ hPq, cell_setCell_ne _ hPq]
    exact y2
  · rw [World.frozen?_setCell, World.frozen?_setCell, World.frozen?_setCell, World.frozen?_setCell]
    exact yf
  · rw [cell_setCell_ne _ hqP, World.cell?_setCell_other _ _ _ _ (by simp), World.cell?_setCell_other _ _ _ _ (by simp)]
    exact World.cell?_setCell_same _ _ _ z0
  · rw [cell_setCell_ne _ hqP, World.cell?_setCell_other _ _ _ _ (by simp)]
    exact World.cell?_setCell_same _ _ _ (u := .int .i64 (a' : Int)) (by rw [World.cell?_setCell_other _ _ _ _ (by simp)]; exact z1)
  · rw [World.frozen?_setCell, World.frozen?_setCell, World.frozen?_setCell, World.frozen?_setCell]
    exact zf0
  · rw [World.frozen?_setCell, World.frozen?_setCell, World.frozen?_setCell, World.frozen?_setCell]
    exact zf1
  · rw [cell_setCell_ne _ hqP]
    exact World.cell?_setCell_same _ _ _ (u := .int .i64 x2) (by rw [World.cell?_setCell_other _ _ _ _ (by simp), World.cell?_setCell_other _ _ _ _ (by simp)]; exact z2)
  · rw [World.frozen?_setCell, World.frozen?_setCell, World.frozen?_setCell, World.frozen?_setCell]
    exact zf2

theorem wd_back {w w2 : World} {o : Obj} {P q : Nat} {bs : List UInt8} {a a' : Nat} {E' : Int} {em : Bool} {A : Option Addr} {n c : Nat} (hr : Rr w q D bs a 0) (h0 : w.cell? ⟨q, 0, none⟩ = some (.slice A n c)) (h2 : Wd w2 P q D bs a' E' em) (hD : ∀ k, D k → w2.heap[k]? = (w.alloc o).heap[k]?) (hE : E' ≠ 0) :
    Wd ((((w2.setCell ⟨q, 0, none⟩ (.slice A n c)).setCell ⟨q, 1, none⟩ (.int .i64 (a : Int))).setCell ⟨q, 2, none⟩ (.int .i64 0)).setCell ⟨P, 1, none⟩ (.int .i64 E')).drew P q D bs a E' em ∧
      Upd P (some q) w2 ((((w2.setCell ⟨q, 0, none⟩ (.slice A n c)).setCell ⟨q, 1, none⟩ (.int .i64 (a : Int))).setCell ⟨q, 2, none⟩ (.int .i64 0)).setCell ⟨P, 1, none⟩ (.int .i64 E')).drew :=
  ⟨wd_drew (wd_back0 hr h0 h2 hD hE).1, (wd_back0 hr h0 h2 hD hE).2.drew⟩

set_option maxRecDepth 100000 in
set_option maxHeartbeats 1600000 in
theorem wrBack_any (P q : Nat) (bs : List UInt8) (a : Nat) (em : Bool) (F : Nat) (caps : Array Value) (w : World) (h : Wd w P q D bs a 0 em) (Post : Nat → Int → World → Prop)
    (hcF : ∀ w, (callFunc F caps).run Try.prog w = .ok (.enter F caps) w) (kF : ∀ o, Calls Try.prog F caps (w.alloc o) (InBack P q D bs em w.heap.size (w.alloc o) Post)) :
    Calls Try.prog 102 #[.pointer (some ⟨P, 0, none⟩), .func (.func F) #[] caps] w (BackPost P q D bs a em Post) := by
  have kE := hide (wdErr_any P q bs a 0 em w h)
  have kG := hide (fun a E W h => wdErr_any (D := D) P q bs a E em W h)
  have KF := hide kF
  have H := hide h
  obtain ⟨e1, e2, h0, h1, h2, f1, hr, hE, hqp⟩ := h
  have hx : e1 = 0 ∧ e2 = 0 := by
    by_cases h3 : e1 = 0
    · subst h3
      exact ⟨rfl, by simpa using hE.symm⟩
    · rw [if_pos h3] at hE
      exact absurd hE.symm h3
  obtain ⟨rfl, rfl⟩ := hx
  have HR := hide hr
  obtain ⟨⟨A, n, c, q0, q1, qf0, qf1, _⟩, q2, qf2⟩ := hr
  have HQ := hide hqp
  clear kF hE hqp
  go_enter Try.func102, Try.ntmps102
  go_wp2_with (fail)
  refine kE.out.mono ?_
  rintro e w' ⟨rfl, rfl⟩
  go_wp2_with (fail)
  refine (KF.out _).mono ?_
  rintro e w2 ⟨rfl, a', E', hw2, hfb, hdd, hpost⟩
  have W2 := hide hw2
  have HPO := hide hpost
  have hfb0 := (hfb 0).trans (show _ = some (Value.slice A n c) from cell_new rfl rfl)
  have hfb1 := (hfb 1).trans (show _ = some (Value.int .i64 (a : Int)) from cell_new rfl rfl)
  have hfb2 := (hfb 2).trans (show _ = some (Value.int .i64 0) from cell_new rfl rfl)
  have HDD := hide hdd
  clear hw2 hpost hfb hdd
  by_cases he : E' = 0
  · subst he
    go_wp2_with (fail)
    refine (kG.out _ _ _ W2.out).mono ?_
    rintro e w3 ⟨rfl, rfl⟩
    go_wp2
    go_ret
    exact ⟨a', 0, w2, rfl, HPO.out, by simpa using W2.out, Upd.refl _ _ _⟩
  · have he2 : (E' != 0) = true := by simp [he]
    have HE := hide he
    obtain ⟨x1, x2, y0, y1, y2, yf, yr, yE, yqp⟩ := W2.out
    obtain ⟨⟨A3, n3, c3, z0, z1, zf0, zf1, zr, zo, zb⟩, z2, zf2⟩ := yr
    have ZR := hide (And.intro zr (And.intro zo zb))
    have hqP : q ≠ P := by omega
    have hPq : P ≠ q := by omega
    have hd : decide (E' = 0) = false := by simp [he]
    clear he yE yqp zr zo zb
    go_wp2_with (fail)
    refine (kG.out _ _ _ W2.out).mono ?_
    rintro e w3 ⟨rfl, rfl⟩
    go_wp2_with (fail)
    go_region
    all_goals
      go_wp2
      go_ret
      have hb := wd_back HR.out q0 W2.out HDD.out HE.out
      exact ⟨a', E', w2, ret_bool hd.symm, HPO.out, by rw [if_neg HE.out]; exact hb.1, hb.2⟩

/-- As Upd, with one more block that is written. -/
structure Up3 (P q b : Nat) (w w' : World) : Prop where
  os : w'.os = w.os
  tape : w'.tape = w.tape
  output : w'.output = w.output
  size : w.heap.size ≤ w'.heap.size
  block : ∀ k, k < w.heap.size → k ≠ P → k ≠ q → k ≠ b → w'.heap[k]? = w.heap[k]?
section
variable {P q b : Nat} {w w' w'' : World}
theorem Up3.refl (P q b : Nat) (w : World) : Up3 P q b w w := ⟨rfl, rfl, rfl, Nat.le_refl _, fun _ _ _ _ _ => rfl⟩
theorem Up3.of (h : Upd P (some q) w w') : Up3 P q b w w' := ⟨h.os, h.tape, h.output, h.size, fun k hk h1 h2 _ => h.block k hk h1 (fun e => h2 (by simpa using e))⟩
theorem Up3.of_b (h : Upd b none w w') : Up3 P q b w w' := ⟨h.os, h.tape, h.output, h.size, fun k hk _ _ h3 => h.block k hk h3 (by simp)⟩
theorem Up3.trans (h : Up3 P q b w w') (k : Up3 P q b w' w'') : Up3 P q b w w'' :=
  ⟨k.os.trans h.os, k.tape.trans h.tape, k.output.trans h.output, Nat.le_trans h.size k.size, fun j hj h1 h2 h3 => (k.block j (Nat.lt_of_lt_of_le hj h.size) h1 h2 h3).trans (h.block j hj h1 h2 h3)⟩
theorem Up3.drew (h : Up3 P q b w w') : Up3 P q b w w'.drew := ⟨h.os, h.tape, h.output, h.size, h.block⟩
theorem Up3.set (P q b : Nat) (u : Value) (w : World) : Up3 P q b w (w.setCell ⟨b, 0, none⟩ u) := .of_b ((Upd.refl b none w).cellp 0 u)
/-- Behind blocks that were made since: the word without the third block. -/
theorem Up3.upd {w0 : World} (h : Up3 P q b w w') (h0 : Upd P (some q) w0 w) (hb : w0.heap.size ≤ b) : Upd P (some q) w0 w' :=
  ⟨h.os.trans h0.os, h.tape.trans h0.tape, h.output.trans h0.output, Nat.le_trans h0.size h.size, fun k hk h1 h2 => (h.block k (Nat.lt_of_lt_of_le hk h0.size) h1 (fun e => h2 (by rw [e])) (by omega)).trans (h0.block k hk h1 h2)⟩
end
theorem Wd.setb {w : World} {P q b : Nat} {bs : List UInt8} {a : Nat} {E : Int} {em : Bool} (h : Wd w P q D bs a E em) (hb : P < b) (u : Value) : Wd (w.setCell ⟨b, 0, none⟩ u) P q D bs a E em := by
  have hq := h.qp
  exact h.upd ((Upd.refl b none w).cellp 0 u) (by omega) (by simp) (by omega) (by simp) (h.dnew (by omega)) (fun _ e => by cases e)

/-- What a closure leaves that reads into the variable at block b. -/
def CloPost (w : World) (P q : Nat) (D : Nat → Prop) (bs : List UInt8) (b : Nat) (a : Nat) (E : Int) (em : Bool) (v : Int) (en : Ending) (w' : World) : Prop :=
  en = .returned (.tuple #[]) ∧ Wd w' P q D bs a E em ∧ Up3 P q b w w' ∧ w'.cell? ⟨b, 0, none⟩ = some (.int .u64 v)
/-- The fault behind a number between. -/
def btE (bs : List UInt8) (a : Nat) (s : Int) : Int := if s < Pl.rdV bs a 0 (wid s) then failE (Pl.rdE bs a 0 (wid s : Nat)) 4 else Pl.rdE bs a 0 (wid s : Nat)

/-- The three variables that the closure holds. -/
def BtK (b0 b1 b2 P : Nat) (s v0 : Int) (w : World) : Prop :=
  w.cell? ⟨b0, 0, none⟩ = some (.pointer (some ⟨P, 0, none⟩)) ∧ w.cell? ⟨b1, 0, none⟩ = some (.int .u64 s) ∧ w.cell? ⟨b2, 0, none⟩ = some (.int .u64 v0) ∧ w.frozen? ⟨b2, 0, none⟩ = false
theorem BtK.upd {b0 b1 b2 P q : Nat} {s v0 : Int} {w w' : World} (h : BtK b0 b1 b2 P s v0 w) (u : Upd P (some q) w w') (ho : P < b0 ∧ P < b1 ∧ P < b2 ∧ b0 ≠ b2 ∧ b1 ≠ b2) (hq : q < P) (_ : P < w.heap.size) : BtK b0 b1 b2 P s v0 w' := by
  obtain ⟨c0, c1, c2, f2⟩ := h
  have l2 := lt_cell c2
  exact ⟨(u.cell (a := ⟨b0, 0, none⟩) (lt_cell c0) (by simp only; omega) (by simp only [ne_eq, Option.some.injEq]; omega)).trans c0, (u.cell (a := ⟨b1, 0, none⟩) (lt_cell c1) (by simp only; omega) (by simp only [ne_eq, Option.some.injEq]; omega)).trans c1, (u.cell (a := ⟨b2, 0, none⟩) l2 (by simp only; omega) (by simp only [ne_eq, Option.some.injEq]; omega)).trans c2, (u.frozen (a := ⟨b2, 0, none⟩) l2 (by simp only; omega) (by simp only [ne_eq, Option.some.injEq]; omega)).trans f2⟩
theorem bt_set {b0 b1 b2 P : Nat} {s v0 : Int} {w : World} (h : BtK b0 b1 b2 P s v0 w) (ho : P < b0 ∧ P < b1 ∧ P < b2 ∧ b0 ≠ b2 ∧ b1 ≠ b2) (u : Value) :
    (w.setCell ⟨b2, 0, none⟩ u).cell? ⟨b0, 0, none⟩ = some (.pointer (some ⟨P, 0, none⟩)) ∧ (w.setCell ⟨b2, 0, none⟩ u).cell? ⟨b1, 0, none⟩ = some (.int .u64 s) :=
  ⟨(cell_setCell_ne _ ho.2.2.2.1).trans h.1, (cell_setCell_ne _ ho.2.2.2.2).trans h.2.1⟩

set_option maxRecDepth 100000 in
set_option maxHeartbeats 1600000 in
theorem btwC_any (P q : Nat) (bs : List UInt8) (a : Nat) (em : Bool) (s v0 : Int) (b0 b1 b2 : Nat) (w : World) (h : Wd w P q D bs a 0 em) (c0 : w.cell? ⟨b0, 0, none⟩ = some (.pointer (some ⟨P, 0, none⟩))) (c1 : w.cell? ⟨b1, 0, none⟩ = some (.int .u64 s)) (c2 : w.cell? ⟨b2, 0, none⟩ = some (.int .u64 v0)) (f2 : w.frozen? ⟨b2, 0, none⟩ = false) (ho : P < b0 ∧ P < b1 ∧ P < b2 ∧ b0 ≠ b2 ∧ b1 ≠ b2) (hs0 : 0 ≤ s) (hs1 : s < 18446744073709551616) :
    Calls Try.prog 103 #[.pointer (some ⟨b0, 0, none⟩), .pointer (some ⟨b1, 0, none⟩), .pointer (some ⟨b2, 0, none⟩)] w (CloPost w P q D bs b2 (Pl.rdA bs a 0 (wid s)) (btE bs a s) em (Pl.rdV bs a 0 (wid s))) := by
  have kW := hide (fun w => width_any s w hs0 hs1)
  have kB := fun W h => wdBits_any (D := D) P q bs a 0 (widthI s) em W h
  rw [cl64_wid] at kB
  have KB := hide kB
  have kF := hide (fun a E W h => wdFail_any (D := D) P q bs a E 4 em W h)
  have H := hide h
  have HO := hide ho
  have HQ := hide h.qp
  unfold btE
  clear h hs0 hs1 kB
  generalize Pl.rdA bs a 0 (wid s) = a' at *
  generalize Pl.rdE bs a 0 (wid s : Nat) = E at *
  generalize Pl.rdV bs a 0 (wid s) = V at *
  have C := hide (And.intro c0 (And.intro c1 (And.intro c2 f2)))
  clear ho
  by_cases hv : s < V
  · rw [if_pos hv]
    have hv2 : decide (V > s) = true := by simpa using hv
    go_enter Try.func103, Try.ntmps103
    have Hd := hide (show Wd w.drew P q D bs a 0 em from H.out)
    have S1 := hide (show w.drew.cell? ⟨b0, 0, none⟩ = some (.pointer (some ⟨P, 0, none⟩)) ∧ w.drew.cell? ⟨b1, 0, none⟩ = some (.int .u64 s) from ⟨C.out.1, C.out.2.1⟩)
    clear c0 c1 c2 f2
    go_wp2_with (fail)
    go_region_held3 (fun w' => w'.cell? ⟨b0, 0, none⟩ = some (.pointer (some ⟨P, 0, none⟩)) ∧ w'.cell? ⟨b1, 0, none⟩ = some (.int .u64 s))
      (first | with_reducible exact S1.out | with_reducible assumption | with_reducible exact bt_set ‹BtK b0 b1 b2 P s v0 _› HO.out _)
      (first
        | (go_at_call 88; (with_reducible refine (kW.out _).mono ?_); rintro en w9 ⟨rfl, rfl⟩)
        | (go_at_call 66; (with_reducible refine (KB.out _ Hd.out).mono ?_); rintro en w9 ⟨rfl, hr9, hu9⟩; have hk9 := BtK.upd (show BtK b0 b1 b2 P s v0 w.drew from C.out) hu9 HO.out HQ.out Hd.out.lt; have hk8 := And.intro hk9.1 hk9.2.1; have hk7 := hk9.2.2.1; have hk6 := hk9.2.2.2))
    all_goals
      have Wb := hide (hr9.setb HO.out.2.2.1 (.int .u64 V))
      have hbb : (w9.setCell ⟨b2, 0, none⟩ (.int .u64 V)).cell? ⟨b2, 0, none⟩ = some (.int .u64 V) := World.cell?_setCell_same _ _ _ hk7
      have U9 := hide ((Up3.of (b := b2) ((Upd.refl P (some q) w).drew.trans (Mv.refl _ _) hu9)).trans (Up3.set P q b2 (.int .u64 V) w9))
      obtain ⟨x0, x1⟩ := bt_set hk9 HO.out (.int .u64 V)
      clear hr9 hu9 hk9 hk8 hk7 hk6
      generalize w9.setCell ⟨b2, 0, none⟩ (.int .u64 V) = W at *
      go_wp2_with (fail)
      refine (kF.out _ _ _ Wb.out).mono ?_
      rintro e w3 ⟨rfl, hr3, hu3⟩
      have R3 := hide hr3
      have U3 := hide hu3
      have hc3 := (hu3.cell (a := ⟨b2, 0, none⟩) (lt_cell hbb) (by have := HO.out; simp only; omega) (by have := HO.out; have := HQ.out; simp only [ne_eq, Option.some.injEq]; omega)).trans hbb
      clear hr3 hu3
      go_wp2
      refine bodyPost_end (results_none rfl _ _ _) rfl ?_
      exact ⟨rfl, R3.out, U9.out.trans (.of U3.out), hc3⟩
  · rw [if_neg hv]
    have hv2 : decide (V > s) = false := by simpa using hv
    go_enter Try.func103, Try.ntmps103
    have Hd := hide (show Wd w.drew P q D bs a 0 em from H.out)
    have S1 := hide (show w.drew.cell? ⟨b0, 0, none⟩ = some (.pointer (some ⟨P, 0, none⟩)) ∧ w.drew.cell? ⟨b1, 0, none⟩ = some (.int .u64 s) from ⟨C.out.1, C.out.2.1⟩)
    clear c0 c1 c2 f2
    go_wp2_with (fail)
    go_region_held3 (fun w' => w'.cell? ⟨b0, 0, none⟩ = some (.pointer (some ⟨P, 0, none⟩)) ∧ w'.cell? ⟨b1, 0, none⟩ = some (.int .u64 s))
      (first | with_reducible exact S1.out | with_reducible assumption | with_reducible exact bt_set ‹BtK b0 b1 b2 P s v0 _› HO.out _)
      (first
        | (go_at_call 88; (with_reducible refine (kW.out _).mono ?_); rintro en w9 ⟨rfl, rfl⟩)
        | (go_at_call 66; (with_reducible refine (KB.out _ Hd.out).mono ?_); rintro en w9 ⟨rfl, hr9, hu9⟩; have hk9 := BtK.upd (show BtK b0 b1 b2 P s v0 w.drew from C.out) hu9 HO.out HQ.out Hd.out.lt; have hk8 := And.intro hk9.1 hk9.2.1; have hk7 := hk9.2.2.1; have hk6 := hk9.2.2.2))
    all_goals
      have Wb := hide (hr9.setb HO.out.2.2.1 (.int .u64 V))
      have hbb : (w9.setCell ⟨b2, 0, none⟩ (.int .u64 V)).cell? ⟨b2, 0, none⟩ = some (.int .u64 V) := World.cell?_setCell_same _ _ _ hk7
      have U9 := hide ((Up3.of (b := b2) ((Upd.refl P (some q) w).drew.trans (Mv.refl _ _) hu9)).trans (Up3.set P q b2 (.int .u64 V) w9))
      obtain ⟨x0, x1⟩ := bt_set hk9 HO.out (.int .u64 V)
      clear hr9 hu9 hk9 hk8 hk7 hk6
      generalize w9.setCell ⟨b2, 0, none⟩ (.int .u64 V) = W at *
      go_wp2
      refine bodyPost_end (results_none rfl _ _ _) rfl ?_
      exact ⟨rfl, Wb.out, U9.out, hbb⟩

def btEE (bs : List UInt8) (a : Nat) (E s : Int) : Int := if E = 0 then btE bs a s else E
def btA (bs : List UInt8) (a : Nat) (E s : Int) : Nat := if btEE bs a E s = 0 then Pl.rdA bs a 0 (wid s) else a
def btV (bs : List UInt8) (a : Nat) (E s : Int) : Int := if btEE bs a E s = 0 then Pl.rdV bs a 0 (wid s) else 0

/-- What stands behind a closure that reads into the variable at block b. -/
def CloEnd (w0 : World) (P q b : Nat) (a : Nat) (E v : Int) (a' : Nat) (E' : Int) (w2 : World) : Prop :=
  a' = a ∧ E' = E ∧ w2.cell? ⟨b, 0, none⟩ = some (.int .u64 v) ∧ Upd P (some q) w0 w2
theorem clo_in {w0 W w2 : World} {o : Obj} {P q b : Nat} {bs : List UInt8} {a a0 : Nat} {E E0 : Int} {em : Bool} {v : Int} {e : Ending} (h : CloPost (W.alloc o) P q D bs b a E em v e w2) (u : Upd P (some q) w0 W) (hb : w0.heap.size ≤ b) (hbW : b < W.heap.size) (hPb : P < b) (hw : Wd W P q D bs a0 E0 em) :
    InBack P q D bs em W.heap.size (W.alloc o) (CloEnd w0 P q b a E v) e w2 := by
  obtain ⟨rfl, hr, hu, hc⟩ := h
  have hP := hw.lt
  have hq := hw.qp
  refine ⟨rfl, a, E, hr, fun j => World.cell?_of_block (a := ⟨W.heap.size, j, none⟩) (hu.block W.heap.size (by simp) (by omega) (by omega) (by omega)), fun k hk => ?_, rfl, rfl, hc, (hu.upd (u.alloc o) hb)⟩
  have hkq : k < q := Nat.lt_of_not_le fun h => hw.dnew h hk
  exact hu.block k (by have : (W.alloc o).heap.size = W.heap.size + 1 := by simp
                       omega) (by omega) (by omega) (by omega)

theorem size_alloc (w : World) (o : Obj) : (w.alloc o).heap.size = w.heap.size + 1 := by simp
/-- Three variables made one behind the other. -/
theorem three (w : World) (v0 v1 v2 : Value) (t0 t1 t2 : Nat) (W : World) (hW : ((w.alloc (.cells #[v0] t0)).alloc (.cells #[v1] t1)).alloc (.cells #[v2] t2) = W) :
    W.heap.size = w.heap.size + 3 ∧ Below w.heap.size w W ∧ W.cell? ⟨w.heap.size, 0, none⟩ = some v0 ∧ W.cell? ⟨w.heap.size + 1, 0, none⟩ = some v1 ∧ W.cell? ⟨w.heap.size + 1 + 1, 0, none⟩ = some v2 ∧ W.frozen? ⟨w.heap.size + 1 + 1, 0, none⟩ = false := by
  have e1 := size_alloc w (.cells #[v0] t0)
  have k0 : (w.alloc (.cells #[v0] t0)).cell? ⟨w.heap.size, 0, none⟩ = some v0 := cell_new rfl rfl
  have b0 : Below w.heap.size w (w.alloc (.cells #[v0] t0)) := (Below.refl _ _).alloc (Nat.le_refl _) _
  generalize w.alloc (.cells #[v0] t0) = w1 at *
  have e2 := size_alloc w1 (.cells #[v1] t1)
  have k1 : (w1.alloc (.cells #[v1] t1)).cell? ⟨w1.heap.size, 0, none⟩ = some v1 := cell_new rfl rfl
  have b1 : Below w1.heap.size w1 (w1.alloc (.cells #[v1] t1)) := (Below.refl _ _).alloc (Nat.le_refl _) _
  generalize w1.alloc (.cells #[v1] t1) = w2 at *
  have e3 := size_alloc w2 (.cells #[v2] t2)
  have k2 : (w2.alloc (.cells #[v2] t2)).cell? ⟨w2.heap.size, 0, none⟩ = some v2 := cell_new rfl rfl
  have f2 : (w2.alloc (.cells #[v2] t2)).frozen? ⟨w2.heap.size, 0, none⟩ = false := by simp
  have b2 : Below w2.heap.size w2 (w2.alloc (.cells #[v2] t2)) := (Below.refl _ _).alloc (Nat.le_refl _) _
  generalize w2.alloc (.cells #[v2] t2) = w3 at *
  subst hW
  rw [e1] at k1
  rw [e2, e1] at k2 f2
  exact ⟨by omega, (b0.trans (b1.mono (by omega))).trans (b2.mono (by omega)), ((b2.cell (by simp only; omega)).trans (b1.cell (by simp only; omega))).trans k0, (b2.cell (by simp only; omega)).trans k1, k2, f2⟩

set_option maxRecDepth 100000 in
set_option maxHeartbeats 1600000 in
theorem wdBetween_any (P q : Nat) (bs : List UInt8) (a : Nat) (E s : Int) (em : Bool) (w : World) (h : Wd w P q D bs a E em) (hs0 : 0 ≤ s) (hs1 : s < 18446744073709551616) :
    Calls Try.prog 73 #[.pointer (some ⟨P, 0, none⟩), .int .u64 s] w (WdPost w P q D bs (btA bs a E s) (btEE bs a E s) em (.int .u64 (btV bs a E s))) := by
  have H := hide h
  by_cases hE : E = 0
  · subst hE
    have KC := hide (fun b0 b1 b2 W h c0 c1 c2 f2 ho => btwC_any (D := D) P q bs a em s 0 b0 b1 b2 W h c0 c1 c2 f2 ho hs0 hs1)
    unfold btA btV
    have e0 : btEE bs a 0 s = btE bs a s := if_pos rfl
    rw [e0]
    clear e0 h hs0 hs1
    generalize Pl.rdA bs a 0 (wid s) = a1 at *
    generalize Pl.rdV bs a 0 (wid s) = V at *
    generalize btE bs a s = E1 at *
    by_cases h1 : E1 = 0
    · simp only [if_pos h1]
      have d1 : decide (E1 = 0) = true := by simp [h1]
      go_enter Try.func73, Try.ntmps73
      go_wp2_with (fail)
      obtain ⟨W, hW⟩ : ∃ W, ((w.alloc (.cells #[.pointer (some ⟨P, 0, none⟩)] 80)).alloc (.cells #[.int .u64 s] 49)).alloc (.cells #[.int .u64 0] 49) = W := ⟨_, rfl⟩
      obtain ⟨hsz, b3, c0, c1, c2, f2⟩ := three w _ _ _ _ _ _ W hW
      rw [hW]
      clear hW
      have b3 := hide b3
      have HW := hide (H.out.below b3.out)
      have U0 := hide (Upd.of_below (p := P) (g := some q) b3.out)
      have hP := H.out.lt
      have hkF : ∀ o, Calls Try.prog 103 #[.pointer (some ⟨w.heap.size, 0, none⟩), .pointer (some ⟨w.heap.size + 1, 0, none⟩), .pointer (some ⟨w.heap.size + 1 + 1, 0, none⟩)] (W.alloc o) (InBack P q D bs em W.heap.size (W.alloc o) (CloEnd w P q (w.heap.size + 1 + 1) a1 E1 V)) := by
        intro o
        have ba := (Below.refl W.heap.size W).alloc (Nat.le_refl _) o
        refine (KC.out _ _ _ _ (HW.out.below ba) ((ba.cell (lt_cell c0)).trans c0) ((ba.cell (lt_cell c1)).trans c1) ((ba.cell (lt_cell c2)).trans c2) ((ba.frozen (lt_cell c2)).trans f2) ⟨hP, by omega, by omega, by omega, by omega⟩).mono fun e w2 hh => clo_in hh U0.out (by omega) (lt_cell c2) (by omega) HW.out
      clear c0 c1 c2 f2 hsz
      refine (wrBack_any P q bs a em _ _ W HW.out (CloEnd w P q (w.heap.size + 1 + 1) a1 E1 V) (fun _ => by kernel_rfl) hkF).mono ?_
      rintro e w4 ⟨a', E', w2, rfl, ⟨rfl, rfl, hc, hu2⟩, hw4, hu4⟩
      have hc4 := (hu4.cell (a := ⟨w.heap.size + 1 + 1, 0, none⟩) (lt_cell hc) (by simp only; omega) (by have := HW.out.qp; simp only [ne_eq, Option.some.injEq]; omega)).trans hc
      have R4 := hide hw4
      have U4 := hide (hu2.trans (Mv.refl _ _) hu4)
      clear hw4 hu4 hu2 hkF hc
      simp only [d1]
      go_wp2
      go_ret
      exact ⟨rfl, by simpa [h1] using R4.out, U4.out⟩
    · simp only [if_neg h1]
      have d1 : decide (E1 = 0) = false := by simp [h1]
      go_enter Try.func73, Try.ntmps73
      go_wp2_with (fail)
      obtain ⟨W, hW⟩ : ∃ W, ((w.alloc (.cells #[.pointer (some ⟨P, 0, none⟩)] 80)).alloc (.cells #[.int .u64 s] 49)).alloc (.cells #[.int .u64 0] 49) = W := ⟨_, rfl⟩
      obtain ⟨hsz, b3, c0, c1, c2, f2⟩ := three w _ _ _ _ _ _ W hW
      rw [hW]
      clear hW
      have b3 := hide b3
      have HW := hide (H.out.below b3.out)
      have U0 := hide (Upd.of_below (p := P) (g := some q) b3.out)
      have hP := H.out.lt
      have hkF : ∀ o, Calls Try.prog 103 #[.pointer (some ⟨w.heap.size, 0, none⟩), .pointer (some ⟨w.heap.size + 1, 0, none⟩), .pointer (some ⟨w.heap.size + 1 + 1, 0, none⟩)] (W.alloc o) (InBack P q D bs em W.heap.size (W.alloc o) (CloEnd w P q (w.heap.size + 1 + 1) a1 E1 V)) := by
        intro o
        have ba := (Below.refl W.heap.size W).alloc (Nat.le_refl _) o
        refine (KC.out _ _ _ _ (HW.out.below ba) ((ba.cell (lt_cell c0)).trans c0) ((ba.cell (lt_cell c1)).trans c1) ((ba.cell (lt_cell c2)).trans c2) ((ba.frozen (lt_cell c2)).trans f2) ⟨hP, by omega, by omega, by omega, by omega⟩).mono fun e w2 hh => clo_in hh U0.out (by omega) (lt_cell c2) (by omega) HW.out
      clear c0 c1 c2 f2 hsz
      refine (wrBack_any P q bs a em _ _ W HW.out (CloEnd w P q (w.heap.size + 1 + 1) a1 E1 V) (fun _ => by kernel_rfl) hkF).mono ?_
      rintro e w4 ⟨a', E', w2, rfl, ⟨rfl, rfl, hc, hu2⟩, hw4, hu4⟩
      have R4 := hide hw4
      have U4 := hide (hu2.trans (Mv.refl _ _) hu4)
      clear hw4 hu4 hu2 hkF hc
      simp only [d1]
      go_wp2
      go_ret
      exact ⟨rfl, by simpa [h1] using R4.out, U4.out⟩
  · have e0 : btEE bs a E s = E := if_neg hE
    have e1 : btA bs a E s = a := by unfold btA; rw [e0, if_neg hE]
    have e2 : btV bs a E s = 0 := by unfold btV; rw [e0, if_neg hE]
    rw [e0, e1, e2]
    have HE := hide hE
    clear e0 e1 e2 h hE hs0 hs1
    go_enter Try.func73, Try.ntmps73
    go_wp2_with (fail)
    obtain ⟨W, hW⟩ : ∃ W, ((w.alloc (.cells #[.pointer (some ⟨P, 0, none⟩)] 80)).alloc (.cells #[.int .u64 s] 49)).alloc (.cells #[.int .u64 0] 49) = W := ⟨_, rfl⟩
    have b3 := (three w _ _ _ _ _ _ W hW).2.1
    rw [hW]
    clear hW
    refine (wrBack_err P q bs a E em _ _ (H.out.below b3) HE.out).mono ?_
    rintro e w' ⟨rfl, rfl⟩
    go_wp2
    go_ret
    exact ⟨rfl, H.out.below b3, .of_below b3⟩

/-- A number that is not small: the place, the fault, the value. -/
def grt (bs : List UInt8) (a : Nat) (E : Int) : Nat × Int × Int :=
  if Pl.rdV bs a E 8 < 1 ∨ 8 < Pl.rdV bs a E 8 then (Pl.rdA bs a E 8, failE (Pl.rdE bs a E (8 : Nat)) 4, 0)
  else
    (Pl.rdA bs (Pl.rdA bs a E 8) (Pl.rdE bs a E (8 : Nat)) (8 * (Pl.rdV bs a E 8).toNat),
     if takeUE (Pl.rdO bs (Pl.rdA bs a E 8) (Pl.rdE bs a E (8 : Nat)) (Pl.rdV bs a E 8).toNat) ≠ 0 ∨ takeUV (Pl.rdO bs (Pl.rdA bs a E 8) (Pl.rdE bs a E (8 : Nat)) (Pl.rdV bs a E 8).toNat) < 64 ∨ 10000 < takeUV (Pl.rdO bs (Pl.rdA bs a E 8) (Pl.rdE bs a E (8 : Nat)) (Pl.rdV bs a E 8).toNat)
     then failE (Pl.rdE bs (Pl.rdA bs a E 8) (Pl.rdE bs a E (8 : Nat)) ((8 * (Pl.rdV bs a E 8).toNat : Nat) : Int)) 4
     else Pl.rdE bs (Pl.rdA bs a E 8) (Pl.rdE bs a E (8 : Nat)) ((8 * (Pl.rdV bs a E 8).toNat : Nat) : Int),
     takeUV (Pl.rdO bs (Pl.rdA bs a E 8) (Pl.rdE bs a E (8 : Nat)) (Pl.rdV bs a E 8).toNat))
theorem rdV_bd (bs : List UInt8) (a : Nat) (E : Int) (m : Nat) : 0 ≤ Pl.rdV bs a E m ∧ Pl.rdV bs a E m < 2 ^ m := by
  have hb := Pl.num_bd (Pl.bitsAt bs a m)
  rw [Pl.bitsAt_length] at hb
  have hp : (0 : Int) < 2 ^ m := Int.pow_pos (by omega)
  unfold Pl.rdV
  split
  · exact hb
  · exact ⟨Int.le_refl _, hp⟩

set_option maxRecDepth 100000 in
set_option maxHeartbeats 1600000 in
theorem wdGreat_any (P q : Nat) (bs : List UInt8) (a : Nat) (E : Int) (em : Bool) (w : World) (h : Wd w P q D bs a E em) :
    Calls Try.prog 106 #[.pointer (some ⟨P, 0, none⟩)] w (WdPost w P q D bs (grt bs a E).1 (grt bs a E).2.1 em (.int .u64 (grt bs a E).2.2)) := by
  have kB := wdBits_any P q bs a E 8 em w h
  rw [show cl64 8 = 8 by rfl] at kB
  have hv := rdV_bd bs a E 8
  rw [show ((2 : Int) ^ 8) = 256 by rfl] at hv
  have kF := hide (fun a E W h => wdFail_any (D := D) P q bs a E 4 em W h)
  have kO := hide (fun a E W (n : Int) h hn => wdOcts_any (D := D) P q bs a E n em W h hn)
  have KB := hide kB
  unfold grt
  clear h kB
  generalize Pl.rdA bs a E 8 = a1 at *
  generalize Pl.rdE bs a E (8 : Nat) = E1 at *
  generalize Pl.rdV bs a E 8 = V at *
  have hw : IntKind.i64.wrap V = V := IntWalk.i64_in _ ⟨by omega, by omega⟩
  by_cases hr : V < 1 ∨ 8 < V
  · rw [if_pos hr]
    have hr2 : V < 1 ∨ (¬ V < 1 ∧ V > 8) := by omega
    clear hr hv
    rcases hr2 with hr | ⟨hr, hr3⟩
    all_goals
      go_enter Try.func106, Try.ntmps106
      go_wp2_with (fail)
      refine KB.out.mono ?_
      rintro e w1 ⟨rfl, hr1, hu1⟩
      have R1 := hide hr1
      have U1 := hide hu1
      clear hr1 hu1
      go_wp2_with (fail)
      refine (kF.out _ _ _ R1.out).mono ?_
      rintro e w2 ⟨rfl, hr2, hu2⟩
      have R2 := hide hr2
      have U2 := hide (U1.out.trans (Mv.refl _ _) hu2)
      clear hr2 hu2
      go_wp2
      go_ret
      exact ⟨rfl, R2.out, U2.out⟩
  · rw [if_neg hr]
    obtain ⟨n, rfl⟩ : ∃ n : Nat, V = (n : Int) := ⟨V.toNat, by omega⟩
    have hn1 : ¬ (n : Int) < 1 := by omega
    have hn8 : ¬ (n : Int) > 8 := by omega
    have KO := hide (fun W h => kO.out a1 E1 W (n : Int) h (by omega))
    rw [show clOct (n : Int) = n by unfold clOct; omega] at KO
    simp only [Int.toNat_natCast]
    clear hr hv kO
    generalize Pl.rdA bs a1 E1 (8 * n) = a2 at *
    generalize Pl.rdE bs a1 E1 ((8 * n : Nat) : Int) = E2 at *
    generalize Pl.rdO bs a1 E1 n = l at *
    have kT := hide (fun A n c W h => takeUnsigned_any A n c l W h)
    generalize takeUV l = tv at *
    generalize takeUE l = te at *
    by_cases h1 : te = 0
    · subst h1
      by_cases h2 : tv < 64
      · rw [if_pos (Or.inr (Or.inl h2))]
        go_enter Try.func106, Try.ntmps106
        go_wp2_with (fail)
        refine KB.out.mono ?_
        rintro e w1 ⟨rfl, hr1, hu1⟩
        have R1 := hide hr1
        have U1 := hide hu1
        clear hr1 hu1
        go_wp2_with (fail)
        refine (KO.out _ R1.out).mono ?_
        rintro e w2 ⟨A2, n2, c2, rfl, hr2, hu2, ho2⟩
        have R2 := hide hr2
        have U2 := hide (U1.out.trans (Mv.refl _ _) hu2)
        have T2 := hide (kT.out _ _ _ _ (Rd.of_own ho2))
        clear hr2 hu2 ho2
        go_wp2_with (fail)
        refine T2.out.mono ?_
        rintro e w3 ⟨rfl, rfl⟩
        go_wp2_with (fail)
        refine (kF.out _ _ _ R2.out).mono ?_
        rintro e w4 ⟨rfl, hr4, hu4⟩
        have R4 := hide hr4
        have U4 := hide (U2.out.trans (Mv.refl _ _) hu4)
        clear hr4 hu4
        go_wp2
        go_ret
        exact ⟨rfl, R4.out, U4.out⟩
      · by_cases h3 : tv > 10000
        · rw [if_pos (Or.inr (Or.inr h3))]
          go_enter Try.func106, Try.ntmps106
          go_wp2_with (fail)
          refine KB.out.mono ?_
          rintro e w1 ⟨rfl, hr1, hu1⟩
          have R1 := hide hr1
          have U1 := hide hu1
          clear hr1 hu1
          go_wp2_with (fail)
          refine (KO.out _ R1.out).mono ?_
          rintro e w2 ⟨A2, n2, c2, rfl, hr2, hu2, ho2⟩
          have R2 := hide hr2
          have U2 := hide (U1.out.trans (Mv.refl _ _) hu2)
          have T2 := hide (kT.out _ _ _ _ (Rd.of_own ho2))
          clear hr2 hu2 ho2
          go_wp2_with (fail)
          refine T2.out.mono ?_
          rintro e w3 ⟨rfl, rfl⟩
          go_wp2_with (fail)
          refine (kF.out _ _ _ R2.out).mono ?_
          rintro e w4 ⟨rfl, hr4, hu4⟩
          have R4 := hide hr4
          have U4 := hide (U2.out.trans (Mv.refl _ _) hu4)
          clear hr4 hu4
          go_wp2
          go_ret
          exact ⟨rfl, R4.out, U4.out⟩
        · rw [if_neg (by omega)]
          go_enter Try.func106, Try.ntmps106
          go_wp2_with (fail)
          refine KB.out.mono ?_
          rintro e w1 ⟨rfl, hr1, hu1⟩
          have R1 := hide hr1
          have U1 := hide hu1
          clear hr1 hu1
          go_wp2_with (fail)
          refine (KO.out _ R1.out).mono ?_
          rintro e w2 ⟨A2, n2, c2, rfl, hr2, hu2, ho2⟩
          have R2 := hide hr2
          have U2 := hide (U1.out.trans (Mv.refl _ _) hu2)
          have T2 := hide (kT.out _ _ _ _ (Rd.of_own ho2))
          clear hr2 hu2 ho2
          go_wp2_with (fail)
          refine T2.out.mono ?_
          rintro e w3 ⟨rfl, rfl⟩
          go_wp2
          go_ret
          exact ⟨rfl, R2.out, U2.out⟩
    · rw [if_pos (Or.inl h1)]
      have t1 : (te != 0) = true := by simp [h1]
      clear h1
      go_enter Try.func106, Try.ntmps106
      go_wp2_with (fail)
      refine KB.out.mono ?_
      rintro e w1 ⟨rfl, hr1, hu1⟩
      have R1 := hide hr1
      have U1 := hide hu1
      clear hr1 hu1
      go_wp2_with (fail)
      refine (KO.out _ R1.out).mono ?_
      rintro e w2 ⟨A2, n2, c2, rfl, hr2, hu2, ho2⟩
      have R2 := hide hr2
      have U2 := hide (U1.out.trans (Mv.refl _ _) hu2)
      have T2 := hide (kT.out _ _ _ _ (Rd.of_own ho2))
      clear hr2 hu2 ho2
      go_wp2_with (fail)
      refine T2.out.mono ?_
      rintro e w3 ⟨rfl, rfl⟩
      go_wp2_with (fail)
      refine (kF.out _ _ _ R2.out).mono ?_
      rintro e w4 ⟨rfl, hr4, hu4⟩
      have R4 := hide hr4
      have U4 := hide (U2.out.trans (Mv.refl _ _) hu4)
      clear hr4 hu4
      go_wp2
      go_ret
      exact ⟨rfl, R4.out, U4.out⟩

/-- What the closure of Small leaves. -/
def sml (bs : List UInt8) (a : Nat) : Nat × Int × Int :=
  if Pl.rdV bs a 0 1 = 0 then
    (Pl.rdA bs (Pl.rdA bs a 0 1) (Pl.rdE bs a 0 (1 : Nat)) 6, Pl.rdE bs (Pl.rdA bs a 0 1) (Pl.rdE bs a 0 (1 : Nat)) (6 : Nat), Pl.rdV bs (Pl.rdA bs a 0 1) (Pl.rdE bs a 0 (1 : Nat)) 6)
  else grt bs (Pl.rdA bs a 0 1) (Pl.rdE bs a 0 (1 : Nat))
def smE (bs : List UInt8) (a : Nat) (E : Int) : Int := if E = 0 then (sml bs a).2.1 else E
def smA (bs : List UInt8) (a : Nat) (E : Int) : Nat := if smE bs a E = 0 then (sml bs a).1 else a
def smV (bs : List UInt8) (a : Nat) (E : Int) : Int := if smE bs a E = 0 then wrap64 (sml bs a).2.2 else 0

def SmK (b0 b2 P : Nat) (v0 : Int) (w : World) : Prop :=
  w.cell? ⟨b0, 0, none⟩ = some (.pointer (some ⟨P, 0, none⟩)) ∧ w.cell? ⟨b2, 0, none⟩ = some (.int .u64 v0) ∧ w.frozen? ⟨b2, 0, none⟩ = false
theorem SmK.upd {b0 b2 P q : Nat} {v0 : Int} {w w' : World} (h : SmK b0 b2 P v0 w) (u : Upd P (some q) w w') (ho : P < b0 ∧ P < b2 ∧ b0 ≠ b2) (hq : q < P) : SmK b0 b2 P v0 w' := by
  obtain ⟨c0, c2, f2⟩ := h
  have l2 := lt_cell c2
  exact ⟨(u.cell (a := ⟨b0, 0, none⟩) (lt_cell c0) (by simp only; omega) (by simp only [ne_eq, Option.some.injEq]; omega)).trans c0, (u.cell (a := ⟨b2, 0, none⟩) l2 (by simp only; omega) (by simp only [ne_eq, Option.some.injEq]; omega)).trans c2, (u.frozen (a := ⟨b2, 0, none⟩) l2 (by simp only; omega) (by simp only [ne_eq, Option.some.injEq]; omega)).trans f2⟩

set_option maxRecDepth 100000 in
set_option maxHeartbeats 1600000 in
theorem smlC_any (P q : Nat) (bs : List UInt8) (a : Nat) (em : Bool) (v0 : Int) (b0 b2 : Nat) (w : World) (h : Wd w P q D bs a 0 em) (c0 : w.cell? ⟨b0, 0, none⟩ = some (.pointer (some ⟨P, 0, none⟩))) (c2 : w.cell? ⟨b2, 0, none⟩ = some (.int .u64 v0)) (f2 : w.frozen? ⟨b2, 0, none⟩ = false) (ho : P < b0 ∧ P < b2 ∧ b0 ≠ b2) :
    Calls Try.prog 105 #[.pointer (some ⟨b0, 0, none⟩), .pointer (some ⟨b2, 0, none⟩)] w (CloPost w P q D bs b2 (sml bs a).1 (sml bs a).2.1 em (sml bs a).2.2) := by
  have kB := hide (fun n a E W h => wdBits_any (D := D) P q bs a E n em W h)
  have kG := hide (fun a E W h => wdGreat_any (D := D) P q bs a E em W h)
  have K0 := hide (fun w' (u : Upd P (some q) w w') => SmK.upd (q := q) (show SmK b0 b2 P v0 w from ⟨c0, c2, f2⟩) u)
  have HO := hide ho
  have HQ := hide h.qp
  have K1 := hide (kB.out 1 a 0 w h)
  unfold sml
  rw [show cl64 1 = 1 by rfl] at K1
  clear h ho
  generalize Pl.rdA bs a 0 1 = a1 at *
  generalize Pl.rdE bs a 0 (1 : Nat) = E1 at *
  generalize Pl.rdV bs a 0 1 = V1 at *
  by_cases hV : V1 = 0
  · subst hV
    rw [if_pos rfl]
    have K6 := hide (fun W h => kB.out 6 a1 E1 W h)
    rw [show cl64 6 = 6 by rfl] at K6
    clear kB
    generalize Pl.rdA bs a1 E1 6 = a2 at *
    generalize Pl.rdE bs a1 E1 (6 : Nat) = E2 at *
    generalize Pl.rdV bs a1 E1 6 = V2 at *
    go_enter Try.func105, Try.ntmps105
    go_wp2_with (fail)
    refine K1.out.mono ?_
    rintro e w1 ⟨rfl, hr1, hu1⟩
    have R1 := hide hr1
    have U1 := hide hu1
    have S1 := hide (K0.out _ hu1 HO.out HQ.out)
    obtain ⟨x0, x2, x3⟩ := K0.out _ hu1 HO.out HQ.out
    clear hr1 hu1
    go_wp2_with (fail)
    refine (K6.out _ R1.out).mono ?_
    rintro e w2 ⟨rfl, hr2, hu2⟩
    have R2 := hide hr2
    have U2 := hide (U1.out.trans (Mv.refl _ _) hu2)
    obtain ⟨y0, y2, y3⟩ := S1.out.upd hu2 HO.out HQ.out
    clear hr2 hu2 x0 x2 x3
    go_wp2
    refine bodyPost_end (results_none rfl _ _ _) rfl ?_
    exact ⟨rfl, R2.out.setb HO.out.2.1 _, (Up3.of U2.out).trans (Up3.set P q b2 _ _), World.cell?_setCell_same _ _ _ y2⟩
  · rw [if_neg hV]
    have hV2 : (V1 == 0) = false := by simp [hV]
    have K6 := hide (fun W h => kG.out a1 E1 W h)
    clear kB hV kG
    generalize (grt bs a1 E1).1 = a2 at *
    generalize (grt bs a1 E1).2.1 = E2 at *
    generalize (grt bs a1 E1).2.2 = V2 at *
    go_enter Try.func105, Try.ntmps105
    go_wp2_with (fail)
    refine K1.out.mono ?_
    rintro e w1 ⟨rfl, hr1, hu1⟩
    have R1 := hide hr1
    have U1 := hide hu1
    have S1 := hide (K0.out _ hu1 HO.out HQ.out)
    obtain ⟨x0, x2, x3⟩ := K0.out _ hu1 HO.out HQ.out
    clear hr1 hu1
    go_wp2_with (fail)
    refine (K6.out _ R1.out).mono ?_
    rintro e w2 ⟨rfl, hr2, hu2⟩
    have R2 := hide hr2
    have U2 := hide (U1.out.trans (Mv.refl _ _) hu2)
    obtain ⟨y0, y2, y3⟩ := S1.out.upd hu2 HO.out HQ.out
    clear hr2 hu2 x0 x2 x3
    go_wp2
    refine bodyPost_end (results_none rfl _ _ _) rfl ?_
    exact ⟨rfl, R2.out.setb HO.out.2.1 _, (Up3.of U2.out).trans (Up3.set P q b2 _ _), World.cell?_setCell_same _ _ _ y2⟩

/-- Two variables made one behind the other. -/
theorem two (w : World) (v0 v1 : Value) (t0 t1 : Nat) (W : World) (hW : (w.alloc (.cells #[v0] t0)).alloc (.cells #[v1] t1) = W) :
    W.heap.size = w.heap.size + 2 ∧ Below w.heap.size w W ∧ W.cell? ⟨w.heap.size, 0, none⟩ = some v0 ∧ W.cell? ⟨w.heap.size + 1, 0, none⟩ = some v1 ∧ W.frozen? ⟨w.heap.size + 1, 0, none⟩ = false := by
  have e1 := size_alloc w (.cells #[v0] t0)
  have k0 : (w.alloc (.cells #[v0] t0)).cell? ⟨w.heap.size, 0, none⟩ = some v0 := cell_new rfl rfl
  have b0 : Below w.heap.size w (w.alloc (.cells #[v0] t0)) := (Below.refl _ _).alloc (Nat.le_refl _) _
  generalize w.alloc (.cells #[v0] t0) = w1 at *
  have e2 := size_alloc w1 (.cells #[v1] t1)
  have k1 : (w1.alloc (.cells #[v1] t1)).cell? ⟨w1.heap.size, 0, none⟩ = some v1 := cell_new rfl rfl
  have f1 : (w1.alloc (.cells #[v1] t1)).frozen? ⟨w1.heap.size, 0, none⟩ = false := by simp
  have b1 : Below w1.heap.size w1 (w1.alloc (.cells #[v1] t1)) := (Below.refl _ _).alloc (Nat.le_refl _) _
  generalize w1.alloc (.cells #[v1] t1) = w2 at *
  subst hW
  rw [e1] at k1 f1
  exact ⟨by omega, b0.trans (b1.mono (by omega)), (b1.cell (by simp only; omega)).trans k0, k1, f1⟩

set_option maxRecDepth 100000 in
set_option maxHeartbeats 1600000 in
theorem wdSmall_any (P q : Nat) (bs : List UInt8) (a : Nat) (E : Int) (em : Bool) (w : World) (h : Wd w P q D bs a E em) :
    Calls Try.prog 75 #[.pointer (some ⟨P, 0, none⟩)] w (WdPost w P q D bs (smA bs a E) (smE bs a E) em (.int .i64 (smV bs a E))) := by
  have H := hide h
  by_cases hE : E = 0
  · subst hE
    have KC := hide (fun b0 b2 W h c0 c2 f2 ho => smlC_any (D := D) P q bs a em 0 b0 b2 W h c0 c2 f2 ho)
    unfold smA smV
    have e0 : smE bs a 0 = (sml bs a).2.1 := if_pos rfl
    rw [e0]
    clear e0 h
    generalize (sml bs a).1 = a1 at *
    generalize (sml bs a).2.2 = V at *
    generalize (sml bs a).2.1 = E1 at *
    by_cases h1 : E1 = 0
    · simp only [if_pos h1]
      have d1 : decide (E1 = 0) = true := by simp [h1]
      go_enter Try.func75, Try.ntmps75
      go_wp2_with (fail)
      obtain ⟨W, hW⟩ : ∃ W, (w.alloc (.cells #[.pointer (some ⟨P, 0, none⟩)] 80)).alloc (.cells #[.int .u64 0] 49) = W := ⟨_, rfl⟩
      obtain ⟨hsz, b3, c0, c2, f2⟩ := two w _ _ _ _ W hW
      rw [hW]
      clear hW
      have b3 := hide b3
      have HW := hide (H.out.below b3.out)
      have U0 := hide (Upd.of_below (p := P) (g := some q) b3.out)
      have hP := H.out.lt
      have hkF : ∀ o, Calls Try.prog 105 #[.pointer (some ⟨w.heap.size, 0, none⟩), .pointer (some ⟨w.heap.size + 1, 0, none⟩)] (W.alloc o) (InBack P q D bs em W.heap.size (W.alloc o) (CloEnd w P q (w.heap.size + 1) a1 E1 V)) := by
        intro o
        have ba := (Below.refl W.heap.size W).alloc (Nat.le_refl _) o
        refine (KC.out _ _ _ (HW.out.below ba) ((ba.cell (lt_cell c0)).trans c0) ((ba.cell (lt_cell c2)).trans c2) ((ba.frozen (lt_cell c2)).trans f2) ⟨hP, by omega, by omega⟩).mono fun e w2 hh => clo_in hh U0.out (by omega) (lt_cell c2) (by omega) HW.out
      clear c0 c2 f2 hsz
      refine (wrBack_any P q bs a em _ _ W HW.out (CloEnd w P q (w.heap.size + 1) a1 E1 V) (fun _ => by kernel_rfl) hkF).mono ?_
      rintro e w4 ⟨a', E', w2, rfl, ⟨rfl, rfl, hc, hu2⟩, hw4, hu4⟩
      have hc4 := (hu4.cell (a := ⟨w.heap.size + 1, 0, none⟩) (lt_cell hc) (by simp only; omega) (by have := HW.out.qp; simp only [ne_eq, Option.some.injEq]; omega)).trans hc
      have R4 := hide hw4
      have U4 := hide (hu2.trans (Mv.refl _ _) hu4)
      clear hw4 hu4 hu2 hkF hc
      simp only [d1]
      go_wp2
      go_ret
      exact ⟨rfl, by simpa [h1] using R4.out, U4.out⟩
    · simp only [if_neg h1]
      have d1 : decide (E1 = 0) = false := by simp [h1]
      go_enter Try.func75, Try.ntmps75
      go_wp2_with (fail)
      obtain ⟨W, hW⟩ : ∃ W, (w.alloc (.cells #[.pointer (some ⟨P, 0, none⟩)] 80)).alloc (.cells #[.int .u64 0] 49) = W := ⟨_, rfl⟩
      obtain ⟨hsz, b3, c0, c2, f2⟩ := two w _ _ _ _ W hW
      rw [hW]
      clear hW
      have b3 := hide b3
      have HW := hide (H.out.below b3.out)
      have U0 := hide (Upd.of_below (p := P) (g := some q) b3.out)
      have hP := H.out.lt
      have hkF : ∀ o, Calls Try.prog 105 #[.pointer (some ⟨w.heap.size, 0, none⟩), .pointer (some ⟨w.heap.size + 1, 0, none⟩)] (W.alloc o) (InBack P q D bs em W.heap.size (W.alloc o) (CloEnd w P q (w.heap.size + 1) a1 E1 V)) := by
        intro o
        have ba := (Below.refl W.heap.size W).alloc (Nat.le_refl _) o
        refine (KC.out _ _ _ (HW.out.below ba) ((ba.cell (lt_cell c0)).trans c0) ((ba.cell (lt_cell c2)).trans c2) ((ba.frozen (lt_cell c2)).trans f2) ⟨hP, by omega, by omega⟩).mono fun e w2 hh => clo_in hh U0.out (by omega) (lt_cell c2) (by omega) HW.out
      clear c0 c2 f2 hsz
      refine (wrBack_any P q bs a em _ _ W HW.out (CloEnd w P q (w.heap.size + 1) a1 E1 V) (fun _ => by kernel_rfl) hkF).mono ?_
      rintro e w4 ⟨a', E', w2, rfl, ⟨rfl, rfl, hc, hu2⟩, hw4, hu4⟩
      have R4 := hide hw4
      have U4 := hide (hu2.trans (Mv.refl _ _) hu4)
      clear hw4 hu4 hu2 hkF hc
      simp only [d1]
      go_wp2
      go_ret
      exact ⟨rfl, by simpa [h1] using R4.out, U4.out⟩
  · have e0 : smE bs a E = E := if_neg hE
    have e1 : smA bs a E = a := by unfold smA; rw [e0, if_neg hE]
    have e2 : smV bs a E = 0 := by unfold smV; rw [e0, if_neg hE]
    rw [e0, e1, e2]
    have HE := hide hE
    clear e0 e1 e2 h hE
    go_enter Try.func75, Try.ntmps75
    go_wp2_with (fail)
    obtain ⟨W, hW⟩ : ∃ W, (w.alloc (.cells #[.pointer (some ⟨P, 0, none⟩)] 80)).alloc (.cells #[.int .u64 0] 49) = W := ⟨_, rfl⟩
    have b3 := (two w _ _ _ _ W hW).2.1
    rw [hW]
    clear hW
    refine (wrBack_err P q bs a E em _ _ (H.out.below b3) HE.out).mono ?_
    rintro e w' ⟨rfl, rfl⟩
    go_wp2
    go_ret
    exact ⟨rfl, H.out.below b3, .of_below b3⟩
end Go.Proofs.Ytikfogepdmpfaaa
