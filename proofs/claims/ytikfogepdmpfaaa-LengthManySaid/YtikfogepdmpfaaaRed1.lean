import Derived.Test.YtikfogepdmpfaaaBit8
import Derived.Test.YtikfogepdmpfaaaPlRead
import Derived.Deep.QuietTactic
import Derived.BigQuiet
namespace Go.Proofs.Ytikfogepdmpfaaa
open Go.RowKit
variable {D : Nat → Prop}

/-- A place in octets, at block p. -/
def Pp (w : World) (p : Nat) (D : Nat → Prop) (bs : List UInt8) (a : Nat) : Prop :=
  ∃ A n c, w.cell? ⟨p, 0, none⟩ = some (.slice A n c) ∧ w.cell? ⟨p, 1, none⟩ = some (.int .i64 (a : Int)) ∧ w.frozen? ⟨p, 0, none⟩ = false ∧ w.frozen? ⟨p, 1, none⟩ = false ∧ Rd w A n c (bv bs) ∧ ((∀ b, D b → b < p) ∧ ∀ b o s, A = some ⟨b, o, s⟩ → 0 < n → D b) ∧ a ≤ 8 * bs.length ∧ bs.length ≤ 1099511627776
/-- A reader, at block p. -/
def Rr (w : World) (p : Nat) (D : Nat → Prop) (bs : List UInt8) (a : Nat) (e : Int) : Prop :=
  Pp w p D bs a ∧ w.cell? ⟨p, 2, none⟩ = some (.int .i64 e) ∧ w.frozen? ⟨p, 2, none⟩ = false
/-- The cells behind a place stay. -/
def Tail2 (p : Nat) (w w' : World) : Prop := ∀ j, 2 ≤ j → w'.cell? ⟨p, j, none⟩ = w.cell? ⟨p, j, none⟩ ∧ w'.frozen? ⟨p, j, none⟩ = w.frozen? ⟨p, j, none⟩

theorem off_lo {p n : Nat} {g : Option Nat} {A : Option Addr} (h : ∀ b o s, A = some ⟨b, o, s⟩ → 0 < n → D b) (hp : ¬ D p) (hg : ∀ k, g = some k → ¬ D k) : Off p g A n := fun hn b o s e => by
  have := h b o s e hn
  exact ⟨fun e => hp (e ▸ this), fun e => hg b e.symm this⟩

section
variable {w w' w'' : World} {p : Nat} {bs : List UInt8} {a : Nat} {e : Int}
theorem Tail2.refl (p : Nat) (w : World) : Tail2 p w w := fun _ _ => ⟨rfl, rfl⟩
theorem Tail2.trans (h : Tail2 p w w') (k : Tail2 p w' w'') : Tail2 p w w'' := fun j hj => ⟨(k j hj).1.trans (h j hj).1, (k j hj).2.trans (h j hj).2⟩
theorem Pp.lt (h : Pp w p D bs a) : p < w.heap.size := by
  obtain ⟨A, n, c, h0, _⟩ := h
  exact lt_cell h0
theorem Pp.inb (h : Pp w p D bs a) : a ≤ 8 * bs.length ∧ bs.length ≤ 1099511627776 := by
  obtain ⟨A, n, c, _, _, _, _, _, _, h⟩ := h
  exact h
theorem Rr.lt (h : Rr w p D bs a e) : p < w.heap.size := h.1.lt
theorem Rr.inb (h : Rr w p D bs a e) : a ≤ 8 * bs.length ∧ bs.length ≤ 1099511627776 := h.1.inb
theorem Pp.drewN (h : Pp w p D bs a) (q : Nat) : Pp (w.drewN q) p D bs a := h
theorem Rr.drewN (h : Rr w p D bs a e) (q : Nat) : Rr (w.drewN q) p D bs a e := h
theorem Pp.keep (h : Pp w p D bs a) (hk : ∀ q : Addr, q.block < w.heap.size → w'.cell? q = w.cell? q) (hf : ∀ q : Addr, q.block < w.heap.size → w'.frozen? q = w.frozen? q) : Pp w' p D bs a := by
  have hp := h.lt
  obtain ⟨A, n, c, h0, h1, f0, f1, hr, ho, hb⟩ := h
  exact ⟨A, n, c, (hk _ hp).trans h0, (hk _ hp).trans h1, (hf _ hp).trans f0, (hf _ hp).trans f1, hr.keep hk, ho, hb⟩
theorem Rr.keep (h : Rr w p D bs a e) (hk : ∀ q : Addr, q.block < w.heap.size → w'.cell? q = w.cell? q) (hf : ∀ q : Addr, q.block < w.heap.size → w'.frozen? q = w.frozen? q) : Rr w' p D bs a e :=
  ⟨h.1.keep hk hf, (hk _ h.lt).trans h.2.1, (hf _ h.lt).trans h.2.2⟩
theorem Pp.below (h : Pp w p D bs a) (hb : Below w.heap.size w w') : Pp w' p D bs a := h.keep (fun _ hq => hb.cell hq) (fun _ hq => hb.frozen hq)
theorem Rr.below (h : Rr w p D bs a e) (hb : Below w.heap.size w w') : Rr w' p D bs a e := h.keep (fun _ hq => hb.cell hq) (fun _ hq => hb.frozen hq)
theorem Rr.tail (h : Rr w p D bs a e) {a' : Nat} (hp : Pp w' p D bs a') (t : Tail2 p w w') : Rr w' p D bs a' e := ⟨hp, (t 2 (by omega)).1.trans h.2.1, (t 2 (by omega)).2.trans h.2.2⟩
/-- Other blocks are written: this one stays, if they are behind its octets. -/
theorem Rr.upd {p2 : Nat} {g2 : Option Nat} (h : Rr w p D bs a e) (u : Upd p2 g2 w w') (h1 : p ≠ p2) (h2 : some p ≠ g2) (h3 : ¬ D p2) (h4 : ∀ k, g2 = some k → ¬ D k) : Rr w' p D bs a e := by
  have hp := h.lt
  have hk : ∀ j, w'.cell? ⟨p, j, none⟩ = w.cell? ⟨p, j, none⟩ := fun j => u.cell (a := ⟨p, j, none⟩) hp h1 h2
  have hf : ∀ j, w'.frozen? ⟨p, j, none⟩ = w.frozen? ⟨p, j, none⟩ := fun j => u.frozen (a := ⟨p, j, none⟩) hp h1 h2
  obtain ⟨⟨A, n, c, h0, h1', f0, f1, hr, ho, hb⟩, c2, f2⟩ := h
  exact ⟨⟨A, n, c, (hk 0).trans h0, (hk 1).trans h1', (hf 0).trans f0, (hf 1).trans f1, hr.upd u (off_lo ho.2 h3 h4), ho, hb⟩, (hk 2).trans c2, (hf 2).trans f2⟩
theorem Rr.grown {r : Option Nat} (h : Rr w p D bs a e) (k : w.grownBy w' r) (h2 : some p ≠ r) (h4 : ∀ j, r = some j → ¬ D j) : Rr w' p D bs a e := by
  rcases r with _ | j
  · exact h.below ⟨k.os, k.tape, k.output, k.size, fun i hi => k.block i hi (by simp)⟩
  · exact h.upd (p2 := j) (g2 := none) ⟨k.os, k.tape, k.output, k.size, fun i hi h1 _ => k.block i hi (fun e => by cases e; exact h1 rfl)⟩ (fun e => h2 (by rw [e])) (by simp) (h4 j rfl) (fun _ e => by cases e)
theorem Rr.dlt (h : Rr w p D bs a e) : ∀ b, D b → b < p := by
  obtain ⟨⟨A, n, c, _, _, _, _, _, ho, _⟩, _⟩ := h
  exact ho.1
theorem Rr.dnew (h : Rr w p D bs a e) {k : Nat} (hk : p ≤ k) : ¬ D k := fun hd => by
  have := h.dlt k hd
  omega
theorem Rr.setErr (h : Rr w p D bs a e) (e' : Int) : Rr (w.setCell ⟨p, 2, none⟩ (.int .i64 e')) p D bs a e' := by
  obtain ⟨⟨A, n, c, h0, h1, f0, f1, hr, ho, hb⟩, h2, f2⟩ := h
  have hu := (Upd.refl p none w).cellp 2 (.int .i64 e')
  refine ⟨⟨A, n, c, ?_, ?_, ?_, ?_, hr.upd hu (off_lo ho.2 (fun hd => Nat.lt_irrefl _ (ho.1 _ hd)) (fun _ e => by cases e)), ho, hb⟩, World.cell?_setCell_same _ _ _ h2, ?_⟩
  · rw [World.cell?_setCell_other _ _ _ _ (by simp)]; exact h0
  · rw [World.cell?_setCell_other _ _ _ _ (by simp)]; exact h1
  · rw [World.frozen?_setCell]; exact f0
  · rw [World.frozen?_setCell]; exact f1
  · rw [World.frozen?_setCell]; exact f2
theorem Pp.setAt (h : Pp w p D bs a) (a' : Nat) (ha : a' ≤ 8 * bs.length) : Pp (w.setCell ⟨p, 1, none⟩ (.int .i64 (a' : Int))) p D bs a' ∧ Tail2 p w (w.setCell ⟨p, 1, none⟩ (.int .i64 (a' : Int))) := by
  obtain ⟨A, n, c, h0, h1, f0, f1, hr, ho, hb⟩ := h
  have hu := (Upd.refl p none w).cellp 1 (.int .i64 (a' : Int))
  refine ⟨⟨A, n, c, ?_, World.cell?_setCell_same _ _ _ h1, ?_, ?_, hr.upd hu (off_lo ho.2 (fun hd => Nat.lt_irrefl _ (ho.1 _ hd)) (fun _ e => by cases e)), ho, ha, hb.2⟩, fun j hj => ⟨?_, ?_⟩⟩
  · rw [World.cell?_setCell_other _ _ _ _ (by simp)]; exact h0
  · rw [World.frozen?_setCell]; exact f0
  · rw [World.frozen?_setCell]; exact f1
  · rw [World.cell?_setCell_other _ _ _ _ (by intro e; cases e; omega)]
  · rw [World.frozen?_setCell]
end

theorem pleft_any (p : Nat) (bs : List UInt8) (a : Nat) (w : World) (h : Pp w p D bs a) :
    Calls Try.prog 93 #[.pointer (some ⟨p, 0, none⟩)] w fun e w' => e = .returned (.int .i64 (Pl.left bs a)) ∧ ∃ q, w' = w.drewN q := by
  have hb := h.inb
  obtain ⟨A, n, c, h0, h1, f0, f1, hr, ho, _⟩ := h
  have hn := RdB.length hr
  subst hn
  have hs : IntKind.i64.wrap (8 * (bs.length : Int) - (a : Int)) = 8 * (bs.length : Int) - (a : Int) := IntWalk.i64_in _ ⟨by omega, by omega⟩
  have hs2 : IntKind.i64.wrap (8 * (bs.length : Int)) = 8 * (bs.length : Int) := IntWalk.i64_in _ ⟨by omega, by omega⟩
  clear hr ho hb
  go_enter Try.func93, Try.ntmps93
  go_wp2
  go_quiet (fail)
  go_wp2
  go_ret
  exact ⟨rfl, _, rfl⟩

theorem rleft_any (p : Nat) (bs : List UInt8) (a : Nat) (w : World) (h : Pp w p D bs a) :
    Calls Try.prog 98 #[.pointer (some ⟨p, 0, none⟩)] w fun e w' => e = .returned (.int .i64 (Pl.left bs a)) ∧ ∃ q, w' = w.drewN q := by
  have hb := h.inb
  obtain ⟨A, n, c, h0, h1, f0, f1, hr, ho, _⟩ := h
  have hn := RdB.length hr
  subst hn
  have hs : IntKind.i64.wrap (8 * (bs.length : Int) - (a : Int)) = 8 * (bs.length : Int) - (a : Int) := IntWalk.i64_in _ ⟨by omega, by omega⟩
  have hs2 : IntKind.i64.wrap (8 * (bs.length : Int)) = 8 * (bs.length : Int) := IntWalk.i64_in _ ⟨by omega, by omega⟩
  clear hr ho hb
  go_enter Try.func98, Try.ntmps98
  go_wp2
  go_quiet (fail)
  go_wp2
  go_ret
  exact ⟨rfl, _, rfl⟩
theorem rLeft_any (p : Nat) (bs : List UInt8) (a : Nat) (w : World) (h : Pp w p D bs a) :
    Calls Try.prog 59 #[.pointer (some ⟨p, 0, none⟩)] w fun e w' => e = .returned (.int .i64 (Pl.left bs a)) ∧ ∃ q, w' = w.drewN q := by
  have k := hide (rleft_any p bs a w h)
  clear h
  generalize Pl.left bs a = L at *
  go_enter Try.func59, Try.ntmps59
  go_wp2_with (fail)
  refine k.out.mono ?_
  rintro e w' ⟨rfl, q, rfl⟩
  go_wp2
  go_ret
  exact ⟨rfl, _, rfl⟩

theorem bit_of_fin : ∀ (c : Fin 256) (k : Fin 8), bits BinOp.and IntKind.u8 ((c.val : Int) / 2 ^ (7 - k.val)) 1 = (if Pl.getB (UInt8.ofNat c.val) k.val then 1 else 0) := by decide +kernel
theorem bit_of (c : UInt8) (k : Nat) (h : k < 8) : bits BinOp.and IntKind.u8 ((c.toNat : Int) / 2 ^ (7 - k)) 1 = (if Pl.getB c k then 1 else 0) := by
  have := bit_of_fin ⟨c.toNat, c.toNat_lt⟩ ⟨k, h⟩
  simp only [Pl.of_toNat] at this
  exact this

set_option maxRecDepth 100000 in
set_option maxHeartbeats 800000 in
theorem pbit_any (p : Nat) (bs : List UInt8) (a : Nat) (w : World) (h : Pp w p D bs a) (ha : a < 8 * bs.length) :
    Calls Try.prog 92 #[.pointer (some ⟨p, 0, none⟩)] w fun e w' => e = .returned (.int .i64 (if Pl.bitAt bs a then 1 else 0)) ∧ Pp w' p D bs (a + 1) ∧ Tail2 p w w' ∧ Upd p none w w' := by
  have hb := h.inb
  have H := hide h
  obtain ⟨A, n, c, h0, h1, f0, f1, hr, ho, _⟩ := h
  have hn := RdB.length hr
  obtain ⟨k, hk⟩ : ∃ k, a / 8 = k := ⟨_, rfl⟩
  obtain ⟨j, hj⟩ : ∃ j, a % 8 = j := ⟨_, rfl⟩
  have hkl : k < bs.length := by omega
  obtain ⟨b, o, rfl, hbz, hcell⟩ := RdB.at_ hr hkl
  have hbit : Pl.bitAt bs a = Pl.getB bs[k] j := by
    unfold Pl.bitAt
    rw [hk, hj, List.getD_eq_getElem?_getD, List.getElem?_eq_getElem hkl]
    rfl
  have hof := bit_of bs[k] j (by omega)
  rw [← hbit] at hof
  generalize bs[k] = x at *
  have hk' : (a : Int) / 8 = (k : Int) := by omega
  have hj' : (a : Int) % 8 = (j : Int) := by omega
  have hk0 : (0 : Int) ≤ (k : Int) := by omega
  have hkn : (k : Int) < (n : Int) := by omega
  have hj0 : (0 : Int) ≤ (j : Int) := by omega
  have hj8 : (j : Int) < 8 := by omega
  have ha0 : (0 : Int) ≤ (a : Int) := by omega
  have ha1 : (a : Int) ≤ 8796093022208 := by omega
  have hs : IntKind.i64.wrap (7 - (j : Int)) = 7 - (j : Int) := IntWalk.i64_in _ ⟨by omega, by omega⟩
  have HA := hide ha
  have hx := x.toNat_lt
  clear hbit hk hj hn hr ho ha hb hx hbz
  generalize Pl.bitAt bs a = bb at *
  go_enter Try.func92, Try.ntmps92
  go_wp2
  go_quiet (fail)
  go_wp2
  all_goals
    go_ret
    have hS : ∀ q, Pp ((w.drewN q).setCell ⟨p, 1, none⟩ (.int .i64 ((a : Int) + 1))) p D bs (a + 1) ∧ Tail2 p w ((w.drewN q).setCell ⟨p, 1, none⟩ (.int .i64 ((a : Int) + 1))) := fun q => by
      have := Pp.setAt (H.out.drewN q) (a + 1) (by have := HA.out; omega)
      rw [show ((a + 1 : Nat) : Int) = (a : Int) + 1 by omega] at this
      exact this
    exact ⟨rfl, (hS _).1, (hS _).2, ((Upd.refl p none w).drewN _).cellp 1 _⟩
end Go.Proofs.Ytikfogepdmpfaaa
