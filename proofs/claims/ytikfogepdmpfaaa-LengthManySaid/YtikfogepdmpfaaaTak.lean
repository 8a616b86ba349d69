import Derived.Test.YtikfogepdmpfaaaLen1
import Derived.Test.YtikfogepdmpfaaaPlWhole
import Derived.Deep.RegionHeld3
import Derived.Deep.RegionLaw
import Derived.Deep.AppendLies
namespace Go.Proofs.Ytikfogepdmpfaaa
open Go.RowKit
variable {D : Nat → Prop}

/-- As Upd, with two more blocks that are written. -/
structure Up5 (P q b c : Nat) (w w' : World) : Prop where
  os : w'.os = w.os
  tape : w'.tape = w.tape
  output : w'.output = w.output
  size : w.heap.size ≤ w'.heap.size
  block : ∀ k, k < w.heap.size → k ≠ P → k ≠ q → k ≠ b → k ≠ c → w'.heap[k]? = w.heap[k]?
section
variable {P q b c : Nat} {w w' w'' : World}
theorem Up5.of (h : Upd P (some q) w w') : Up5 P q b c w w' := ⟨h.os, h.tape, h.output, h.size, fun k hk h1 h2 _ _ => h.block k hk h1 (fun e => h2 (by simpa using e))⟩
theorem Up5.trans (h : Up5 P q b c w w') (k : Up5 P q b c w' w'') : Up5 P q b c w w'' :=
  ⟨k.os.trans h.os, k.tape.trans h.tape, k.output.trans h.output, Nat.le_trans h.size k.size, fun j hj h1 h2 h3 h4 => (k.block j (Nat.lt_of_lt_of_le hj h.size) h1 h2 h3 h4).trans (h.block j hj h1 h2 h3 h4)⟩
theorem Up5.setb (h : Up5 P q b c w w') (u : Value) : Up5 P q b c w (w'.setCell ⟨b, 0, none⟩ u) :=
  ⟨h.os, h.tape, h.output, by simpa [World.setCell] using h.size, fun k hk h1 h2 h3 h4 => (Below.heap_setCell _ _ _ _ (fun e => h3 e)).trans (h.block k hk h1 h2 h3 h4)⟩
theorem Up5.setc (h : Up5 P q b c w w') (u : Value) : Up5 P q b c w (w'.setCell ⟨c, 0, none⟩ u) :=
  ⟨h.os, h.tape, h.output, by simpa [World.setCell] using h.size, fun k hk h1 h2 h3 h4 => (Below.heap_setCell _ _ _ _ (fun e => h4 e)).trans (h.block k hk h1 h2 h3 h4)⟩
theorem Up5.upd {w0 : World} (h : Up5 P q b c w w') (h0 : Upd P (some q) w0 w) (hb : w0.heap.size ≤ b) (hc : w0.heap.size ≤ c) : Upd P (some q) w0 w' :=
  ⟨h.os.trans h0.os, h.tape.trans h0.tape, h.output.trans h0.output, Nat.le_trans h0.size h.size, fun k hk h1 h2 => (h.block k (Nat.lt_of_lt_of_le hk h0.size) h1 (fun e => h2 (by rw [e])) (by omega) (by omega)).trans (h0.block k hk h1 h2)⟩
end

/-- What the closure of take leaves: how many things, and whether others may come. -/
def TkPost (w : World) (P q : Nat) (D : Nat → Prop) (bs : List UInt8) (b c : Nat) (a : Nat) (em : Bool) (n : Int) (more : Bool) (en : Ending) (w' : World) : Prop :=
  en = .returned (.tuple #[]) ∧ Wd w' P q D bs a 0 em ∧ Up5 P q b c w w' ∧ w'.cell? ⟨b, 0, none⟩ = some (.int .i64 n) ∧ w'.cell? ⟨c, 0, none⟩ = some (.bool more)
/-- The variables that the closure holds. -/
structure TkK (b0 b1 b2 b3 P : Nat) (last : Bool) (w : World) : Prop where
  c0 : w.cell? ⟨b0, 0, none⟩ = some (.pointer (some ⟨P, 0, none⟩))
  c1 : w.cell? ⟨b1, 0, none⟩ = some (.int .i64 0)
  c2 : w.cell? ⟨b2, 0, none⟩ = some (.bool false)
  c3 : w.cell? ⟨b3, 0, none⟩ = some (.bool last)
  f1 : w.frozen? ⟨b1, 0, none⟩ = false
  f2 : w.frozen? ⟨b2, 0, none⟩ = false
theorem TkK.upd {b0 b1 b2 b3 P q : Nat} {last : Bool} {w w' : World} (h : TkK b0 b1 b2 b3 P last w) (u : Upd P (some q) w w') (ho : P < b0 ∧ P < b1 ∧ P < b2 ∧ P < b3) (hq : q < P) : TkK b0 b1 b2 b3 P last w' := by
  have hc : ∀ b, P < b → b < w.heap.size → w'.cell? ⟨b, 0, none⟩ = w.cell? ⟨b, 0, none⟩ := fun b hb hl => u.cell (a := ⟨b, 0, none⟩) hl (by simp only; omega) (by simp only [ne_eq, Option.some.injEq]; omega)
  have hf : ∀ b, P < b → b < w.heap.size → w'.frozen? ⟨b, 0, none⟩ = w.frozen? ⟨b, 0, none⟩ := fun b hb hl => u.frozen (a := ⟨b, 0, none⟩) hl (by simp only; omega) (by simp only [ne_eq, Option.some.injEq]; omega)
  exact ⟨(hc b0 ho.1 (lt_cell h.c0)).trans h.c0, (hc b1 ho.2.1 (lt_cell h.c1)).trans h.c1, (hc b2 ho.2.2.1 (lt_cell h.c2)).trans h.c2, (hc b3 ho.2.2.2 (lt_cell h.c3)).trans h.c3, (hf b1 ho.2.1 (lt_cell h.c1)).trans h.f1, (hf b2 ho.2.2.1 (lt_cell h.c2)).trans h.f2⟩

theorem andn_fin : ∀ x : Fin 64, bits BinOp.andNot IntKind.i64 (128 + (x.val : Int)) 128 = (x.val : Int) := by decide +kernel
theorem or_fin : ∀ (x : Fin 64) (y : Fin 256), bits BinOp.or IntKind.i64 ((x.val : Int) * 256) (y.val : Int) = (x.val : Int) * 256 + (y.val : Int) := by decide +kernel

set_option maxRecDepth 100000 in
set_option maxHeartbeats 1600000 in
theorem tkC_short (P q : Nat) (bs : List UInt8) (a a1 : Nat) (em : Bool) (c : Int) (last : Bool) (b0 b1 b2 b3 : Nat) (w : World) (K8 : ∀ W, Wd W P q D bs a 0 em → Calls Try.prog 66 #[.pointer (some ⟨P, 0, none⟩), .int .i64 8] W (WdPost W P q D bs a1 0 em (.int .u64 c))) (hc : 0 ≤ c ∧ c < 128)
    (h : Wd w P q D bs a 0 em) (hk : TkK b0 b1 b2 b3 P last w) (ho : P < b0 ∧ P < b1 ∧ P < b2 ∧ P < b3) (hne : b1 ≠ b2 ∧ b0 ≠ b1 ∧ b0 ≠ b2 ∧ b3 ≠ b1 ∧ b3 ≠ b2) :
    Calls Try.prog 116 #[.pointer (some ⟨b0, 0, none⟩), .pointer (some ⟨b1, 0, none⟩), .pointer (some ⟨b2, 0, none⟩), .pointer (some ⟨b3, 0, none⟩)] w (TkPost w P q D bs b1 b2 a1 em c false) := by
  have K := hide (K8 w h)
  have HQ := hide h.qp
  have HO := hide ho
  have HN := hide hne
  have HK := hide hk
  have c0 := hk.c0
  clear K8 h hk ho hne
  go_enter Try.func116, Try.ntmps116
  go_wp2_with (fail)
  refine K.out.mono ?_
  rintro e w1 ⟨rfl, hr1, hu1⟩
  have R1 := hide hr1
  have U1 := hide hu1
  have S1 := hide (HK.out.upd hu1 HO.out HQ.out)
  obtain ⟨x0, x1, x2, x3, y1, y2⟩ := HK.out.upd hu1 HO.out HQ.out
  clear hr1 hu1 c0
  go_wp2
  refine bodyPost_end (results_none rfl _ _ _) rfl ?_
  exact ⟨rfl, R1.out.setb HO.out.2.1 _, (Up5.of U1.out).setb _, World.cell?_setCell_same _ _ _ x1, (cell_setCell_ne _ HN.out.1.symm).trans x2⟩

set_option maxRecDepth 100000 in
set_option maxHeartbeats 1600000 in
theorem tkC_more (P q : Nat) (bs : List UInt8) (a a1 : Nat) (em : Bool) (k : Int) (b0 b1 b2 b3 : Nat) (w : World) (K8 : ∀ W, Wd W P q D bs a 0 em → Calls Try.prog 66 #[.pointer (some ⟨P, 0, none⟩), .int .i64 8] W (WdPost W P q D bs a1 0 em (.int .u64 (192 + k)))) (hc : 1 ≤ k ∧ k ≤ 4)
    (h : Wd w P q D bs a 0 em) (hk : TkK b0 b1 b2 b3 P false w) (ho : P < b0 ∧ P < b1 ∧ P < b2 ∧ P < b3) (hne : b1 ≠ b2 ∧ b0 ≠ b1 ∧ b0 ≠ b2 ∧ b3 ≠ b1 ∧ b3 ≠ b2) :
    Calls Try.prog 116 #[.pointer (some ⟨b0, 0, none⟩), .pointer (some ⟨b1, 0, none⟩), .pointer (some ⟨b2, 0, none⟩), .pointer (some ⟨b3, 0, none⟩)] w (TkPost w P q D bs b1 b2 a1 em (k * 16384) true) := by
  have K := hide (K8 w h)
  have HQ := hide h.qp
  have HO := hide ho
  have HN := hide hne
  have HK := hide hk
  have c0 := hk.c0
  have e1 : IntKind.i64.wrap (192 + k - 192) = k := by rw [show 192 + k - 192 = k by omega]; exact IntWalk.i64_in _ ⟨by omega, by omega⟩
  have e2 : IntKind.i64.wrap (k * 16384) = k * 16384 := IntWalk.i64_in _ ⟨by omega, by omega⟩
  clear K8 h hk ho hne
  obtain ⟨n1, n2, n3, n4, n5⟩ := HN.out
  go_enter Try.func116, Try.ntmps116
  go_wp2_with (fail)
  refine K.out.mono ?_
  rintro e w1 ⟨rfl, hr1, hu1⟩
  have R1 := hide hr1
  have U1 := hide hu1
  have S1 := hide (HK.out.upd hu1 HO.out HQ.out)
  obtain ⟨x0, x1, x2, x3, y1, y2⟩ := HK.out.upd hu1 HO.out HQ.out
  clear hr1 hu1 c0
  go_wp2
  refine bodyPost_end (results_none rfl _ _ _) rfl ?_
  exact ⟨rfl, (R1.out.setb HO.out.2.1 _).setb HO.out.2.2.1 _, ((Up5.of U1.out).setb _).setc _, (cell_setCell_ne _ n1).trans (World.cell?_setCell_same _ _ _ x1), World.cell?_setCell_same _ _ _ ((cell_setCell_ne _ n1.symm).trans x2)⟩

set_option maxRecDepth 100000 in
set_option maxHeartbeats 1600000 in
theorem tkC_long (P q : Nat) (bs : List UInt8) (a a1 a2 : Nat) (em : Bool) (x y : Int) (last : Bool) (b0 b1 b2 b3 : Nat) (w : World) (K8 : ∀ W, Wd W P q D bs a 0 em → Calls Try.prog 66 #[.pointer (some ⟨P, 0, none⟩), .int .i64 8] W (WdPost W P q D bs a1 0 em (.int .u64 (128 + x))))
    (K9 : ∀ W, Wd W P q D bs a1 0 em → Calls Try.prog 66 #[.pointer (some ⟨P, 0, none⟩), .int .i64 8] W (WdPost W P q D bs a2 0 em (.int .u64 y))) (hx : 0 ≤ x ∧ x < 64) (hy : 0 ≤ y ∧ y < 256) (hxy : 128 ≤ x * 256 + y)
    (h : Wd w P q D bs a 0 em) (hk : TkK b0 b1 b2 b3 P last w) (ho : P < b0 ∧ P < b1 ∧ P < b2 ∧ P < b3) (hne : b1 ≠ b2 ∧ b0 ≠ b1 ∧ b0 ≠ b2 ∧ b3 ≠ b1 ∧ b3 ≠ b2) :
    Calls Try.prog 116 #[.pointer (some ⟨b0, 0, none⟩), .pointer (some ⟨b1, 0, none⟩), .pointer (some ⟨b2, 0, none⟩), .pointer (some ⟨b3, 0, none⟩)] w (TkPost w P q D bs b1 b2 a2 em (x * 256 + y) false) := by
  have K := hide (K8 w h)
  have KN := hide K9
  have HQ := hide h.qp
  have HO := hide ho
  have HN := hide hne
  have HK := hide hk
  have c0 := hk.c0
  have e0 : bits BinOp.andNot IntKind.i64 (128 + x) 128 = x := by
    have := andn_fin ⟨x.toNat, by omega⟩
    simpa only [Int.toNat_of_nonneg hx.1] using this
  have e1 : IntKind.i64.wrap (x * 256) = x * 256 := IntWalk.i64_in _ ⟨by omega, by omega⟩
  have e2 : bits BinOp.or IntKind.i64 (x * 256) y = x * 256 + y := by
    have := or_fin ⟨x.toNat, by omega⟩ ⟨y.toNat, by omega⟩
    simpa only [Int.toNat_of_nonneg hx.1, Int.toNat_of_nonneg hy.1] using this
  clear K8 K9 h hk ho hne
  obtain ⟨n1, n2, n3, n4, n5⟩ := HN.out
  go_enter Try.func116, Try.ntmps116
  go_wp2_with (fail)
  refine K.out.mono ?_
  rintro e w1 ⟨rfl, hr1, hu1⟩
  have R1 := hide hr1
  have U1 := hide hu1
  have S1 := hide (HK.out.upd hu1 HO.out HQ.out)
  have z0 := S1.out.c0
  clear hr1 hu1 c0
  go_wp2_with (fail)
  refine (KN.out _ R1.out).mono ?_
  rintro e w2 ⟨rfl, hr2, hu2⟩
  have R2 := hide hr2
  have U2 := hide (U1.out.trans (Mv.refl _ _) hu2)
  obtain ⟨x0, x1, x2, x3, y1, y2⟩ := S1.out.upd hu2 HO.out HQ.out
  clear hr2 hu2 z0
  go_wp2
  refine bodyPost_end (results_none rfl _ _ _) rfl ?_
  exact ⟨rfl, R2.out.setb HO.out.2.1 _, (Up5.of U2.out).setb _, World.cell?_setCell_same _ _ _ x1, (cell_setCell_ne _ n1.symm).trans x2⟩
/-- Four variables made one behind the other. -/
theorem four (w : World) (v0 v1 v2 v3 : Value) (t0 t1 t2 t3 : Nat) (W : World) (hW : (((w.alloc (.cells #[v0] t0)).alloc (.cells #[v1] t1)).alloc (.cells #[v2] t2)).alloc (.cells #[v3] t3) = W) :
    W.heap.size = w.heap.size + 4 ∧ Below w.heap.size w W ∧ W.cell? ⟨w.heap.size, 0, none⟩ = some v0 ∧ W.cell? ⟨w.heap.size + 1, 0, none⟩ = some v1 ∧ W.cell? ⟨w.heap.size + 1 + 1, 0, none⟩ = some v2 ∧ W.cell? ⟨w.heap.size + 1 + 1 + 1, 0, none⟩ = some v3 ∧
      W.frozen? ⟨w.heap.size + 1 + 1, 0, none⟩ = false ∧ W.frozen? ⟨w.heap.size + 1 + 1 + 1, 0, none⟩ = false := by
  obtain ⟨w3, h3⟩ : ∃ w3, ((w.alloc (.cells #[v0] t0)).alloc (.cells #[v1] t1)).alloc (.cells #[v2] t2) = w3 := ⟨_, rfl⟩
  obtain ⟨hs, hb, c0, c1, c2, f2⟩ := three w v0 v1 v2 t0 t1 t2 w3 h3
  rw [h3] at hW
  have e3 := size_alloc w3 (.cells #[v3] t3)
  have k3 : (w3.alloc (.cells #[v3] t3)).cell? ⟨w3.heap.size, 0, none⟩ = some v3 := cell_new rfl rfl
  have f3 : (w3.alloc (.cells #[v3] t3)).frozen? ⟨w3.heap.size, 0, none⟩ = false := by simp
  have b3 : Below w3.heap.size w3 (w3.alloc (.cells #[v3] t3)) := (Below.refl _ _).alloc (Nat.le_refl _) _
  rw [hW] at e3 k3 f3 b3
  rw [show w3.heap.size = w.heap.size + 1 + 1 + 1 by omega] at k3 f3
  exact ⟨by omega, hb.trans (b3.mono (by omega)), (b3.cell (lt_cell c0)).trans c0, (b3.cell (lt_cell c1)).trans c1, (b3.cell (lt_cell c2)).trans c2, k3, (b3.frozen (lt_cell c2)).trans f2, f3⟩

/-- What stands behind the closure of take. -/
def TkEnd (w0 : World) (P q b c : Nat) (a : Nat) (n : Int) (more : Bool) (a' : Nat) (E' : Int) (w2 : World) : Prop :=
  a' = a ∧ E' = 0 ∧ w2.cell? ⟨b, 0, none⟩ = some (.int .i64 n) ∧ w2.cell? ⟨c, 0, none⟩ = some (.bool more) ∧ Upd P (some q) w0 w2
theorem tk_in {w0 W w2 : World} {o : Obj} {P q b c : Nat} {bs : List UInt8} {a a0 : Nat} {em : Bool} {n : Int} {more : Bool} {e : Ending} (h : TkPost (W.alloc o) P q D bs b c a em n more e w2) (u : Upd P (some q) w0 W) (hb : w0.heap.size ≤ b ∧ w0.heap.size ≤ c) (hbW : b < W.heap.size ∧ c < W.heap.size) (hPb : P < b ∧ P < c) (hw : Wd W P q D bs a0 0 em) :
    InBack P q D bs em W.heap.size (W.alloc o) (TkEnd w0 P q b c a n more) e w2 := by
  obtain ⟨rfl, hr, hu, hc1, hc2⟩ := h
  have hP := hw.lt
  have hq := hw.qp
  refine ⟨rfl, a, 0, hr, fun j => World.cell?_of_block (a := ⟨W.heap.size, j, none⟩) (hu.block W.heap.size (by simp) (by omega) (by omega) (by omega) (by omega)), fun k hk => ?_, rfl, rfl, hc1, hc2, (hu.upd (u.alloc o) hb.1 hb.2)⟩
  have hkq : k < q := Nat.lt_of_not_le fun h => hw.dnew h hk
  exact hu.block k (by have : (W.alloc o).heap.size = W.heap.size + 1 := by simp
                       omega) (by omega) (by omega) (by omega) (by omega)

/-- What a determinant that is read leaves. -/
def TakePost (w : World) (P q : Nat) (D : Nat → Prop) (bs : List UInt8) (a : Nat) (em : Bool) (n : Int) (more : Bool) (en : Ending) (w' : World) : Prop :=
  en = .returned (.tuple #[.int .i64 n, .bool more]) ∧ Wd w' P q D bs a 0 em ∧ Upd P (some q) w w'

set_option maxRecDepth 100000 in
set_option maxHeartbeats 1600000 in
theorem ltake_any (P q : Nat) (bs : List UInt8) (a a1 : Nat) (em : Bool) (n : Int) (more last : Bool) (w : World) (h : Wd w P q D bs a 0 em)
    (KC : ∀ b0 b1 b2 b3 W, Wd W P q D bs a 0 em → TkK b0 b1 b2 b3 P last W → (P < b0 ∧ P < b1 ∧ P < b2 ∧ P < b3) → (b1 ≠ b2 ∧ b0 ≠ b1 ∧ b0 ≠ b2 ∧ b3 ≠ b1 ∧ b3 ≠ b2) →
      Calls Try.prog 116 #[.pointer (some ⟨b0, 0, none⟩), .pointer (some ⟨b1, 0, none⟩), .pointer (some ⟨b2, 0, none⟩), .pointer (some ⟨b3, 0, none⟩)] W (TkPost W P q D bs b1 b2 a1 em n more)) :
    Calls Try.prog 114 #[.pointer (some ⟨P, 0, none⟩), .bool last] w (TakePost w P q D bs a1 em n more) := by
  have H := hide h
  have HC := hide KC
  clear h KC
  go_enter Try.func114, Try.ntmps114
  go_wp2_with (fail)
  obtain ⟨W, hW⟩ : ∃ W, (((w.alloc (.cells #[.pointer (some ⟨P, 0, none⟩)] 80)).alloc (.cells #[.bool last] 4)).alloc (.cells #[.int .i64 0] 3)).alloc (.cells #[.bool false] 4) = W := ⟨_, rfl⟩
  obtain ⟨hsz, b4, c0, c1, c2, c3, f2, f3⟩ := four w _ _ _ _ _ _ _ _ W hW
  rw [hW]
  clear hW
  have b4 := hide b4
  have HW := hide (H.out.below b4.out)
  have U0 := hide (Upd.of_below (p := P) (g := some q) b4.out)
  have hP := H.out.lt
  have hkF : ∀ o, Calls Try.prog 116 #[.pointer (some ⟨w.heap.size, 0, none⟩), .pointer (some ⟨w.heap.size + 1 + 1, 0, none⟩), .pointer (some ⟨w.heap.size + 1 + 1 + 1, 0, none⟩), .pointer (some ⟨w.heap.size + 1, 0, none⟩)] (W.alloc o) (InBack P q D bs em W.heap.size (W.alloc o) (TkEnd w P q (w.heap.size + 1 + 1) (w.heap.size + 1 + 1 + 1) a1 n more)) := by
    intro o
    have ba := (Below.refl W.heap.size W).alloc (Nat.le_refl _) o
    refine (HC.out _ _ _ _ _ (HW.out.below ba) ⟨(ba.cell (lt_cell c0)).trans c0, (ba.cell (lt_cell c2)).trans c2, (ba.cell (lt_cell c3)).trans c3, (ba.cell (lt_cell c1)).trans c1, (ba.frozen (lt_cell c2)).trans f2, (ba.frozen (lt_cell c3)).trans f3⟩ ⟨hP, by omega, by omega, by omega⟩ ⟨by omega, by omega, by omega, by omega, by omega⟩).mono fun e w2 hh => tk_in hh U0.out ⟨by omega, by omega⟩ ⟨lt_cell c2, lt_cell c3⟩ ⟨by omega, by omega⟩ HW.out
  clear c0 c1 c2 c3 f2 f3 hsz
  refine (wrBack_any P q bs a em _ _ W HW.out (TkEnd w P q (w.heap.size + 1 + 1) (w.heap.size + 1 + 1 + 1) a1 n more) (fun _ => by kernel_rfl) hkF).mono ?_
  rintro e w4 ⟨a', E', w2, rfl, ⟨rfl, rfl, hc1, hc2, hu2⟩, hw4, hu4⟩
  have hd1 := (hu4.cell (a := ⟨w.heap.size + 1 + 1, 0, none⟩) (lt_cell hc1) (by simp only; omega) (by have := HW.out.qp; simp only [ne_eq, Option.some.injEq]; omega)).trans hc1
  have hd2 := (hu4.cell (a := ⟨w.heap.size + 1 + 1 + 1, 0, none⟩) (lt_cell hc2) (by simp only; omega) (by have := HW.out.qp; simp only [ne_eq, Option.some.injEq]; omega)).trans hc2
  have R4 := hide hw4
  have U4 := hide (hu2.trans (Mv.refl _ _) hu4)
  clear hw4 hu4 hu2 hkF hc1 hc2
  simp only [decide_true]
  go_wp2_with (fail)
  go_quiet (fail)
  go_wp2
  go_ret2
  exact ⟨rfl, by simpa using R4.out.drewN _, U4.out.drewN _⟩

theorem kbits8 {P q : Nat} {em : Bool} (L pre post : List Bool) (v r : Int) (h : L = pre ++ Pl.bitsOf v 8 ++ post) (hr : v % 2 ^ 8 = r) (W : World) (hW : Wd W P q D (packW L) pre.length 0 em) :
    Calls Try.prog 66 #[.pointer (some ⟨P, 0, none⟩), .int .i64 8] W (WdPost W P q D (packW L) (pre.length + 8) 0 em (.int .u64 r)) := by
  have hk := wdBits_any (D := D) P q (packW L) pre.length 0 8 em W hW
  obtain ⟨e1, e2, e3⟩ := back_bits L pre _ post h
  rw [Pl.bitsOf_length] at e1 e2 e3
  rw [show cl64 8 = 8 by decide, e1, e2, e3, Pl.num_bitsOf, hr] at hk
  exact hk

/-- A determinant that was put is taken. -/
theorem ltake_det (P q : Nat) (em : Bool) (L pre post : List Bool) (k : Nat) (last : Bool) (hk : k < 16384 ∨ (last = false ∧ k % 16384 = 0 ∧ 16384 ≤ k ∧ k ≤ 65536)) (h : L = pre ++ det (k : Int) ++ post) (w : World) (hw : Wd w P q D (packW L) pre.length 0 em) :
    Calls Try.prog 114 #[.pointer (some ⟨P, 0, none⟩), .bool last] w (TakePost w P q D (packW L) (pre.length + (det (k : Int)).length) em (k : Int) (decide (16384 ≤ k))) := by
  by_cases h1 : k < 128
  · rw [decide_eq_false (by omega)]
    rw [det_short _ (by omega)] at h ⊢
    rw [Pl.bitsOf_length]
    refine ltake_any P q _ _ _ em _ _ last w hw fun b0 b1 b2 b3 W hW hK ho hne => ?_
    exact tkC_short P q _ _ _ em (k : Int) last b0 b1 b2 b3 W (fun W h' => kbits8 L pre post (k : Int) (k : Int) h (by omega) W h') ⟨by omega, by omega⟩ hW hK ho hne
  · by_cases h2 : k < 16384
    · rw [decide_eq_false (by omega)]
      rw [← det_long' _ (by omega) (by omega)] at h ⊢
      rw [Pl.bitsOf_length]
      rw [bits_split' 8 8] at h
      refine ltake_any P q _ _ _ em _ _ last w hw fun b0 b1 b2 b3 W hW hK ho hne => ?_
      have hx := tkC_long (D := D) P q (packW L) pre.length (pre.length + 8) (pre.length + 16) em ((k / 256 : Nat) : Int) ((k % 256 : Nat) : Int) last b0 b1 b2 b3 W
        (fun W h' => kbits8 L pre (Pl.bitsOf (32768 + (k : Int)) 8 ++ post) ((32768 + (k : Int)) / 2 ^ 8) _ (by rw [h]; simp only [List.append_assoc]) (by omega) W h')
        (fun W h' => by
          have := kbits8 (D := D) (P := P) (q := q) (em := em) L (pre ++ Pl.bitsOf ((32768 + (k : Int)) / 2 ^ 8) 8) post (32768 + (k : Int)) ((k % 256 : Nat) : Int) (by rw [h]; simp only [List.append_assoc]) (by omega) W (by rw [List.length_append, Pl.bitsOf_length]; exact h')
          rw [List.length_append, Pl.bitsOf_length] at this
          exact this)
        ⟨by omega, by omega⟩ ⟨by omega, by omega⟩ (by omega) hW hK ho hne
      rw [show ((k / 256 : Nat) : Int) * 256 + ((k % 256 : Nat) : Int) = (k : Int) by omega] at hx
      exact hx
    · obtain ⟨rfl, h3, h4, h5⟩ : last = false ∧ k % 16384 = 0 ∧ 16384 ≤ k ∧ k ≤ 65536 := by
        rcases hk with hk | hk
        · omega
        · exact hk
      rw [decide_eq_true h4]
      rw [← det_more' _ (by omega) (by omega)] at h ⊢
      rw [Pl.bitsOf_length]
      refine ltake_any P q _ _ _ em _ _ false w hw fun b0 b1 b2 b3 W hW hK ho hne => ?_
      have hx := tkC_more (D := D) P q (packW L) pre.length (pre.length + 8) em ((k : Int) / 16384) b0 b1 b2 b3 W
        (fun W h' => kbits8 L pre post (192 + (k : Int) / 16384) _ h (by omega) W h') ⟨by omega, by omega⟩ hW hK ho hne
      rw [show (k : Int) / 16384 * 16384 = (k : Int) by omega] at hx
      exact hx
/-- How many things stand behind the first j determinants; whether a fragment ahead was not as long as it can be. -/
def upTo (ks : List Nat) (j : Nat) : Nat := (ks.take j).sum
def lastB (ks : List Nat) (j : Nat) : Bool := match j with
  | 0 => false
  | j + 1 => decide (ks.getD j 0 < 65536)

theorem upTo_succ (ks : List Nat) (j : Nat) (h : j < ks.length) : upTo ks (j + 1) = upTo ks j + ks.getD j 0 := by
  unfold upTo
  rw [List.take_succ_eq_append_getElem h, List.sum_append]
  simp [List.getD_eq_getElem?_getD, List.getElem?_eq_getElem h]
theorem upTo_le (ks : List Nat) (j : Nat) : upTo ks j ≤ upTo ks ks.length := by
  unfold upTo
  have h := congrArg List.sum (List.take_append_drop j ks)
  rw [List.sum_append] at h
  rw [List.take_length]
  omega
theorem lastB_succ (ks : List Nat) (j : Nat) : lastB ks (j + 1) = decide (ks.getD j 0 < 65536) := rfl

/-- What is known of what each goes through: I j ahead of the j-th determinant, J j behind it; Z behind a call that ends it, Y behind the limit. -/
structure EachK (P F : Nat) (caps : Array Value) (ks : List Nat) (mx : Int) (I J : Nat → World → Prop) (Z Y : World → Prop) : Prop where
  take : ∀ (j : Nat) (W : World), j < ks.length → I j W → Calls Try.prog 114 #[.pointer (some ⟨P, 0, none⟩), .bool (lastB ks j)] W fun e w' => e = .returned (.tuple #[.int .i64 (ks.getD j 0 : Nat), .bool (decide (j + 1 < ks.length))]) ∧ J j w'
  err : ∀ (j : Nat) (W : World), J j W → Calls Try.prog 82 #[.pointer (some ⟨P, 0, none⟩)] W fun e w' => e = .returned (.int .i64 0) ∧ W = w'
  err2 : ∀ (j : Nat) (W : World), I j W → Calls Try.prog 82 #[.pointer (some ⟨P, 0, none⟩)] W fun e w' => e = .returned (.int .i64 0) ∧ W = w'
  fail : ∀ (j : Nat) (W : World), J j W → Calls Try.prog 77 #[.pointer (some ⟨P, 0, none⟩), .int .i64 5] W fun e w' => e = .returned (.tuple #[]) ∧ Y w'
  err3 : ∀ (W : World), Y W → Calls Try.prog 82 #[.pointer (some ⟨P, 0, none⟩)] W fun e w' => e = .returned (.int .i64 5) ∧ W = w'
  some : ∀ (j : Nat) (W : World), j < ks.length → J j W → Calls Try.prog F (#[.int .i64 (ks.getD j 0 : Nat)] ++ caps) W fun e w' => (e = .returned (.bool true) ∧ I (j + 1) w') ∨ (e = .returned (.bool false) ∧ Z w')
  pos : ∀ (j : Nat), j + 1 < ks.length → 0 < ks.getD j 0
  fn : ∀ (k : Int) (w : World), (callFunc F (#[.int .i64 k] ++ caps)).run Try.prog w = .ok (.enter F (#[.int .i64 k] ++ caps)) w

/-- What each leaves. -/
def EachPost (ks : List Nat) (mx : Int) (I : Nat → World → Prop) (Z Y : World → Prop) (e : Ending) (w' : World) : Prop :=
  (e = .returned (.int .i64 (upTo ks ks.length : Nat)) ∧ (upTo ks ks.length : Int) ≤ mx ∧ I ks.length w') ∨ (e = .returned (.int .i64 0) ∧ (Z w' ∨ (mx < (upTo ks ks.length : Int) ∧ Y w')))
def EachRel (ks : List Nat) (mx : Int) (I : Nat → World → Prop) (tot lst : Value) (wr : World) : Prop :=
  ∃ (j : Nat), j < ks.length ∧ tot = .int .i64 (upTo ks j : Nat) ∧ lst = .bool (lastB ks j) ∧ (upTo ks j : Int) ≤ mx ∧ Hid (I j wr)
set_option maxRecDepth 100000 in
set_option maxHeartbeats 1600000 in
theorem each_any (P F : Nat) (caps : Array Value) (ks : List Nat) (mx most : Int) (I J : Nat → World → Prop) (Z Y : World → Prop) (K : EachK P F caps ks mx I J Z Y) (hks : ks ≠ []) (hm : max most 0 = mx) (hmx : mx ≤ 9223372036854775807) (hsum : upTo ks ks.length ≤ 100000) (w : World) (h : I 0 w) :
    Calls Try.prog 100 #[.pointer (some ⟨P, 0, none⟩), .int .i64 most, .func (.func F) #[] caps] w (EachPost ks mx I Z Y) := by
  have HK := hide K
  have H := hide h
  have hl0 : 0 < ks.length := List.length_pos_iff.2 hks
  clear K h hks
  go_enter Try.func100, Try.ntmps100
  go_wp2_with (fail)
  go_loopw [7, 8] (EachRel ks mx I) (fun t _ _ => upTo ks ks.length - (intOf t).toNat)
  case atStart => exact ⟨0, hl0, rfl, rfl, by simp [upTo]; omega, H.out⟩
  case round =>
    obtain ⟨j, hj, rfl, rfl, hle, hI⟩ := hrel
    have KT := hide (HK.out.take j _ hj hI.out)
    have KS := hide (fun W h => HK.out.some j W hj h)
    have kf := HK.out.fn
    have hup := upTo_succ ks j hj
    have hupl := upTo_le ks j
    have hupl2 := upTo_le ks (j + 1)
    have hpos := HK.out.pos j
    have hls := lastB_succ ks j
    generalize ks.getD j 0 = k at *
    have hsub : IntKind.i64.wrap (mx - (upTo ks j : Int)) = mx - (upTo ks j : Int) := IntWalk.i64_in _ ⟨by omega, by omega⟩
    by_cases hlim : (k : Int) > mx - (upTo ks j : Int)
    · go_wp2_with (fail)
      refine KT.out.mono ?_
      rintro e w1 ⟨rfl, hJ1⟩
      have J1 := hide hJ1
      clear hJ1
      go_wp2_with (fail)
      refine (HK.out.fail j _ J1.out).mono ?_
      rintro e w2 ⟨rfl, hY⟩
      have Y2 := hide hY
      clear hY
      go_wp2_with (fail)
      refine (HK.out.err3 _ Y2.out).mono ?_
      rintro e w3 ⟨rfl, rfl⟩
      go_wp2
      go_ret
      exact .inr ⟨rfl, .inr ⟨by omega, Y2.out⟩⟩
    · go_wp2_with (fail)
      refine KT.out.mono ?_
      rintro e w1 ⟨rfl, hJ1⟩
      have J1 := hide hJ1
      clear hJ1
      go_wp2_with (fail)
      refine (HK.out.err j _ J1.out).mono ?_
      rintro e w2 ⟨rfl, rfl⟩
      go_wp2_with (fail)
      refine (KS.out _ J1.out).mono ?_
      rintro e w3 (⟨rfl, hI3⟩ | ⟨rfl, hZ⟩)
      · have I3 := hide hI3
        clear hI3
        go_wp2_with (fail)
        refine (HK.out.err2 _ _ I3.out).mono ?_
        rintro e w4 ⟨rfl, rfl⟩
        by_cases hmore : j + 1 < ks.length
        · have hp := hpos hmore
          have hd : decide (j + 1 < ks.length) = true := decide_eq_true hmore
          simp only [hd]
          have hadd : IntKind.i64.wrap ((upTo ks j : Int) + (k : Int)) = (upTo ks (j + 1) : Int) := by rw [hup]; exact (IntWalk.i64_in _ ⟨by omega, by omega⟩).trans (by omega)
          go_wp2
          go_roundw
          case rel => exact ⟨j + 1, hmore, by rw [hup]; go_num, by rw [hls]; exact congrArg Value.bool (decide_eq_decide.2 (by omega)), by omega, I3.out⟩
          case measure => simp [intOf]; omega
        · obtain hje : j + 1 = ks.length := by omega
          have hd : decide (j + 1 < ks.length) = false := decide_eq_false hmore
          simp only [hd]
          go_wp2
          go_ret
          refine .inl ⟨ret_int ?_, ?_, ?_⟩
          · rw [← hje, hup]
            omega
          · rw [← hje, hup]
            omega
          · rw [← hje]
            exact I3.out
      · have Z3 := hide hZ
        clear hZ
        go_wp2
        go_ret
        exact .inr ⟨rfl, .inl Z3.out⟩
section
variable {P : Program}
/-- append, as one step of a region that draws: whatever the source is. -/
theorem step_app {ops : Array Oper} {o : Oper} {a : Act} {w : World} {K : Act → World → Prop} {Q : Exit → Act → World → Prop} {E : Prop}
    (hg : o.guard = none) (s x : Operand) (t : TypeId) (ho : o.op = Op.call { callee := Callee.builtin Builtin.append, args := #[s, x], argTypes := #[t, t] })
    (base : Nat) (e : TypeId) (i : TypeInfo) (z : Value) (bytes : Nat) (ht : P.underlying t = some (.slice e)) (hi : P.info? e = some i) (hz : i.zero = some z)
    (hsize : i.size = 1) (hby : i.bytes = bytes) (hzs : z.cells.size = 1)
    (v : Value) (n : Nat) (xs : List Value) (hs : a.eval s = v) (hown : w.ownsRow base e 1 v n xs)
    (A : Option Addr) (m c : Nat) (news : List Value) (hx : a.eval x = .slice A m c) (hr : Rd w A m c news) (h1 : ∀ u ∈ news, u.oneCell' = true)
    (hn : n + m ≤ 1099511627776) (hb : bytes ≤ 64) (hbase : base ≤ w.heap.size)
    (hK : ∀ A' c' w', w'.ownsRow base e 1 (.slice A' (n + m) c') (n + m) (xs ++ news) → w.grownBy w' v.ownBlock → ((Value.slice A' (n + m) c').ownBlock = v.ownBlock ∨ (Value.slice A' (n + m) c').ownBlock = some w.heap.size) →
      K (a.put o.dst (.slice A' (n + m) c')) w') :
    if Region.wanted o (yielded ops a.tmps) = true then Oper.wp P o a w K Q else E := by
  have hw : Region.wanted o (yielded ops a.tmps) = true := by simp [Region.wanted, hg]
  rw [if_pos hw]
  obtain ⟨A', c', w', hr, h2, h3, h4⟩ := run_app (P := P) w base t o.type e i z bytes ht hi hz hsize hby hzs v n xs hown A m c news hr h1 hn hb hbase
  unfold Oper.wp execOp
  simp only [ho, resolve, invoke, builtin, Sem.run_bind, Sem.run_pure, Result.andThen_ok, List.map_toArray, List.map_cons, List.map_nil, hs, hx, hr]
  exact hK _ _ _ h2 h3 h4
end

/-- The octets that were taken so far, in the variable at block ob; the reader's own variable at block rb. -/
structure Acc (P q : Nat) (D : Nat → Prop) (bs : List UInt8) (em : Bool) (ob rb base : Nat) (w0 : World) (a : Nat) (out : List UInt8) (W : World) : Prop where
  wd : Wd W P q D bs a 0 em
  r : W.cell? ⟨rb, 0, none⟩ = some (.pointer (some ⟨P, 0, none⟩))
  o : ∃ A m c, W.cell? ⟨ob, 0, none⟩ = some (.slice A m c) ∧ W.frozen? ⟨ob, 0, none⟩ = false ∧ W.ownsRow base 5 1 (.slice A m c) m (bv out)
  up : Upd P (some q) w0 W
  bd : w0.heap.size ≤ ob ∧ w0.heap.size ≤ base ∧ P < ob ∧ P < rb ∧ ob < base ∧ rb < base ∧ ob ≠ rb ∧ base ≤ W.heap.size

theorem acc_set {W : World} {ob rb : Nat} {x : Value} (h : W.cell? ⟨rb, 0, none⟩ = some x) (hne : ob ≠ rb) (u : Value) : (W.setCell ⟨ob, 0, none⟩ u).cell? ⟨rb, 0, none⟩ = some x := (cell_setCell_ne _ hne.symm).trans h

section
variable {P q : Nat} {bs : List UInt8} {em : Bool} {ob rb base a a2 : Nat} {w0 W W' w9 w10 : World} {out l : List UInt8}
theorem Acc.drew (h : Acc P q D bs em ob rb base w0 a out W) : Acc P q D bs em ob rb base w0 a out W.drew := ⟨h.wd, h.r, h.o, h.up.drew, h.bd⟩
theorem Acc.upd (h : Acc P q D bs em ob rb base w0 a out W) (hw : Wd W' P q D bs a2 0 em) (u : Upd P (some q) W W') : Acc P q D bs em ob rb base w0 a2 out W' := by
  obtain ⟨A, m, c, h1, h2, h3⟩ := h.o
  have hqp := h.wd.qp
  obtain ⟨b1, b2, b3, b4, b5, b6, b7, b8⟩ := h.bd
  refine ⟨hw, ?_, ⟨A, m, c, ?_, ?_, own_upd h3 u fun k hk => ?_⟩, h.up.trans (Mv.refl _ _) u, b1, b2, b3, b4, b5, b6, b7, Nat.le_trans b8 u.size⟩
  · exact (u.cell (a := ⟨rb, 0, none⟩) (lt_cell h.r) (by simp only; omega) (by simp only [ne_eq, Option.some.injEq]; omega)).trans h.r
  · exact (u.cell (a := ⟨ob, 0, none⟩) (lt_cell h1) (by simp only; omega) (by simp only [ne_eq, Option.some.injEq]; omega)).trans h1
  · exact (u.frozen (a := ⟨ob, 0, none⟩) (lt_cell h1) (by simp only; omega) (by simp only [ne_eq, Option.some.injEq]; omega)).trans h2
  · have := (h3.lt k hk).1
    exact ⟨by omega, by simp only [ne_eq, Option.some.injEq]; omega⟩
/-- Octets are put behind those that were taken. -/
theorem Acc.app (h : Acc P q D bs em ob rb base w0 a out w9) {A A' : Option Addr} {m c m' c' : Nat} (hc : w9.cell? ⟨ob, 0, none⟩ = some (.slice A m c)) (hf : w9.frozen? ⟨ob, 0, none⟩ = false) (ho : w9.ownsRow base 5 1 (.slice A m c) m (bv out))
    (hg : w9.grownBy w10 (Value.slice A m c).ownBlock) (ho' : w10.ownsRow base 5 1 (.slice A' m' c') m' (bv out ++ bv l)) :
    Acc P q D bs em ob rb base w0 a (out ++ l) (w10.setCell ⟨ob, 0, none⟩ (.slice A' m' c')) := by
  have hqp := h.wd.qp
  obtain ⟨b1, b2, b3, b4, b5, b6, b7, b8⟩ := h.bd
  have hk : ∀ k, (Value.slice A m c).ownBlock = some k → base ≤ k := fun k hk => (ho.lt k hk).1
  have hk' : ∀ k, (Value.slice A' m' c').ownBlock = some k → base ≤ k := fun k hk => (ho'.lt k hk).1
  have hwd : Wd w10 P q D bs a 0 em := h.wd.grown hg (fun e => by have := hk _ e.symm; omega) (fun e => by have := hk _ e.symm; omega) (fun j hj => h.wd.dnew (by have := hk j hj; omega))
  have hob : w10.cell? ⟨ob, 0, none⟩ = some (.slice A m c) := (hg.cell_far ⟨ob, 0, none⟩ (lt_cell hc) (fun e => by have := hk _ e.symm; simp only at this; omega)).trans hc
  have hfb : w10.frozen? ⟨ob, 0, none⟩ = false := (hg.frozen_far ⟨ob, 0, none⟩ (lt_cell hc) (fun e => by have := hk _ e.symm; simp only at this; omega)).trans hf
  have hrb : w10.cell? ⟨rb, 0, none⟩ = some (.pointer (some ⟨P, 0, none⟩)) := (hg.cell_far ⟨rb, 0, none⟩ (lt_cell h.r) (fun e => by have := hk _ e.symm; simp only at this; omega)).trans h.r
  refine ⟨hwd.setb b3 _, acc_set hrb b7 _, ⟨A', m', c', World.cell?_setCell_same _ _ _ hob, ?_, ?_⟩, ?_, b1, b2, b3, b4, b5, b6, b7, ?_⟩
  · rw [World.frozen?_setCell]
    exact hfb
  · rw [bv_append]
    exact ownsRow_setCell_other ho' (fun e => by have := hk' _ e; simp only at this; omega) _
  · have hg' := hg.size
    have hu := h.up
    refine ⟨hg.os.trans hu.os, hg.tape.trans hu.tape, hg.output.trans hu.output, ?_, fun k hk1 h1 h2 => (Below.heap_setCell _ _ _ _ (fun e => ?_)).trans ((hg.block k (Nat.lt_of_lt_of_le hk1 hu.size) (fun e => ?_)).trans (hu.block k hk1 h1 h2))⟩
    · have := hu.size
      simp only [World.setCell]
      simpa using (by omega : w0.heap.size ≤ w10.heap.size)
    · simp only at e
      omega
    · have := hk _ e.symm
      omega
  · have := hg.size
    simp only [World.setCell]
    simpa using (by omega : base ≤ w10.heap.size)
end

set_option maxRecDepth 100000 in
set_option maxHeartbeats 1600000 in
theorem takeC_any (P q : Nat) (bs : List UInt8) (em : Bool) (ob rb base : Nat) (w0 : World) (a a2 : Nat) (out l : List UInt8) (n : Int) (w : World) (KO : ∀ W, Wd W P q D bs a 0 em → Calls Try.prog 71 #[.pointer (some ⟨P, 0, none⟩), .int .i64 n] W (WoPost W P q D bs a2 0 em l))
    (hlen : out.length + l.length ≤ 1099511627776) (h : Acc P q D bs em ob rb base w0 a out w) :
    Calls Try.prog 108 #[.int .i64 n, .pointer (some ⟨ob, 0, none⟩), .pointer (some ⟨rb, 0, none⟩)] w fun e w' => e = .returned (.bool true) ∧ Acc P q D bs em ob rb base w0 a2 (out ++ l) w' := by
  obtain ⟨i0, hi, hy0, hy1, hy2⟩ := info_parts Try.info_byte
  have KO := hide KO
  have H := hide h
  have Hd := hide h.drew
  have hne := hide h.bd.2.2.2.2.2.2.1
  obtain ⟨A, m, c, o1, o2, o3⟩ := h.o
  have d1 : w.drew.cell? ⟨ob, 0, none⟩ = some (.slice A m c) := o1
  have hml := hide (RdB.length (Rd.of_own o3))
  have S1 := (show w.drew.cell? ⟨rb, 0, none⟩ = some (.pointer (some ⟨P, 0, none⟩)) from h.r)
  have O3 := hide o3
  have hcm := (Rd.of_own o3).cap
  clear h o3
  go_enter Try.func108, Try.ntmps108
  go_wp2_with (fail)
  go_region_law
    (first
      | (go_simp; go_at_call 71; (with_reducible refine (KO.out _ Hd.out.wd).mono ?_); rintro en w9 ⟨A9, n9, c9, rfl, hr9, hu9, ho9⟩; have M9 := hide (Hd.out.upd hr9 hu9); have hrb9 := M9.out.r; have hrd9 := hide (Rd.of_own ho9); have hmn9 := hide (show m + n9 ≤ 1099511627776 by (have h1 := hml.out); (have h2 := RdB.length (Rd.of_own ho9)); omega); have hown9 := hide (own_upd (show w.drew.ownsRow base 5 1 (.slice A m c) m (bv out) from O3.out) hu9 (fun k hk => by (have h1 := (O3.out.lt k hk).1); (have h2 := Hd.out.bd); (have h3 := Hd.out.wd.qp); exact ⟨by omega, by simp only [ne_eq, Option.some.injEq]; omega⟩)); have hob9 := (hu9.cell (a := ⟨ob, 0, none⟩) (lt_cell d1) (by have h2 := Hd.out.bd; simp only; omega) (by have h2 := Hd.out.bd; have h3 := Hd.out.wd.qp; simp only [ne_eq, Option.some.injEq]; omega)).trans d1; have hfb9 := (hu9.frozen (a := ⟨ob, 0, none⟩) (lt_cell d1) (by have h2 := Hd.out.bd; simp only; omega) (by have h2 := Hd.out.bd; have h3 := Hd.out.wd.qp; simp only [ne_eq, Option.some.injEq]; omega)).trans (show w.drew.frozen? ⟨ob, 0, none⟩ = false from o2); clear hr9 hu9 ho9)
      | (refine step_app rfl (.tmp 5) (.tmp 8) _ rfl base 5 i0 (.int .u8 0) 1 Try.underlying23 hi hy0 hy1 hy2 rfl _ m (bv out) rfl hown9.out A9 n9 c9 (bv l) rfl hrd9.out (bv_one _) hmn9.out (by omega) M9.out.bd.2.2.2.2.2.2.2 ?_; intro A10 c10 w10 hown10 hg10 hl10; have hrb10 : w10.cell? ⟨rb, 0, none⟩ = some (.pointer (some ⟨P, 0, none⟩)) := ((hg10.cell_far ⟨rb, 0, none⟩ (lt_cell hrb9) (fun e => by (have h1 := (hown9.out.lt _ e.symm).1); (have h2 := M9.out.bd); simp only at h1; omega)).trans hrb9); have hob10 : w10.cell? ⟨ob, 0, none⟩ = some (.slice A m c) := ((hg10.cell_far ⟨ob, 0, none⟩ (lt_cell hob9) (fun e => by (have h1 := (hown9.out.lt _ e.symm).1); (have h2 := M9.out.bd); simp only at h1; omega)).trans hob9); have hfb10 : w10.frozen? ⟨ob, 0, none⟩ = false := ((hg10.frozen_far ⟨ob, 0, none⟩ (lt_cell hob9) (fun e => by (have h1 := (hown9.out.lt _ e.symm).1); (have h2 := M9.out.bd); simp only at h1; omega)).trans hfb9)))
  all_goals
    go_wp2
    go_ret
    exact ⟨rfl, M9.out.app hob9 hfb9 hown9.out hg10 hown10⟩
/-- What is known of the cuts. -/
def Good (ks : List Nat) : Prop := ∀ j, j < ks.length → (j + 1 < ks.length → 16384 ≤ ks.getD j 0 ∧ ks.getD j 0 % 16384 = 0 ∧ ks.getD j 0 ≤ 65536) ∧ (¬ j + 1 < ks.length → ks.getD j 0 < 16384) ∧ (lastB ks j = true → ks.getD j 0 < 16384)
theorem good_cuts : ∀ (f n : Nat), n ≤ f → Good (Pl.cuts n)
  | 0, n, h => by
    obtain rfl : n = 0 := by omega
    intro j hj
    have : j = 0 := by simp [Pl.cuts, Pl.cutsF] at hj; omega
    subst this
    simp [Pl.cuts, Pl.cutsF, lastB]
  | f + 1, n, h => by
    by_cases h1 : n < 16384
    · rw [Pl.cuts_small n h1]
      intro j hj
      obtain rfl : j = 0 := by simp at hj; omega
      simp [lastB]
      exact h1
    · have hk := Pl.cutK_pos n (by omega)
      have ih := good_cuts f (n - Pl.cutK n) (by omega)
      have hne := List.length_pos_iff.2 (cuts_ne (n - Pl.cutK n))
      rw [Pl.cuts_big n (by omega)]
      intro j hj
      cases j with
      | zero =>
        simp only [List.getD_cons_zero, List.length_cons]
        refine ⟨fun _ => ?_, fun h => by omega, fun h => by simp [lastB] at h⟩
        unfold Pl.cutK at *
        omega
      | succ j =>
        simp only [List.length_cons] at hj
        have := ih j (by omega)
        simp only [List.getD_cons_succ, List.length_cons]
        refine ⟨fun h => this.1 (by omega), fun h => this.2.1 (by omega), fun h => ?_⟩
        cases j with
        | zero =>
          have h2 : Pl.cutK n < 65536 := by
            rw [lastB_succ] at h
            simpa using h
          have h3 : n - Pl.cutK n < 16384 := by
            unfold Pl.cutK at *
            omega
          rw [Pl.cuts_small _ h3]
          exact h3
        | succ j => exact this.2.2 (by
            rw [lastB_succ] at h ⊢
            simpa using h)
theorem upTo_cuts (n : Nat) : upTo (Pl.cuts n) (Pl.cuts n).length = n := by
  unfold upTo
  rw [List.take_length, cuts_sum]

/-- The bits of the first j pieces. -/
def pfx (ks : List Nat) (b : List UInt8) : Nat → List Bool
  | 0 => []
  | j + 1 => pfx ks b j ++ det (ks.getD j 0 : Nat) ++ Pl.octB ((b.drop (upTo ks j)).take (ks.getD j 0))
theorem put_pfx (ks : List Nat) (b : List UInt8) : ∀ j, j ≤ ks.length → putL ks b = pfx ks b j ++ putL (ks.drop j) (b.drop (upTo ks j))
  | 0, _ => by simp [pfx, upTo]
  | j + 1, h => by
    have ih := put_pfx ks b j (by omega)
    rw [List.drop_eq_getElem_cons (show j < ks.length by omega)] at ih
    simp only [putL] at ih
    have hg : ks.getD j 0 = ks[j]'(by omega) := by simp [List.getD_eq_getElem?_getD, List.getElem?_eq_getElem (show j < ks.length by omega)]
    rw [List.drop_drop] at ih
    rw [ih, upTo_succ ks j (by omega)]
    simp only [pfx, hg, List.append_assoc]
theorem put_mid (ks : List Nat) (b : List UInt8) (j : Nat) (h : j < ks.length) : ∃ post, putL ks b = pfx ks b j ++ det (ks.getD j 0 : Nat) ++ Pl.octB ((b.drop (upTo ks j)).take (ks.getD j 0)) ++ post := ⟨_, put_pfx ks b (j + 1) h⟩
theorem put_end (ks : List Nat) (b : List UInt8) : pfx ks b ks.length = putL ks b := by
  rw [put_pfx ks b ks.length (Nat.le_refl _), List.drop_length]
  simp [putL]

/-- What Take leaves. -/
def LTakePost (w : World) (P q : Nat) (D : Nat → Prop) (bs : List UInt8) (em : Bool) (b : List UInt8) (aE : Nat) (mx : Int) (e : Ending) (w' : World) : Prop :=
  Upd P (some q) w w' ∧ (((b.length : Int) ≤ mx ∧ ∃ A m c, e = .returned (.slice A m c) ∧ Wd w' P q D bs aE 0 em ∧ w'.ownsRow w.heap.size 5 1 (.slice A m c) m (bv b)) ∨ (mx < (b.length : Int) ∧ e = .returned (.slice none 0 0) ∧ ∃ a', Wd w' P q D bs a' 5 em))
def TkY (P q : Nat) (D : Nat → Prop) (bs : List UInt8) (em : Bool) (rb : Nat) (w0 : World) (W : World) : Prop := Upd P (some q) w0 W ∧ W.cell? ⟨rb, 0, none⟩ = some (.pointer (some ⟨P, 0, none⟩)) ∧ ∃ a', Wd W P q D bs a' 5 em

set_option maxRecDepth 100000 in
theorem take_each (P q : Nat) (em : Bool) (L pre post : List Bool) (b : List UInt8) (hL : L = pre ++ putL (Pl.cuts b.length) b ++ post) (hb : b.length ≤ 100000) (ob rb base : Nat) (w0 : World) (mx : Int) :
    EachK P 108 #[.pointer (some ⟨ob, 0, none⟩), .pointer (some ⟨rb, 0, none⟩)] (Pl.cuts b.length) mx
      (fun j W => Acc P q D (packW L) em ob rb base w0 (pre ++ pfx (Pl.cuts b.length) b j).length (b.take (upTo (Pl.cuts b.length) j)) W)
      (fun j W => Acc P q D (packW L) em ob rb base w0 (pre ++ pfx (Pl.cuts b.length) b j ++ det ((Pl.cuts b.length).getD j 0 : Nat)).length (b.take (upTo (Pl.cuts b.length) j)) W)
      (fun _ => False) (TkY P q D (packW L) em rb w0) := by
  have hg := good_cuts b.length b.length (Nat.le_refl _)
  have hup := upTo_cuts b.length
  generalize Pl.cuts b.length = ks at *
  refine ⟨fun j W hj h => ?_, fun j W h => wdErr_any P q _ _ 0 em W h.wd, fun j W h => wdErr_any P q _ _ 0 em W h.wd, fun j W h => ?_, fun W h => ?_, fun j W hj h => ?_, fun j hj => ?_, fun k w => by kernel_rfl⟩
  · obtain ⟨p2, hp⟩ := put_mid ks b j hj
    have hgj := hg j hj
    have hk := ltake_det (D := D) P q em L (pre ++ pfx ks b j) (Pl.octB ((b.drop (upTo ks j)).take (ks.getD j 0)) ++ p2 ++ post) (ks.getD j 0) (lastB ks j) (by
      by_cases hl : ks.getD j 0 < 16384
      · exact .inl hl
      · refine .inr ⟨?_, ?_⟩
        · cases hb : lastB ks j with
          | false => rfl
          | true => exact absurd (hgj.2.2 hb) hl
        · by_cases h2 : j + 1 < ks.length
          · have := hgj.1 h2
            omega
          · exact absurd (hgj.2.1 h2) hl) (by rw [hL, hp]; simp only [List.append_assoc]) W h.wd
    refine hk.mono ?_
    rintro e w' ⟨rfl, hw, hu⟩
    refine ⟨?_, ?_⟩
    · have hd : decide (16384 ≤ ks.getD j 0) = decide (j + 1 < ks.length) := by
        by_cases h2 : j + 1 < ks.length
        · rw [decide_eq_true h2, decide_eq_true (hgj.1 h2).1]
        · rw [decide_eq_false h2, decide_eq_false (by have := hgj.2.1 h2; omega)]
      rw [hd]
    · rw [List.length_append]
      exact h.upd hw hu
  · have hk := wdFail_any P q _ _ 0 5 em W h.wd
    refine hk.mono ?_
    rintro e w' ⟨rfl, hw, hu⟩
    obtain ⟨b1, b2, b3, b4, b5, b6, b7, b8⟩ := h.bd
    have hqp := h.wd.qp
    exact ⟨rfl, h.up.trans (Mv.refl _ _) hu, (hu.cell (a := ⟨rb, 0, none⟩) (lt_cell h.r) (by simp only; omega) (by simp only [ne_eq, Option.some.injEq]; omega)).trans h.r, _, hw⟩
  · obtain ⟨_, _, a', h⟩ := h
    exact wdErr_any P q _ _ 5 em W h
  · obtain ⟨p2, hp⟩ := put_mid ks b j hj
    have hu1 := upTo_succ ks j hj
    have hu2 := upTo_le ks (j + 1)
    have hl : ((b.drop (upTo ks j)).take (ks.getD j 0)).length = ks.getD j 0 := by
      rw [List.length_take, List.length_drop]
      omega
    have hx := takeC_any (D := D) P q (packW L) em ob rb base w0 (pre ++ pfx ks b j ++ det (ks.getD j 0 : Nat)).length ((pre ++ pfx ks b j ++ det (ks.getD j 0 : Nat)).length + 8 * ks.getD j 0) (b.take (upTo ks j)) ((b.drop (upTo ks j)).take (ks.getD j 0)) (ks.getD j 0 : Nat) W (fun W hw => by
      have hk := wdOcts_any (D := D) P q (packW L) (pre ++ pfx ks b j ++ det (ks.getD j 0 : Nat)).length 0 ((ks.getD j 0 : Nat) : Int) em W hw (by omega)
      obtain ⟨e1, e2, e3⟩ := back_octs L (pre ++ pfx ks b j ++ det (ks.getD j 0 : Nat)) (p2 ++ post) ((b.drop (upTo ks j)).take (ks.getD j 0)) (by rw [hL, hp]; simp only [List.append_assoc])
      rw [hl] at e1 e2 e3
      rw [show clOct ((ks.getD j 0 : Nat) : Int) = ks.getD j 0 by unfold clOct; omega, e1, e2, e3] at hk
      exact hk) (by rw [hl, List.length_take]; omega) h
    refine hx.mono ?_
    rintro e w' ⟨rfl, ha⟩
    refine .inl ⟨rfl, ?_⟩
    have e1 : b.take (upTo ks j) ++ (b.drop (upTo ks j)).take (ks.getD j 0) = b.take (upTo ks (j + 1)) := by
      rw [hu1, List.take_add]
    have e2 : (pre ++ pfx ks b (j + 1)).length = (pre ++ pfx ks b j ++ det (ks.getD j 0 : Nat)).length + 8 * ks.getD j 0 := by
      simp only [pfx, List.length_append, Pl.octB_length, hl]
      omega
    rw [e1] at ha
    rw [e2]
    exact ha
  · exact Nat.lt_of_lt_of_le (by omega) ((hg j (by omega)).1 hj).1

set_option maxRecDepth 100000 in
set_option maxHeartbeats 1600000 in
theorem lTake_any (P q : Nat) (em : Bool) (L pre post : List Bool) (b : List UInt8) (most : Int) (hL : L = pre ++ putL (Pl.cuts b.length) b ++ post) (hb : b.length ≤ 100000) (hm : most ≤ 9223372036854775807) (w : World) (h : Wd w P q D (packW L) pre.length 0 em) :
    Calls Try.prog 83 #[.pointer (some ⟨P, 0, none⟩), .int .i64 most] w (LTakePost w P q D (packW L) em b (pre ++ putL (Pl.cuts b.length) b).length (max most 0)) := by
  have H := hide h
  have hP := h.lt
  have KE := hide (fun ob rb base w0 => take_each (D := D) P q em L pre post b hL hb ob rb base w0 (max most 0))
  have hup := hide (upTo_cuts b.length)
  have hne := cuts_ne b.length
  have KA := hide (fun ob rb base w0 (W : World) (hI : Acc P q D (packW L) em ob rb base w0 pre.length [] W) => by
    have := each_any P 108 _ (Pl.cuts b.length) (max most 0) most _ _ _ _ (KE.out ob rb base w0) hne rfl (by omega) (by rw [hup.out]; exact hb) W (by simpa [pfx, upTo] using hI)
    exact this)
  have hend : pfx (Pl.cuts b.length) b (Pl.cuts b.length).length = putL (Pl.cuts b.length) b := put_end _ _
  generalize Pl.cuts b.length = ks at *
  clear h KE hne
  go_enter Try.func83, Try.ntmps83
  go_wp2_with (fail)
  obtain ⟨W, hW⟩ : ∃ W, (w.alloc (.cells #[.pointer (some ⟨P, 0, none⟩)] 80)).alloc (.cells #[.slice none 0 0] 23) = W := ⟨_, rfl⟩
  obtain ⟨hsz, b2, c0, c1, f1⟩ := two w _ _ _ _ W hW
  rw [hW]
  clear hW
  have B2 := hide b2
  have HA : Hid (Acc P q D (packW L) em (w.heap.size + 1) w.heap.size W.heap.size w pre.length [] W) := ⟨H.out.below b2, c0, ⟨none, 0, 0, c1, f1, World.ownsRow_nil _ _ _ _⟩, Upd.of_below b2, by omega, by omega, by omega, by omega, by omega, by omega, by omega, by omega⟩
  refine (KA.out _ _ _ _ _ HA.out).mono ?_
  rintro e w2 (⟨rfl, hle, hI⟩ | ⟨rfl, hZ | ⟨hlt, hY⟩⟩)
  · rw [hup.out, List.take_length, hend] at hI
    rw [hup.out] at hle
    have HI := hide hI
    have r0 := hI.r
    obtain ⟨A, m, c, o0, o1, o2⟩ := hI.o
    have O2 := hide o2
    clear hI o2 hend c0 c1 f1
    go_wp2_with (fail)
    refine (wdErr_any P q _ _ 0 em _ HI.out.wd).mono ?_
    rintro e w3 ⟨rfl, rfl⟩
    go_wp2
    go_ret
    exact ⟨HI.out.up, .inl ⟨hle, A, m, c, rfl, HI.out.wd, own_le O2.out B2.out.size⟩⟩
  · exact hZ.elim
  · rw [hup.out] at hlt
    obtain ⟨y0, y1, a', y2⟩ := hY
    have Y2 := hide y2
    have Y0 := hide y0
    clear y0 y2 c0 c1 f1
    go_wp2_with (fail)
    refine (wdErr_any P q _ _ 5 em _ Y2.out).mono ?_
    rintro e w3 ⟨rfl, rfl⟩
    go_wp2
    go_ret
    exact ⟨Y0.out, .inr ⟨hlt, rfl, a', Y2.out⟩⟩
end Go.Proofs.Ytikfogepdmpfaaa
