import Derived.Test.YtnbjkkhjphjdkaaTakeHead
import Derived.Test.YtnbjkkhjphjdkaaOct9
namespace Go.Proofs.Ytnbjkkhjphjdkaa
open Go.RowKit

theorem cell_setCell_ne {w : World} {a b : Addr} (u : Value) (h : b.block ≠ a.block) : (w.setCell a u).cell? b = w.cell? b := World.cell?_of_block (Below.heap_setCell w a u _ h)
/-- What the result's and the tag's cells are. -/
structure TwoT (w W : World) (u0 u1 v0 v1 : Value) : Prop where
  below : Below w.heap.size w W
  size : w.heap.size + 2 ≤ W.heap.size
  r0 : W.cell? ⟨w.heap.size, 0, none⟩ = some u0
  r1 : W.cell? ⟨w.heap.size, 1, none⟩ = some u1
  t0 : W.cell? ⟨w.heap.size + 1, 0, none⟩ = some v0
  t1 : W.cell? ⟨w.heap.size + 1, 1, none⟩ = some v1
  fr0 : W.frozen? ⟨w.heap.size, 0, none⟩ = false
  fr1 : W.frozen? ⟨w.heap.size, 1, none⟩ = false
  ft0 : W.frozen? ⟨w.heap.size + 1, 0, none⟩ = false
  ft1 : W.frozen? ⟨w.heap.size + 1, 1, none⟩ = false
theorem TwoT.made (w : World) (u0 u1 v0 v1 : Value) (t : Nat) : TwoT w ((w.alloc (.cells #[u0, u1] t)).alloc (.cells #[v0, v1] t)).drew u0 u1 v0 v1 := by
  have b1 : Below w.heap.size w (w.alloc (.cells #[u0, u1] t)) := (Below.refl _ _).alloc (Nat.le_refl _) _
  have e1 : (w.alloc (.cells #[u0, u1] t)).heap.size = w.heap.size + 1 := by simp
  have k0 : (w.alloc (.cells #[u0, u1] t)).cell? ⟨w.heap.size, 0, none⟩ = some u0 := by simp
  have k1 : (w.alloc (.cells #[u0, u1] t)).cell? ⟨w.heap.size, 1, none⟩ = some u1 := by simp
  have f0 : (w.alloc (.cells #[u0, u1] t)).frozen? ⟨w.heap.size, 0, none⟩ = false := by simp
  have f1 : (w.alloc (.cells #[u0, u1] t)).frozen? ⟨w.heap.size, 1, none⟩ = false := by simp
  generalize w.alloc (.cells #[u0, u1] t) = w1 at *
  have b2 : Below w1.heap.size w1 (w1.alloc (.cells #[v0, v1] t)) := (Below.refl _ _).alloc (Nat.le_refl _) _
  have e2 : (w1.alloc (.cells #[v0, v1] t)).heap.size = w1.heap.size + 1 := by simp
  have m0 : (w1.alloc (.cells #[v0, v1] t)).cell? ⟨w1.heap.size, 0, none⟩ = some v0 := by simp
  have m1 : (w1.alloc (.cells #[v0, v1] t)).cell? ⟨w1.heap.size, 1, none⟩ = some v1 := by simp
  have g0 : (w1.alloc (.cells #[v0, v1] t)).frozen? ⟨w1.heap.size, 0, none⟩ = false := by simp
  have g1 : (w1.alloc (.cells #[v0, v1] t)).frozen? ⟨w1.heap.size, 1, none⟩ = false := by simp
  generalize w1.alloc (.cells #[v0, v1] t) = w2 at *
  rw [e1] at m0 m1 g0 g1
  exact ⟨(b1.trans (b2.mono (by omega))).drew, by simp; omega, (b2.cell (by simp only; omega)).trans k0, (b2.cell (by simp only; omega)).trans k1, m0, m1, (b2.frozen (by simp only; omega)).trans f0, (b2.frozen (by simp only; omega)).trans f1, g0, g1⟩
theorem TwoT.more {w W W' : World} {u0 u1 v0 v1 : Value} (h : TwoT w W u0 u1 v0 v1) (b : Below W.heap.size W W') : TwoT w W' u0 u1 v0 v1 := by
  have hs := h.size
  exact ⟨h.below.trans (b.mono h.below.size), Nat.le_trans h.size b.size, (b.cell (by simp only; omega)).trans h.r0, (b.cell (by simp only; omega)).trans h.r1, (b.cell (by simp only; omega)).trans h.t0, (b.cell (by simp only; omega)).trans h.t1,
    (b.frozen (by simp only; omega)).trans h.fr0, (b.frozen (by simp only; omega)).trans h.fr1, (b.frozen (by simp only; omega)).trans h.ft0, (b.frozen (by simp only; omega)).trans h.ft1⟩
theorem TwoT.setN {w W : World} {u0 u1 v0 v1 : Value} (h : TwoT w W u0 u1 v0 v1) (x : Value) : TwoT w (W.setCell ⟨w.heap.size + 1, 1, none⟩ x) u0 u1 v0 x := by
  have hne : w.heap.size ≠ w.heap.size + 1 := by omega
  refine ⟨h.below.setCell (by simp) _, by simpa [World.setCell] using h.size, (cell_setCell_ne _ hne).trans h.r0, (cell_setCell_ne _ hne).trans h.r1, ?_, World.cell?_setCell_same _ _ _ h.t1, ?_, ?_, ?_, ?_⟩
  · rw [World.cell?_setCell_other _ _ _ _ (by simp)]; exact h.t0
  · rw [World.frozen?_setCell]; exact h.fr0
  · rw [World.frozen?_setCell]; exact h.fr1
  · rw [World.frozen?_setCell]; exact h.ft0
  · rw [World.frozen?_setCell]; exact h.ft1
theorem TwoT.end2 {w W : World} {u0 u1 v0 v1 : Value} (h : TwoT w W u0 u1 v0 v1) (x y : Value) : Below w.heap.size w ((W.setCell ⟨w.heap.size, 0, none⟩ x).setCell ⟨w.heap.size, 1, none⟩ y) := (h.below.setCell (Nat.le_refl _) _).setCell (Nat.le_refl _) _

theorem okEq (a l : Value) (m m' : Bool) (x x' : Int) (h1 : m = m') (h2 : x = x') : Ending.returned (.tuple #[a, .bool m, l, .int .i64 x, .int .i64 0]) = Ending.returned (.tuple #[a, .bool m', l, .int .i64 x', .int .i64 0]) := by rw [h1, h2]
theorem e32 (cc : Int) : (cc / 32 % 2 * 32 != 0) = decide (cc / 32 % 2 = 1) := by
  have h3 : cc / 32 % 2 = 0 ∨ cc / 32 % 2 = 1 := by omega
  rcases h3 with h3 | h3 <;> rw [h3] <;> decide

set_option maxRecDepth 100000 in
set_option maxHeartbeats 1600000 in
theorem rheadST0_any (b o n c : Nat) (x : UInt8) (t : List UInt8) (w : World) (h : Rd w (some ⟨b, o, none⟩) n c (bv (x :: t))) (hs : (x.toNat : Int) % 32 < 31) (hd : t = []) :
    Calls Try.prog 18 #[.slice (some ⟨b, o, none⟩) n c] w fun e w' => e = .returned (.tuple #[.agg #[.int .i64 0, .int .i64 0], .bool false, .int .i64 0, .int .i64 0, .int .i64 3]) ∧ Below w.heap.size w w' := by
  have hl := RdB.length h
  have hm := h.lenmax
  have hcap := h.cap
  have hcx := h.max
  rw [List.length_cons] at hl
  have H := hide h
  have hx := x.toNat_lt
  have hx2 : 0 ≤ (x.toNat : Int) ∧ (x.toNat : Int) < 256 := by omega
  have hand := and32 (x.toNat : Int) hx2.1 hx2.2
  have hand2 := and31 (x.toNat : Int) hx2.1 hx2.2
  obtain ⟨b', o', e', hb, hcell⟩ := RdB.at_ h (k := 0) (by simp)
  cases e'
  simp only [Nat.add_zero, List.getElem_cons_zero] at hcell
  have hn2 : 0 < n := by omega
  have hc2 : (w.alloc (.cells #[.int .i64 0, .int .i64 0] 23)).cell? ⟨b, o, none⟩ = some (.int .u8 (x.toNat : Int)) := (World.cell?_alloc_lt w _ _ hb).trans hcell
  have hlen2 : t.length = 0 := by
    rw [hd]
    rfl
  clear h
  generalize hcc : (x.toNat : Int) = cc at *
  clear hcc hx
  obtain rfl : n = 1 := by omega
  have HL := hide hl
  clear hl
  go_enter Try.func18, Try.ntmps18
  go_wp2
  go_region
  have hT := TwoT.made w (.int .i64 0) (.int .i64 0) (.int .i64 (cc / 64)) (.int .i64 (cc % 32)) 23
  have hc3 := (hT.below.cell (p := ⟨b, o, none⟩) hb).trans hcell
  generalize ((w.alloc (.cells #[.int .i64 0, .int .i64 0] 23)).alloc (.cells #[.int .i64 (cc / 64), .int .i64 (cc % 32)] 23)).drew = W at *
  have HT := hide hT
  obtain ⟨_, _, r0, r1, t0, t1, fr0, fr1, ft0, ft1⟩ := hT
  go_wp2
  refine bodyPost_ret (v := .tuple #[.agg #[.int .i64 0, .int .i64 0], .bool false, .int .i64 0, .int .i64 0, .int .i64 3]) ?_ rfl ⟨rfl, HT.out.end2 _ _⟩
  rw [results_cell4 rfl]
  go_simp

set_option maxRecDepth 100000 in
set_option maxHeartbeats 1600000 in
theorem rheadST1_any (b o n c : Nat) (x : UInt8) (t : List UInt8) (w : World) (h : Rd w (some ⟨b, o, none⟩) n c (bv (x :: t))) (hs : (x.toNat : Int) % 32 < 31) (y : UInt8) (s : List UInt8) (hd : t = y :: s) (hy : (y.toNat : Int) < 128) :
    Calls Try.prog 18 #[.slice (some ⟨b, o, none⟩) n c] w fun e w' => e = .returned (.tuple #[.agg #[.int .i64 ((x.toNat : Int) / 64), .int .i64 ((x.toNat : Int) % 32)], .bool (decide ((x.toNat : Int) / 32 % 2 = 1)), .int .i64 (y.toNat : Int), .int .i64 (1 + (0 : Int) + 1), .int .i64 0]) ∧ Below w.heap.size w w' := by
  have hl := RdB.length h
  have hm := h.lenmax
  have hcap := h.cap
  have hcx := h.max
  rw [List.length_cons] at hl
  have H := hide h
  have hx := x.toNat_lt
  have hx2 : 0 ≤ (x.toNat : Int) ∧ (x.toNat : Int) < 256 := by omega
  have hand := and32 (x.toNat : Int) hx2.1 hx2.2
  have hand2 := and31 (x.toNat : Int) hx2.1 hx2.2
  obtain ⟨b', o', e', hb, hcell⟩ := RdB.at_ h (k := 0) (by simp)
  cases e'
  simp only [Nat.add_zero, List.getElem_cons_zero] at hcell
  have hn2 : 0 < n := by omega
  have hc2 : (w.alloc (.cells #[.int .i64 0, .int .i64 0] 23)).cell? ⟨b, o, none⟩ = some (.int .u8 (x.toNat : Int)) := (World.cell?_alloc_lt w _ _ hb).trans hcell
  have hgy : t[0]? = some y := by
    rw [hd]
    rfl
  have hcy : w.cell? ⟨b, o + 1, none⟩ = some (.int .u8 (y.toNat : Int)) := by
    obtain ⟨b1, o1, e1, hc1⟩ := h.2.2.2 hn2
    cases e1
    refine hc1 1 _ ?_
    rw [show (1 : Nat) = 0 + 1 by rfl]
    simp [bv, hgy]
  have hyl := y.toNat_lt
  have hlen2 : t.length = 0 + 1 + s.length := by
    rw [hd, List.length_cons]
    omega
  clear h
  clear hd hgy
  generalize hcc : (x.toNat : Int) = cc at *
  clear hcc hx
  generalize hyy : (y.toNat : Int) = cy at *
  have hcy0 : 0 ≤ cy ∧ cy < 256 := by omega
  clear hyy hyl
  have hqlt : (1 : Int) < (n : Int) := by omega
  have HL := hide hl
  clear hl
  go_enter Try.func18, Try.ntmps18
  go_wp2
  go_region
  have hT := TwoT.made w (.int .i64 0) (.int .i64 0) (.int .i64 (cc / 64)) (.int .i64 (cc % 32)) 23
  have hc3 := (hT.below.cell (p := ⟨b, o, none⟩) hb).trans hcell
  have hcy3 := (hT.below.cell (p := ⟨b, o + 1, none⟩) hb).trans hcy
  generalize ((w.alloc (.cells #[.int .i64 0, .int .i64 0] 23)).alloc (.cells #[.int .i64 (cc / 64), .int .i64 (cc % 32)] 23)).drew = W at *
  have HT := hide hT
  obtain ⟨_, _, r0, r1, t0, t1, fr0, fr1, ft0, ft1⟩ := hT
  go_wp2
  refine bodyPost_ret (v := .tuple #[.agg #[.int .i64 (cc / 64), .int .i64 (cc % 32)], .bool (cc / 32 % 2 * 32 != 0), .int .i64 cy, .int .i64 2, .int .i64 0]) ?_ rfl ⟨okEq _ _ _ _ _ _ (e32 cc) (by omega), HT.out.end2 _ _⟩
  · rw [results_cell4 rfl]
    go_simp

set_option maxRecDepth 100000 in
set_option maxHeartbeats 1600000 in
theorem rheadST2_any (b o n c : Nat) (x : UInt8) (t : List UInt8) (w : World) (h : Rd w (some ⟨b, o, none⟩) n c (bv (x :: t))) (hs : (x.toNat : Int) % 32 < 31) (y : UInt8) (s : List UInt8) (hd : t = y :: s) (k : Nat) (hk : y.toNat = 128 + k) (hk2 : k = 0 ∨ 8 < k) :
    Calls Try.prog 18 #[.slice (some ⟨b, o, none⟩) n c] w fun e w' => e = .returned (.tuple #[.agg #[.int .i64 0, .int .i64 0], .bool false, .int .i64 0, .int .i64 0, .int .i64 4]) ∧ Below w.heap.size w w' := by
  have hl := RdB.length h
  have hm := h.lenmax
  have hcap := h.cap
  have hcx := h.max
  rw [List.length_cons] at hl
  have H := hide h
  have hx := x.toNat_lt
  have hx2 : 0 ≤ (x.toNat : Int) ∧ (x.toNat : Int) < 256 := by omega
  have hand := and32 (x.toNat : Int) hx2.1 hx2.2
  have hand2 := and31 (x.toNat : Int) hx2.1 hx2.2
  obtain ⟨b', o', e', hb, hcell⟩ := RdB.at_ h (k := 0) (by simp)
  cases e'
  simp only [Nat.add_zero, List.getElem_cons_zero] at hcell
  have hn2 : 0 < n := by omega
  have hc2 : (w.alloc (.cells #[.int .i64 0, .int .i64 0] 23)).cell? ⟨b, o, none⟩ = some (.int .u8 (x.toNat : Int)) := (World.cell?_alloc_lt w _ _ hb).trans hcell
  have hgy : t[0]? = some y := by
    rw [hd]
    rfl
  have hcy : w.cell? ⟨b, o + 1, none⟩ = some (.int .u8 (y.toNat : Int)) := by
    obtain ⟨b1, o1, e1, hc1⟩ := h.2.2.2 hn2
    cases e1
    refine hc1 1 _ ?_
    rw [show (1 : Nat) = 0 + 1 by rfl]
    simp [bv, hgy]
  have hyl := y.toNat_lt
  have hlen2 : t.length = 0 + 1 + s.length := by
    rw [hd, List.length_cons]
    omega
  clear h
  clear hd hgy
  generalize hcc : (x.toNat : Int) = cc at *
  clear hcc hx
  generalize hyy : (y.toNat : Int) = cy at *
  have hcy0 : 0 ≤ cy ∧ cy < 256 := by omega
  have hcyk : cy = 128 + (k : Int) := by omega
  have hcyw : IntKind.i64.wrap (cy - 128) = (k : Int) := (IntWalk.i64_in _ ⟨by omega, by omega⟩).trans (by omega)
  have hge : ¬ cy < 128 := by omega
  have hcys : cy - 128 = (k : Int) := by omega
  have HCYK := hide hcyk
  clear hcyk
  clear hyy hyl
  have hqlt : (1 : Int) < (n : Int) := by omega
  have HL := hide hl
  clear hl
  rcases hk2 with rfl | hk2
  · have hk0 : (((0 : Nat) : Int) == 0) = true := by simp
    go_enter Try.func18, Try.ntmps18
    go_wp2
    go_region
    have hT := TwoT.made w (.int .i64 0) (.int .i64 0) (.int .i64 (cc / 64)) (.int .i64 (cc % 32)) 23
    have hc3 := (hT.below.cell (p := ⟨b, o, none⟩) hb).trans hcell
    have hcy3 := (hT.below.cell (p := ⟨b, o + 1, none⟩) hb).trans hcy
    generalize ((w.alloc (.cells #[.int .i64 0, .int .i64 0] 23)).alloc (.cells #[.int .i64 (cc / 64), .int .i64 (cc % 32)] 23)).drew = W at *
    have HT := hide hT
    obtain ⟨_, _, r0, r1, t0, t1, fr0, fr1, ft0, ft1⟩ := hT
    go_wp2
    refine bodyPost_ret (v := .tuple #[.agg #[.int .i64 0, .int .i64 0], .bool false, .int .i64 0, .int .i64 0, .int .i64 4]) ?_ rfl ⟨rfl, HT.out.end2 _ _⟩
    rw [results_cell4 rfl]
    go_simp
  · have hk0 : ((k : Int) == 0) = false := by simp; omega
    have hk9 : (k : Int) > 8 := by omega
    go_enter Try.func18, Try.ntmps18
    go_wp2
    go_region
    have hT := TwoT.made w (.int .i64 0) (.int .i64 0) (.int .i64 (cc / 64)) (.int .i64 (cc % 32)) 23
    have hc3 := (hT.below.cell (p := ⟨b, o, none⟩) hb).trans hcell
    have hcy3 := (hT.below.cell (p := ⟨b, o + 1, none⟩) hb).trans hcy
    generalize ((w.alloc (.cells #[.int .i64 0, .int .i64 0] 23)).alloc (.cells #[.int .i64 (cc / 64), .int .i64 (cc % 32)] 23)).drew = W at *
    have HT := hide hT
    obtain ⟨_, _, r0, r1, t0, t1, fr0, fr1, ft0, ft1⟩ := hT
    go_wp2
    refine bodyPost_ret (v := .tuple #[.agg #[.int .i64 0, .int .i64 0], .bool false, .int .i64 0, .int .i64 0, .int .i64 4]) ?_ rfl ⟨rfl, HT.out.end2 _ _⟩
    rw [results_cell4 rfl]
    go_simp

set_option maxRecDepth 100000 in
set_option maxHeartbeats 1600000 in
theorem rheadST3_any (b o n c : Nat) (x : UInt8) (t : List UInt8) (w : World) (h : Rd w (some ⟨b, o, none⟩) n c (bv (x :: t))) (hs : (x.toNat : Int) % 32 < 31) (y : UInt8) (s : List UInt8) (hd : t = y :: s) (k : Nat) (hk : y.toNat = 128 + k) (hk1 : 1 ≤ k) (hk8 : k ≤ 8) (hsl : s.length < k) :
    Calls Try.prog 18 #[.slice (some ⟨b, o, none⟩) n c] w fun e w' => e = .returned (.tuple #[.agg #[.int .i64 0, .int .i64 0], .bool false, .int .i64 0, .int .i64 0, .int .i64 3]) ∧ Below w.heap.size w w' := by
  have hl := RdB.length h
  have hm := h.lenmax
  have hcap := h.cap
  have hcx := h.max
  rw [List.length_cons] at hl
  have H := hide h
  have hx := x.toNat_lt
  have hx2 : 0 ≤ (x.toNat : Int) ∧ (x.toNat : Int) < 256 := by omega
  have hand := and32 (x.toNat : Int) hx2.1 hx2.2
  have hand2 := and31 (x.toNat : Int) hx2.1 hx2.2
  obtain ⟨b', o', e', hb, hcell⟩ := RdB.at_ h (k := 0) (by simp)
  cases e'
  simp only [Nat.add_zero, List.getElem_cons_zero] at hcell
  have hn2 : 0 < n := by omega
  have hc2 : (w.alloc (.cells #[.int .i64 0, .int .i64 0] 23)).cell? ⟨b, o, none⟩ = some (.int .u8 (x.toNat : Int)) := (World.cell?_alloc_lt w _ _ hb).trans hcell
  have hgy : t[0]? = some y := by
    rw [hd]
    rfl
  have hcy : w.cell? ⟨b, o + 1, none⟩ = some (.int .u8 (y.toNat : Int)) := by
    obtain ⟨b1, o1, e1, hc1⟩ := h.2.2.2 hn2
    cases e1
    refine hc1 1 _ ?_
    rw [show (1 : Nat) = 0 + 1 by rfl]
    simp [bv, hgy]
  have hyl := y.toNat_lt
  have hlen2 : t.length = 0 + 1 + s.length := by
    rw [hd, List.length_cons]
    omega
  clear h
  clear hd hgy
  generalize hcc : (x.toNat : Int) = cc at *
  clear hcc hx
  generalize hyy : (y.toNat : Int) = cy at *
  have hcy0 : 0 ≤ cy ∧ cy < 256 := by omega
  have hcyk : cy = 128 + (k : Int) := by omega
  have hcyw : IntKind.i64.wrap (cy - 128) = (k : Int) := (IntWalk.i64_in _ ⟨by omega, by omega⟩).trans (by omega)
  have hge : ¬ cy < 128 := by omega
  have hcys : cy - 128 = (k : Int) := by omega
  have HCYK := hide hcyk
  clear hcyk
  clear hyy hyl
  have hqlt : (1 : Int) < (n : Int) := by omega
  have hsub : IntKind.i64.wrap ((n : Int) - 2) = (n : Int) - 2 := IntWalk.i64_in _ ⟨by omega, by omega⟩
  have hlt : (n : Int) - 2 < (k : Int) := by omega
  have hk0 : ((k : Int) == 0) = false := by simp; omega
  have hk9 : ¬ (k : Int) > 8 := by omega
  have HL := hide hl
  clear hl
  go_enter Try.func18, Try.ntmps18
  go_wp2
  go_region
  have hT := TwoT.made w (.int .i64 0) (.int .i64 0) (.int .i64 (cc / 64)) (.int .i64 (cc % 32)) 23
  have hc3 := (hT.below.cell (p := ⟨b, o, none⟩) hb).trans hcell
  have hcy3 := (hT.below.cell (p := ⟨b, o + 1, none⟩) hb).trans hcy
  generalize ((w.alloc (.cells #[.int .i64 0, .int .i64 0] 23)).alloc (.cells #[.int .i64 (cc / 64), .int .i64 (cc % 32)] 23)).drew = W at *
  have HT := hide hT
  obtain ⟨_, _, r0, r1, t0, t1, fr0, fr1, ft0, ft1⟩ := hT
  go_wp2
  refine bodyPost_ret (v := .tuple #[.agg #[.int .i64 0, .int .i64 0], .bool false, .int .i64 0, .int .i64 0, .int .i64 3]) ?_ rfl ⟨rfl, HT.out.end2 _ _⟩
  rw [results_cell4 rfl]
  go_simp

set_option maxRecDepth 100000 in
set_option maxHeartbeats 1600000 in
theorem rheadST4_any (b o n c : Nat) (x : UInt8) (t : List UInt8) (w : World) (h : Rd w (some ⟨b, o, none⟩) n c (bv (x :: t))) (hs : (x.toNat : Int) % 32 < 31) (y : UInt8) (s : List UInt8) (hd : t = y :: s) (k : Nat) (hk : y.toNat = 128 + k) (hk1 : 1 ≤ k) (hk8 : k ≤ 8) (hsl : k ≤ s.length) (hv : takeUE (s.take k) ≠ 0 ∨ takeUV (s.take k) < 128 ∨ 2147483647 < takeUV (s.take k)) :
    Calls Try.prog 18 #[.slice (some ⟨b, o, none⟩) n c] w fun e w' => e = .returned (.tuple #[.agg #[.int .i64 0, .int .i64 0], .bool false, .int .i64 0, .int .i64 0, .int .i64 4]) ∧ Below w.heap.size w w' := by
  have hl := RdB.length h
  have hm := h.lenmax
  have hcap := h.cap
  have hcx := h.max
  rw [List.length_cons] at hl
  have H := hide h
  have hx := x.toNat_lt
  have hx2 : 0 ≤ (x.toNat : Int) ∧ (x.toNat : Int) < 256 := by omega
  have hand := and32 (x.toNat : Int) hx2.1 hx2.2
  have hand2 := and31 (x.toNat : Int) hx2.1 hx2.2
  obtain ⟨b', o', e', hb, hcell⟩ := RdB.at_ h (k := 0) (by simp)
  cases e'
  simp only [Nat.add_zero, List.getElem_cons_zero] at hcell
  have hn2 : 0 < n := by omega
  have hc2 : (w.alloc (.cells #[.int .i64 0, .int .i64 0] 23)).cell? ⟨b, o, none⟩ = some (.int .u8 (x.toNat : Int)) := (World.cell?_alloc_lt w _ _ hb).trans hcell
  have hgy : t[0]? = some y := by
    rw [hd]
    rfl
  have hcy : w.cell? ⟨b, o + 1, none⟩ = some (.int .u8 (y.toNat : Int)) := by
    obtain ⟨b1, o1, e1, hc1⟩ := h.2.2.2 hn2
    cases e1
    refine hc1 1 _ ?_
    rw [show (1 : Nat) = 0 + 1 by rfl]
    simp [bv, hgy]
  have hyl := y.toNat_lt
  have hlen2 : t.length = 0 + 1 + s.length := by
    rw [hd, List.length_cons]
    omega
  have hst : Rd w (some ⟨b, o + (1 + 1), none⟩) k (c - (1 + 1)) (bv (s.take k)) := by
    have h1 := (h.dropIf (k := 1 + 1) (by omega)).take (k := k) (by omega)
    rw [if_neg (by omega), bv_drop, bv_take, show (x :: t).drop (1 + 1) = s from ?_] at h1
    · exact h1
    · rw [hd]
      rfl
  have KU := hide (fun A n c W h => refTakeUnsigned_any A n c (s.take k) W h)
  clear h
  clear hd hgy
  have HST := hide hst
  clear hst
  generalize takeUE (s.take k) = ue at *
  generalize takeUV (s.take k) = uv at *
  generalize hcc : (x.toNat : Int) = cc at *
  clear hcc hx
  generalize hyy : (y.toNat : Int) = cy at *
  have hcy0 : 0 ≤ cy ∧ cy < 256 := by omega
  have hcyk : cy = 128 + (k : Int) := by omega
  have hcyw : IntKind.i64.wrap (cy - 128) = (k : Int) := (IntWalk.i64_in _ ⟨by omega, by omega⟩).trans (by omega)
  have hge : ¬ cy < 128 := by omega
  have hcys : cy - 128 = (k : Int) := by omega
  have HCYK := hide hcyk
  clear hcyk
  clear hyy hyl
  have hqlt : (1 : Int) < (n : Int) := by omega
  have hsub : IntKind.i64.wrap ((n : Int) - 2) = (n : Int) - 2 := IntWalk.i64_in _ ⟨by omega, by omega⟩
  have hlt : ¬ (n : Int) - 2 < (k : Int) := by omega
  obtain ⟨q3, hq3⟩ : ∃ q3, 2 + k = q3 := ⟨_, rfl⟩
  have hqi3 : IntKind.i64.wrap (2 + (k : Int)) = (q3 : Int) := (IntWalk.i64_in _ ⟨by omega, by omega⟩).trans (by omega)
  have hq3n : q3 ≤ n := by omega
  have hq3c : (q3 : Int) ≤ (c : Int) := by omega
  have hq30 : 2 ≤ (q3 : Int) := by omega
  have hq3k : q3 - 2 = k := by omega
  have hcq : ¬ c = 2 := by omega
  have hk0 : ((k : Int) == 0) = false := by simp; omega
  have hk9 : ¬ (k : Int) > 8 := by omega
  have HL := hide hl
  clear hl
  rcases (show ue ≠ 0 ∨ (ue = 0 ∧ uv < 128) ∨ (ue = 0 ∧ ¬ uv < 128 ∧ uv > 2147483647) by omega) with hv | ⟨hv, hv2⟩ | ⟨hv, hv2, hv3⟩
  · have hv1 : (ue != 0) = true := by simp [hv]
    go_enter Try.func18, Try.ntmps18
    go_wp2
    go_region
    have hT := TwoT.made w (.int .i64 0) (.int .i64 0) (.int .i64 (cc / 64)) (.int .i64 (cc % 32)) 23
    have hc3 := (hT.below.cell (p := ⟨b, o, none⟩) hb).trans hcell
    have hcy3 := (hT.below.cell (p := ⟨b, o + 1, none⟩) hb).trans hcy
    generalize ((w.alloc (.cells #[.int .i64 0, .int .i64 0] 23)).alloc (.cells #[.int .i64 (cc / 64), .int .i64 (cc % 32)] 23)).drew = W at *
    have HT := hide hT
    obtain ⟨_, _, r0, r1, t0, t1, fr0, fr1, ft0, ft1⟩ := hT
    go_wp2_with (fail)
    refine (KU.out _ _ _ _ (HST.out.below HT.out.below (Nat.le_refl _))).mono ?_
    rintro e w6 ⟨rfl, hb6⟩
    have HT6 := hide (HT.out.more hb6)
    obtain ⟨_, _, z0, z1, z2, z3, z4, z5, z6, z7⟩ := HT6.out
    clear hb6
    go_wp2
    refine bodyPost_ret (v := .tuple #[.agg #[.int .i64 0, .int .i64 0], .bool false, .int .i64 0, .int .i64 0, .int .i64 4]) ?_ rfl ⟨rfl, HT6.out.end2 _ _⟩
    rw [results_cell4 rfl]
    go_simp
  · subst hv
    go_enter Try.func18, Try.ntmps18
    go_wp2
    go_region
    have hT := TwoT.made w (.int .i64 0) (.int .i64 0) (.int .i64 (cc / 64)) (.int .i64 (cc % 32)) 23
    have hc3 := (hT.below.cell (p := ⟨b, o, none⟩) hb).trans hcell
    have hcy3 := (hT.below.cell (p := ⟨b, o + 1, none⟩) hb).trans hcy
    generalize ((w.alloc (.cells #[.int .i64 0, .int .i64 0] 23)).alloc (.cells #[.int .i64 (cc / 64), .int .i64 (cc % 32)] 23)).drew = W at *
    have HT := hide hT
    obtain ⟨_, _, r0, r1, t0, t1, fr0, fr1, ft0, ft1⟩ := hT
    go_wp2_with (fail)
    refine (KU.out _ _ _ _ (HST.out.below HT.out.below (Nat.le_refl _))).mono ?_
    rintro e w6 ⟨rfl, hb6⟩
    have HT6 := hide (HT.out.more hb6)
    obtain ⟨_, _, z0, z1, z2, z3, z4, z5, z6, z7⟩ := HT6.out
    clear hb6
    go_wp2
    refine bodyPost_ret (v := .tuple #[.agg #[.int .i64 0, .int .i64 0], .bool false, .int .i64 0, .int .i64 0, .int .i64 4]) ?_ rfl ⟨rfl, HT6.out.end2 _ _⟩
    rw [results_cell4 rfl]
    go_simp
  · subst hv
    go_enter Try.func18, Try.ntmps18
    go_wp2
    go_region
    have hT := TwoT.made w (.int .i64 0) (.int .i64 0) (.int .i64 (cc / 64)) (.int .i64 (cc % 32)) 23
    have hc3 := (hT.below.cell (p := ⟨b, o, none⟩) hb).trans hcell
    have hcy3 := (hT.below.cell (p := ⟨b, o + 1, none⟩) hb).trans hcy
    generalize ((w.alloc (.cells #[.int .i64 0, .int .i64 0] 23)).alloc (.cells #[.int .i64 (cc / 64), .int .i64 (cc % 32)] 23)).drew = W at *
    have HT := hide hT
    obtain ⟨_, _, r0, r1, t0, t1, fr0, fr1, ft0, ft1⟩ := hT
    go_wp2_with (fail)
    refine (KU.out _ _ _ _ (HST.out.below HT.out.below (Nat.le_refl _))).mono ?_
    rintro e w6 ⟨rfl, hb6⟩
    have HT6 := hide (HT.out.more hb6)
    obtain ⟨_, _, z0, z1, z2, z3, z4, z5, z6, z7⟩ := HT6.out
    clear hb6
    go_wp2
    refine bodyPost_ret (v := .tuple #[.agg #[.int .i64 0, .int .i64 0], .bool false, .int .i64 0, .int .i64 0, .int .i64 4]) ?_ rfl ⟨rfl, HT6.out.end2 _ _⟩
    rw [results_cell4 rfl]
    go_simp

set_option maxRecDepth 100000 in
set_option maxHeartbeats 1600000 in
theorem rheadST5_any (b o n c : Nat) (x : UInt8) (t : List UInt8) (w : World) (h : Rd w (some ⟨b, o, none⟩) n c (bv (x :: t))) (hs : (x.toNat : Int) % 32 < 31) (y : UInt8) (s : List UInt8) (hd : t = y :: s) (k : Nat) (hk : y.toNat = 128 + k) (hk1 : 1 ≤ k) (hk8 : k ≤ 8) (hsl : k ≤ s.length) (he : takeUE (s.take k) = 0) (hv0 : 128 ≤ takeUV (s.take k)) (hv1 : takeUV (s.take k) ≤ 2147483647) :
    Calls Try.prog 18 #[.slice (some ⟨b, o, none⟩) n c] w fun e w' => e = .returned (.tuple #[.agg #[.int .i64 ((x.toNat : Int) / 64), .int .i64 ((x.toNat : Int) % 32)], .bool (decide ((x.toNat : Int) / 32 % 2 = 1)), .int .i64 (takeUV (s.take k)), .int .i64 (1 + (0 : Int) + 1 + (k : Int)), .int .i64 0]) ∧ Below w.heap.size w w' := by
  have hl := RdB.length h
  have hm := h.lenmax
  have hcap := h.cap
  have hcx := h.max
  rw [List.length_cons] at hl
  have H := hide h
  have hx := x.toNat_lt
  have hx2 : 0 ≤ (x.toNat : Int) ∧ (x.toNat : Int) < 256 := by omega
  have hand := and32 (x.toNat : Int) hx2.1 hx2.2
  have hand2 := and31 (x.toNat : Int) hx2.1 hx2.2
  obtain ⟨b', o', e', hb, hcell⟩ := RdB.at_ h (k := 0) (by simp)
  cases e'
  simp only [Nat.add_zero, List.getElem_cons_zero] at hcell
  have hn2 : 0 < n := by omega
  have hc2 : (w.alloc (.cells #[.int .i64 0, .int .i64 0] 23)).cell? ⟨b, o, none⟩ = some (.int .u8 (x.toNat : Int)) := (World.cell?_alloc_lt w _ _ hb).trans hcell
  have hgy : t[0]? = some y := by
    rw [hd]
    rfl
  have hcy : w.cell? ⟨b, o + 1, none⟩ = some (.int .u8 (y.toNat : Int)) := by
    obtain ⟨b1, o1, e1, hc1⟩ := h.2.2.2 hn2
    cases e1
    refine hc1 1 _ ?_
    rw [show (1 : Nat) = 0 + 1 by rfl]
    simp [bv, hgy]
  have hyl := y.toNat_lt
  have hlen2 : t.length = 0 + 1 + s.length := by
    rw [hd, List.length_cons]
    omega
  have hst : Rd w (some ⟨b, o + (1 + 1), none⟩) k (c - (1 + 1)) (bv (s.take k)) := by
    have h1 := (h.dropIf (k := 1 + 1) (by omega)).take (k := k) (by omega)
    rw [if_neg (by omega), bv_drop, bv_take, show (x :: t).drop (1 + 1) = s from ?_] at h1
    · exact h1
    · rw [hd]
      rfl
  have KU := hide (fun A n c W h => refTakeUnsigned_any A n c (s.take k) W h)
  clear h
  clear hd hgy
  have HST := hide hst
  clear hst
  generalize takeUE (s.take k) = ue at *
  generalize takeUV (s.take k) = uv at *
  generalize hcc : (x.toNat : Int) = cc at *
  clear hcc hx
  generalize hyy : (y.toNat : Int) = cy at *
  have hcy0 : 0 ≤ cy ∧ cy < 256 := by omega
  have hcyk : cy = 128 + (k : Int) := by omega
  have hcyw : IntKind.i64.wrap (cy - 128) = (k : Int) := (IntWalk.i64_in _ ⟨by omega, by omega⟩).trans (by omega)
  have hge : ¬ cy < 128 := by omega
  have hcys : cy - 128 = (k : Int) := by omega
  have HCYK := hide hcyk
  clear hcyk
  clear hyy hyl
  have hqlt : (1 : Int) < (n : Int) := by omega
  have hsub : IntKind.i64.wrap ((n : Int) - 2) = (n : Int) - 2 := IntWalk.i64_in _ ⟨by omega, by omega⟩
  have hlt : ¬ (n : Int) - 2 < (k : Int) := by omega
  obtain ⟨q3, hq3⟩ : ∃ q3, 2 + k = q3 := ⟨_, rfl⟩
  have hqi3 : IntKind.i64.wrap (2 + (k : Int)) = (q3 : Int) := (IntWalk.i64_in _ ⟨by omega, by omega⟩).trans (by omega)
  have hq3n : q3 ≤ n := by omega
  have hq3c : (q3 : Int) ≤ (c : Int) := by omega
  have hq30 : 2 ≤ (q3 : Int) := by omega
  have hq3k : q3 - 2 = k := by omega
  have hcq : ¬ c = 2 := by omega
  have huw : wrap64 uv = uv := IntWalk.wrap64_in uv ⟨by omega, by omega⟩
  have huw2 : IntKind.i64.wrap uv = uv := IntWalk.i64_in uv ⟨by omega, by omega⟩
  have hk0 : ((k : Int) == 0) = false := by simp; omega
  have hk9 : ¬ (k : Int) > 8 := by omega
  have HL := hide hl
  clear hl
  go_enter Try.func18, Try.ntmps18
  go_wp2
  go_region
  have hT := TwoT.made w (.int .i64 0) (.int .i64 0) (.int .i64 (cc / 64)) (.int .i64 (cc % 32)) 23
  have hc3 := (hT.below.cell (p := ⟨b, o, none⟩) hb).trans hcell
  have hcy3 := (hT.below.cell (p := ⟨b, o + 1, none⟩) hb).trans hcy
  generalize ((w.alloc (.cells #[.int .i64 0, .int .i64 0] 23)).alloc (.cells #[.int .i64 (cc / 64), .int .i64 (cc % 32)] 23)).drew = W at *
  have HT := hide hT
  obtain ⟨_, _, r0, r1, t0, t1, fr0, fr1, ft0, ft1⟩ := hT
  go_wp2_with (fail)
  refine (KU.out _ _ _ _ (HST.out.below HT.out.below (Nat.le_refl _))).mono ?_
  rintro e w6 ⟨rfl, hb6⟩
  have HT6 := hide (HT.out.more hb6)
  obtain ⟨_, _, z0, z1, z2, z3, z4, z5, z6, z7⟩ := HT6.out
  clear hb6
  go_wp2
  refine bodyPost_ret (v := .tuple #[.agg #[.int .i64 (cc / 64), .int .i64 (cc % 32)], .bool (cc / 32 % 2 * 32 != 0), .int .i64 uv, .int .i64 (q3 : Int), .int .i64 0]) ?_ rfl ⟨okEq _ _ _ _ _ _ (e32 cc) (by omega), HT6.out.end2 _ _⟩
  · rw [results_cell4 rfl]
    go_simp
end Go.Proofs.Ytnbjkkhjphjdkaa
