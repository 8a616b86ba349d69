import Derived.Test.YtnbjkkhjphjdkaaRefHead
namespace Go.Proofs.Ytnbjkkhjphjdkaa
open Go.RowKit

set_option maxRecDepth 100000 in
set_option maxHeartbeats 6400000 in
theorem rheadGT0_any (b o n c : Nat) (x : UInt8) (t : List UInt8) (w : World) (h : Rd w (some ⟨b, o, none⟩) n c (bv (x :: t))) (hs : ¬ (x.toNat : Int) % 32 < 31) (r : Int) (j : Nat) (hg : tg 0 0 t = (r, (j : Int), 0)) (hr0 : 31 ≤ r) (hr1 : r ≤ 268435456) (hd : t.drop j = []) :
    Calls Try.prog 18 #[.slice (some ⟨b, o, none⟩) n c] w fun e w' => e = .returned (.tuple #[.agg #[.int .i64 0, .int .i64 0], .bool false, .int .i64 0, .int .i64 0, .int .i64 3]) ∧ Below w.heap.size w w' := by
  have hl := RdB.length h
  have hm := h.lenmax
  have hcap := h.cap
  have hcx := h.max
  rw [List.length_cons] at hl
  have H := hide h
  have hx := x.toNat_lt
  have hx2 : 0 ≤ (x.toNat : Int) ∧ (x.toNat : Int) < 256 := by omega
  have hand := and32 (x.toNat : Int) hx2.1 hx2.2
  have hand2 := and31 (x.toNat : Int) hx2.1 hx2.2
  obtain ⟨b', o', e', hb, hcell⟩ := RdB.at_ h (k := 0) (by simp)
  cases e'
  simp only [Nat.add_zero, List.getElem_cons_zero] at hcell
  have hn2 : 0 < n := by omega
  have hc2 : (w.alloc (.cells #[.int .i64 0, .int .i64 0] 23)).cell? ⟨b, o, none⟩ = some (.int .u8 (x.toNat : Int)) := (World.cell?_alloc_lt w _ _ hb).trans hcell
  obtain ⟨_, _, j', j1', j2', hj', _, _⟩ := tg_own t r (j : Int) hg
  have j1 : 1 ≤ j := by omega
  have j2 : j ≤ t.length := by omega
  clear j1' j2' hj'
  have hlen2 : t.length = j := by
    have := congrArg List.length hd
    rw [List.length_drop, List.length_nil] at this
    omega
  have KG := hide (fun A n c W h => refTakeGroups_any A n c t W h)
  have hdt := h.dropIf (k := 1) (by omega)
  rw [bv_drop, List.drop_succ_cons, List.drop_zero] at hdt
  have HDT := hide hdt
  clear hdt
  rw [hg] at KG
  clear h
  generalize hcc : (x.toNat : Int) = cc at *
  clear hcc hx
  obtain ⟨q, hq⟩ : ∃ q, 1 + j = q := ⟨_, rfl⟩
  have hqi : IntKind.i64.wrap (1 + (j : Int)) = (q : Int) := (IntWalk.i64_in _ ⟨by omega, by omega⟩).trans (by omega)
  have hq0 : (0 : Int) ≤ (q : Int) := by omega
  have hq1 : 1 ≤ q := by omega
  have hqn : q ≤ n := by omega
  have hqge : (q : Int) ≥ (n : Int) := by omega
  obtain ⟨q2, hq2⟩ : ∃ q2, q + 1 = q2 := ⟨_, rfl⟩
  clear hq2
  have hrw : wrap64 r = r := IntWalk.wrap64_in r ⟨by omega, by omega⟩
  have hrw2 : IntKind.i64.wrap r = r := IntWalk.i64_in r ⟨by omega, by omega⟩
  have HL := hide hl
  clear hl
  have hc1 : ¬ c = 1 := by omega
  have HDT := HDT.out
  rw [if_neg hc1] at HDT
  have HDT := hide HDT
  go_enter Try.func18, Try.ntmps18
  go_wp2
  go_region
  have hT := TwoT.made w (.int .i64 0) (.int .i64 0) (.int .i64 (cc / 64)) (.int .i64 (cc % 32)) 23
  have hc3 := (hT.below.cell (p := ⟨b, o, none⟩) hb).trans hcell
  generalize ((w.alloc (.cells #[.int .i64 0, .int .i64 0] 23)).alloc (.cells #[.int .i64 (cc / 64), .int .i64 (cc % 32)] 23)).drew = W at *
  have HT := hide hT
  obtain ⟨_, _, r0, r1, t0, t1, fr0, fr1, ft0, ft1⟩ := hT
  go_wp2_with (fail)
  refine (KG.out _ _ _ _ (HDT.out.below HT.out.below (Nat.le_refl _))).mono ?_
  rintro e w4 ⟨rfl, rfl⟩
  have HT5 := hide (HT.out.setN (.int .i64 r))
  obtain ⟨_, _, s0, s1, u0, u1, gr0, gr1, gt0, gt1⟩ := HT5.out
  go_wp2
  refine bodyPost_ret (v := .tuple #[.agg #[.int .i64 0, .int .i64 0], .bool false, .int .i64 0, .int .i64 0, .int .i64 3]) ?_ rfl ⟨rfl, HT5.out.end2 _ _⟩
  rw [results_cell4 rfl]
  go_simp

set_option maxRecDepth 100000 in
set_option maxHeartbeats 6400000 in
theorem rheadGT1_any (b o n c : Nat) (x : UInt8) (t : List UInt8) (w : World) (h : Rd w (some ⟨b, o, none⟩) n c (bv (x :: t))) (hs : ¬ (x.toNat : Int) % 32 < 31) (r : Int) (j : Nat) (hg : tg 0 0 t = (r, (j : Int), 0)) (hr0 : 31 ≤ r) (hr1 : r ≤ 268435456) (y : UInt8) (s : List UInt8) (hd : t.drop j = y :: s) (hy : (y.toNat : Int) < 128) :
    Calls Try.prog 18 #[.slice (some ⟨b, o, none⟩) n c] w fun e w' => e = .returned (.tuple #[.agg #[.int .i64 ((x.toNat : Int) / 64), .int .i64 r], .bool (decide ((x.toNat : Int) / 32 % 2 = 1)), .int .i64 (y.toNat : Int), .int .i64 (1 + (j : Int) + 1), .int .i64 0]) ∧ Below w.heap.size w w' := by
  have hl := RdB.length h
  have hm := h.lenmax
  have hcap := h.cap
  have hcx := h.max
  rw [List.length_cons] at hl
  have H := hide h
  have hx := x.toNat_lt
  have hx2 : 0 ≤ (x.toNat : Int) ∧ (x.toNat : Int) < 256 := by omega
  have hand := and32 (x.toNat : Int) hx2.1 hx2.2
  have hand2 := and31 (x.toNat : Int) hx2.1 hx2.2
  obtain ⟨b', o', e', hb, hcell⟩ := RdB.at_ h (k := 0) (by simp)
  cases e'
  simp only [Nat.add_zero, List.getElem_cons_zero] at hcell
  have hn2 : 0 < n := by omega
  have hc2 : (w.alloc (.cells #[.int .i64 0, .int .i64 0] 23)).cell? ⟨b, o, none⟩ = some (.int .u8 (x.toNat : Int)) := (World.cell?_alloc_lt w _ _ hb).trans hcell
  obtain ⟨_, _, j', j1', j2', hj', _, _⟩ := tg_own t r (j : Int) hg
  have j1 : 1 ≤ j := by omega
  have j2 : j ≤ t.length := by omega
  clear j1' j2' hj'
  have hgy : t[j]? = some y := by
    have := congrArg (fun l => l[0]?) hd
    simpa using this
  have hcy : w.cell? ⟨b, o + (1 + j), none⟩ = some (.int .u8 (y.toNat : Int)) := by
    obtain ⟨b1, o1, e1, hc1⟩ := h.2.2.2 hn2
    cases e1
    refine hc1 (1 + j) _ ?_
    rw [Nat.add_comm 1 j]
    simp [bv, hgy]
  have hyl := y.toNat_lt
  have hlen2 : t.length = j + 1 + s.length := by
    have := congrArg List.length hd
    rw [List.length_drop, List.length_cons] at this
    omega
  have KG := hide (fun A n c W h => refTakeGroups_any A n c t W h)
  have hdt := h.dropIf (k := 1) (by omega)
  rw [bv_drop, List.drop_succ_cons, List.drop_zero] at hdt
  have HDT := hide hdt
  clear hdt
  rw [hg] at KG
  clear h
  clear hd hgy
  generalize hcc : (x.toNat : Int) = cc at *
  clear hcc hx
  generalize hyy : (y.toNat : Int) = cy at *
  have hcy0 : 0 ≤ cy ∧ cy < 256 := by omega
  clear hyy hyl
  obtain ⟨q, hq⟩ : ∃ q, 1 + j = q := ⟨_, rfl⟩
  have hqi : IntKind.i64.wrap (1 + (j : Int)) = (q : Int) := (IntWalk.i64_in _ ⟨by omega, by omega⟩).trans (by omega)
  have hq0 : (0 : Int) ≤ (q : Int) := by omega
  have hq1 : 1 ≤ q := by omega
  have hqn : q ≤ n := by omega
  rw [hq] at hcy
  have hqlt : (q : Int) < (n : Int) := by omega
  obtain ⟨q2, hq2⟩ : ∃ q2, q + 1 = q2 := ⟨_, rfl⟩
  have hqi2 : IntKind.i64.wrap ((q : Int) + 1) = (q2 : Int) := (IntWalk.i64_in _ ⟨by omega, by omega⟩).trans (by omega)
  have hrw : wrap64 r = r := IntWalk.wrap64_in r ⟨by omega, by omega⟩
  have hrw2 : IntKind.i64.wrap r = r := IntWalk.i64_in r ⟨by omega, by omega⟩
  have HL := hide hl
  clear hl
  have hc1 : ¬ c = 1 := by omega
  have HDT := HDT.out
  rw [if_neg hc1] at HDT
  have HDT := hide HDT
  go_enter Try.func18, Try.ntmps18
  go_wp2
  go_region
  have hT := TwoT.made w (.int .i64 0) (.int .i64 0) (.int .i64 (cc / 64)) (.int .i64 (cc % 32)) 23
  have hc3 := (hT.below.cell (p := ⟨b, o, none⟩) hb).trans hcell
  have hcy3 := (hT.below.cell (p := ⟨b, o + q, none⟩) hb).trans hcy
  generalize ((w.alloc (.cells #[.int .i64 0, .int .i64 0] 23)).alloc (.cells #[.int .i64 (cc / 64), .int .i64 (cc % 32)] 23)).drew = W at *
  have HT := hide hT
  obtain ⟨_, _, r0, r1, t0, t1, fr0, fr1, ft0, ft1⟩ := hT
  go_wp2_with (fail)
  refine (KG.out _ _ _ _ (HDT.out.below HT.out.below (Nat.le_refl _))).mono ?_
  rintro e w4 ⟨rfl, rfl⟩
  have HT5 := hide (HT.out.setN (.int .i64 r))
  have hcy5 := (cell_setCell_ne (w := W) (a := ⟨w.heap.size + 1, 1, none⟩) (b := ⟨b, o + q, none⟩) (.int .i64 r) (by simp only; omega)).trans hcy3
  obtain ⟨_, _, s0, s1, u0, u1, gr0, gr1, gt0, gt1⟩ := HT5.out
  go_wp2
  refine bodyPost_ret (v := .tuple #[.agg #[.int .i64 (cc / 64), .int .i64 r], .bool (cc / 32 % 2 * 32 != 0), .int .i64 cy, .int .i64 (q2 : Int), .int .i64 0]) ?_ rfl ⟨okEq _ _ _ _ _ _ (e32 cc) (by omega), HT5.out.end2 _ _⟩
  · rw [results_cell4 rfl]
    go_simp

set_option maxRecDepth 100000 in
set_option maxHeartbeats 6400000 in
theorem rheadGT2_any (b o n c : Nat) (x : UInt8) (t : List UInt8) (w : World) (h : Rd w (some ⟨b, o, none⟩) n c (bv (x :: t))) (hs : ¬ (x.toNat : Int) % 32 < 31) (r : Int) (j : Nat) (hg : tg 0 0 t = (r, (j : Int), 0)) (hr0 : 31 ≤ r) (hr1 : r ≤ 268435456) (y : UInt8) (s : List UInt8) (hd : t.drop j = y :: s) (k : Nat) (hk : y.toNat = 128 + k) (hk2 : k = 0 ∨ 8 < k) :
    Calls Try.prog 18 #[.slice (some ⟨b, o, none⟩) n c] w fun e w' => e = .returned (.tuple #[.agg #[.int .i64 0, .int .i64 0], .bool false, .int .i64 0, .int .i64 0, .int .i64 4]) ∧ Below w.heap.size w w' := by
  have hl := RdB.length h
  have hm := h.lenmax
  have hcap := h.cap
  have hcx := h.max
  rw [List.length_cons] at hl
  have H := hide h
  have hx := x.toNat_lt
  have hx2 : 0 ≤ (x.toNat : Int) ∧ (x.toNat : Int) < 256 := by omega
  have hand := and32 (x.toNat : Int) hx2.1 hx2.2
  have hand2 := and31 (x.toNat : Int) hx2.1 hx2.2
  obtain ⟨b', o', e', hb, hcell⟩ := RdB.at_ h (k := 0) (by simp)
  cases e'
  simp only [Nat.add_zero, List.getElem_cons_zero] at hcell
  have hn2 : 0 < n := by omega
  have hc2 : (w.alloc (.cells #[.int .i64 0, .int .i64 0] 23)).cell? ⟨b, o, none⟩ = some (.int .u8 (x.toNat : Int)) := (World.cell?_alloc_lt w _ _ hb).trans hcell
  obtain ⟨_, _, j', j1', j2', hj', _, _⟩ := tg_own t r (j : Int) hg
  have j1 : 1 ≤ j := by omega
  have j2 : j ≤ t.length := by omega
  clear j1' j2' hj'
  have hgy : t[j]? = some y := by
    have := congrArg (fun l => l[0]?) hd
    simpa using this
  have hcy : w.cell? ⟨b, o + (1 + j), none⟩ = some (.int .u8 (y.toNat : Int)) := by
    obtain ⟨b1, o1, e1, hc1⟩ := h.2.2.2 hn2
    cases e1
    refine hc1 (1 + j) _ ?_
    rw [Nat.add_comm 1 j]
    simp [bv, hgy]
  have hyl := y.toNat_lt
  have hlen2 : t.length = j + 1 + s.length := by
    have := congrArg List.length hd
    rw [List.length_drop, List.length_cons] at this
    omega
  have KG := hide (fun A n c W h => refTakeGroups_any A n c t W h)
  have hdt := h.dropIf (k := 1) (by omega)
  rw [bv_drop, List.drop_succ_cons, List.drop_zero] at hdt
  have HDT := hide hdt
  clear hdt
  rw [hg] at KG
  clear h
  clear hd hgy
  generalize hcc : (x.toNat : Int) = cc at *
  clear hcc hx
  generalize hyy : (y.toNat : Int) = cy at *
  have hcy0 : 0 ≤ cy ∧ cy < 256 := by omega
  have hcyk : cy = 128 + (k : Int) := by omega
  have hcyw : IntKind.i64.wrap (cy - 128) = (k : Int) := (IntWalk.i64_in _ ⟨by omega, by omega⟩).trans (by omega)
  have hge : ¬ cy < 128 := by omega
  have hcys : cy - 128 = (k : Int) := by omega
  have HCYK := hide hcyk
  clear hcyk
  clear hyy hyl
  obtain ⟨q, hq⟩ : ∃ q, 1 + j = q := ⟨_, rfl⟩
  have hqi : IntKind.i64.wrap (1 + (j : Int)) = (q : Int) := (IntWalk.i64_in _ ⟨by omega, by omega⟩).trans (by omega)
  have hq0 : (0 : Int) ≤ (q : Int) := by omega
  have hq1 : 1 ≤ q := by omega
  have hqn : q ≤ n := by omega
  rw [hq] at hcy
  have hqlt : (q : Int) < (n : Int) := by omega
  obtain ⟨q2, hq2⟩ : ∃ q2, q + 1 = q2 := ⟨_, rfl⟩
  have hqi2 : IntKind.i64.wrap ((q : Int) + 1) = (q2 : Int) := (IntWalk.i64_in _ ⟨by omega, by omega⟩).trans (by omega)
  have hrw : wrap64 r = r := IntWalk.wrap64_in r ⟨by omega, by omega⟩
  have hrw2 : IntKind.i64.wrap r = r := IntWalk.i64_in r ⟨by omega, by omega⟩
  have HL := hide hl
  clear hl
  have hc1 : ¬ c = 1 := by omega
  have HDT := HDT.out
  rw [if_neg hc1] at HDT
  have HDT := hide HDT
  rcases hk2 with rfl | hk2
  · have hk0 : (((0 : Nat) : Int) == 0) = true := by simp
    go_enter Try.func18, Try.ntmps18
    go_wp2
    go_region
    have hT := TwoT.made w (.int .i64 0) (.int .i64 0) (.int .i64 (cc / 64)) (.int .i64 (cc % 32)) 23
    have hc3 := (hT.below.cell (p := ⟨b, o, none⟩) hb).trans hcell
    have hcy3 := (hT.below.cell (p := ⟨b, o + q, none⟩) hb).trans hcy
    generalize ((w.alloc (.cells #[.int .i64 0, .int .i64 0] 23)).alloc (.cells #[.int .i64 (cc / 64), .int .i64 (cc % 32)] 23)).drew = W at *
    have HT := hide hT
    obtain ⟨_, _, r0, r1, t0, t1, fr0, fr1, ft0, ft1⟩ := hT
    go_wp2_with (fail)
    refine (KG.out _ _ _ _ (HDT.out.below HT.out.below (Nat.le_refl _))).mono ?_
    rintro e w4 ⟨rfl, rfl⟩
    have HT5 := hide (HT.out.setN (.int .i64 r))
    have hcy5 := (cell_setCell_ne (w := W) (a := ⟨w.heap.size + 1, 1, none⟩) (b := ⟨b, o + q, none⟩) (.int .i64 r) (by simp only; omega)).trans hcy3
    obtain ⟨_, _, s0, s1, u0, u1, gr0, gr1, gt0, gt1⟩ := HT5.out
    go_wp2
    refine bodyPost_ret (v := .tuple #[.agg #[.int .i64 0, .int .i64 0], .bool false, .int .i64 0, .int .i64 0, .int .i64 4]) ?_ rfl ⟨rfl, HT5.out.end2 _ _⟩
    rw [results_cell4 rfl]
    go_simp
  · have hk0 : ((k : Int) == 0) = false := by simp; omega
    have hk9 : (k : Int) > 8 := by omega
    go_enter Try.func18, Try.ntmps18
    go_wp2
    go_region
    have hT := TwoT.made w (.int .i64 0) (.int .i64 0) (.int .i64 (cc / 64)) (.int .i64 (cc % 32)) 23
    have hc3 := (hT.below.cell (p := ⟨b, o, none⟩) hb).trans hcell
    have hcy3 := (hT.below.cell (p := ⟨b, o + q, none⟩) hb).trans hcy
    generalize ((w.alloc (.cells #[.int .i64 0, .int .i64 0] 23)).alloc (.cells #[.int .i64 (cc / 64), .int .i64 (cc % 32)] 23)).drew = W at *
    have HT := hide hT
    obtain ⟨_, _, r0, r1, t0, t1, fr0, fr1, ft0, ft1⟩ := hT
    go_wp2_with (fail)
    refine (KG.out _ _ _ _ (HDT.out.below HT.out.below (Nat.le_refl _))).mono ?_
    rintro e w4 ⟨rfl, rfl⟩
    have HT5 := hide (HT.out.setN (.int .i64 r))
    have hcy5 := (cell_setCell_ne (w := W) (a := ⟨w.heap.size + 1, 1, none⟩) (b := ⟨b, o + q, none⟩) (.int .i64 r) (by simp only; omega)).trans hcy3
    obtain ⟨_, _, s0, s1, u0, u1, gr0, gr1, gt0, gt1⟩ := HT5.out
    go_wp2
    refine bodyPost_ret (v := .tuple #[.agg #[.int .i64 0, .int .i64 0], .bool false, .int .i64 0, .int .i64 0, .int .i64 4]) ?_ rfl ⟨rfl, HT5.out.end2 _ _⟩
    rw [results_cell4 rfl]
    go_simp

set_option maxRecDepth 100000 in
set_option maxHeartbeats 6400000 in
theorem rheadGT3_any (b o n c : Nat) (x : UInt8) (t : List UInt8) (w : World) (h : Rd w (some ⟨b, o, none⟩) n c (bv (x :: t))) (hs : ¬ (x.toNat : Int) % 32 < 31) (r : Int) (j : Nat) (hg : tg 0 0 t = (r, (j : Int), 0)) (hr0 : 31 ≤ r) (hr1 : r ≤ 268435456) (y : UInt8) (s : List UInt8) (hd : t.drop j = y :: s) (k : Nat) (hk : y.toNat = 128 + k) (hk1 : 1 ≤ k) (hk8 : k ≤ 8) (hsl : s.length < k) :
    Calls Try.prog 18 #[.slice (some ⟨b, o, none⟩) n c] w fun e w' => e = .returned (.tuple #[.agg #[.int .i64 0, .int .i64 0], .bool false, .int .i64 0, .int .i64 0, .int .i64 3]) ∧ Below w.heap.size w w' := by
  have hl := RdB.length h
  have hm := h.lenmax
  have hcap := h.cap
  have hcx := h.max
  rw [List.length_cons] at hl
  have H := hide h
  have hx := x.toNat_lt
  have hx2 : 0 ≤ (x.toNat : Int) ∧ (x.toNat : Int) < 256 := by omega
  have hand := and32 (x.toNat : Int) hx2.1 hx2.2
  have hand2 := and31 (x.toNat : Int) hx2.1 hx2.2
  obtain ⟨b', o', e', hb, hcell⟩ := RdB.at_ h (k := 0) (by simp)
  cases e'
  simp only [Nat.add_zero, List.getElem_cons_zero] at hcell
  have hn2 : 0 < n := by omega
  have hc2 : (w.alloc (.cells #[.int .i64 0, .int .i64 0] 23)).cell? ⟨b, o, none⟩ = some (.int .u8 (x.toNat : Int)) := (World.cell?_alloc_lt w _ _ hb).trans hcell
  obtain ⟨_, _, j', j1', j2', hj', _, _⟩ := tg_own t r (j : Int) hg
  have j1 : 1 ≤ j := by omega
  have j2 : j ≤ t.length := by omega
  clear j1' j2' hj'
  have hgy : t[j]? = some y := by
    have := congrArg (fun l => l[0]?) hd
    simpa using this
  have hcy : w.cell? ⟨b, o + (1 + j), none⟩ = some (.int .u8 (y.toNat : Int)) := by
    obtain ⟨b1, o1, e1, hc1⟩ := h.2.2.2 hn2
    cases e1
    refine hc1 (1 + j) _ ?_
    rw [Nat.add_comm 1 j]
    simp [bv, hgy]
  have hyl := y.toNat_lt
  have hlen2 : t.length = j + 1 + s.length := by
    have := congrArg List.length hd
    rw [List.length_drop, List.length_cons] at this
    omega
  have KG := hide (fun A n c W h => refTakeGroups_any A n c t W h)
  have hdt := h.dropIf (k := 1) (by omega)
  rw [bv_drop, List.drop_succ_cons, List.drop_zero] at hdt
  have HDT := hide hdt
  clear hdt
  rw [hg] at KG
  clear h
  clear hd hgy
  generalize hcc : (x.toNat : Int) = cc at *
  clear hcc hx
  generalize hyy : (y.toNat : Int) = cy at *
  have hcy0 : 0 ≤ cy ∧ cy < 256 := by omega
  have hcyk : cy = 128 + (k : Int) := by omega
  have hcyw : IntKind.i64.wrap (cy - 128) = (k : Int) := (IntWalk.i64_in _ ⟨by omega, by omega⟩).trans (by omega)
  have hge : ¬ cy < 128 := by omega
  have hcys : cy - 128 = (k : Int) := by omega
  have HCYK := hide hcyk
  clear hcyk
  clear hyy hyl
  obtain ⟨q, hq⟩ : ∃ q, 1 + j = q := ⟨_, rfl⟩
  have hqi : IntKind.i64.wrap (1 + (j : Int)) = (q : Int) := (IntWalk.i64_in _ ⟨by omega, by omega⟩).trans (by omega)
  have hq0 : (0 : Int) ≤ (q : Int) := by omega
  have hq1 : 1 ≤ q := by omega
  have hqn : q ≤ n := by omega
  rw [hq] at hcy
  have hqlt : (q : Int) < (n : Int) := by omega
  obtain ⟨q2, hq2⟩ : ∃ q2, q + 1 = q2 := ⟨_, rfl⟩
  have hqi2 : IntKind.i64.wrap ((q : Int) + 1) = (q2 : Int) := (IntWalk.i64_in _ ⟨by omega, by omega⟩).trans (by omega)
  have hrw : wrap64 r = r := IntWalk.wrap64_in r ⟨by omega, by omega⟩
  have hrw2 : IntKind.i64.wrap r = r := IntWalk.i64_in r ⟨by omega, by omega⟩
  have hsub : IntKind.i64.wrap ((n : Int) - (q2 : Int)) = (n : Int) - (q2 : Int) := IntWalk.i64_in _ ⟨by omega, by omega⟩
  have hlt : (n : Int) - (q2 : Int) < (k : Int) := by omega
  have hk0 : ((k : Int) == 0) = false := by simp; omega
  have hk9 : ¬ (k : Int) > 8 := by omega
  have HL := hide hl
  clear hl
  have hc1 : ¬ c = 1 := by omega
  have HDT := HDT.out
  rw [if_neg hc1] at HDT
  have HDT := hide HDT
  go_enter Try.func18, Try.ntmps18
  go_wp2
  go_region
  have hT := TwoT.made w (.int .i64 0) (.int .i64 0) (.int .i64 (cc / 64)) (.int .i64 (cc % 32)) 23
  have hc3 := (hT.below.cell (p := ⟨b, o, none⟩) hb).trans hcell
  have hcy3 := (hT.below.cell (p := ⟨b, o + q, none⟩) hb).trans hcy
  generalize ((w.alloc (.cells #[.int .i64 0, .int .i64 0] 23)).alloc (.cells #[.int .i64 (cc / 64), .int .i64 (cc % 32)] 23)).drew = W at *
  have HT := hide hT
  obtain ⟨_, _, r0, r1, t0, t1, fr0, fr1, ft0, ft1⟩ := hT
  go_wp2_with (fail)
  refine (KG.out _ _ _ _ (HDT.out.below HT.out.below (Nat.le_refl _))).mono ?_
  rintro e w4 ⟨rfl, rfl⟩
  have HT5 := hide (HT.out.setN (.int .i64 r))
  have hcy5 := (cell_setCell_ne (w := W) (a := ⟨w.heap.size + 1, 1, none⟩) (b := ⟨b, o + q, none⟩) (.int .i64 r) (by simp only; omega)).trans hcy3
  obtain ⟨_, _, s0, s1, u0, u1, gr0, gr1, gt0, gt1⟩ := HT5.out
  go_wp2
  refine bodyPost_ret (v := .tuple #[.agg #[.int .i64 0, .int .i64 0], .bool false, .int .i64 0, .int .i64 0, .int .i64 3]) ?_ rfl ⟨rfl, HT5.out.end2 _ _⟩
  rw [results_cell4 rfl]
  go_simp

set_option maxRecDepth 100000 in
set_option maxHeartbeats 6400000 in
theorem rheadGT4_any (b o n c : Nat) (x : UInt8) (t : List UInt8) (w : World) (h : Rd w (some ⟨b, o, none⟩) n c (bv (x :: t))) (hs : ¬ (x.toNat : Int) % 32 < 31) (r : Int) (j : Nat) (hg : tg 0 0 t = (r, (j : Int), 0)) (hr0 : 31 ≤ r) (hr1 : r ≤ 268435456) (y : UInt8) (s : List UInt8) (hd : t.drop j = y :: s) (k : Nat) (hk : y.toNat = 128 + k) (hk1 : 1 ≤ k) (hk8 : k ≤ 8) (hsl : k ≤ s.length) (hv : takeUE (s.take k) ≠ 0 ∨ takeUV (s.take k) < 128 ∨ 2147483647 < takeUV (s.take k)) :
    Calls Try.prog 18 #[.slice (some ⟨b, o, none⟩) n c] w fun e w' => e = .returned (.tuple #[.agg #[.int .i64 0, .int .i64 0], .bool false, .int .i64 0, .int .i64 0, .int .i64 4]) ∧ Below w.heap.size w w' := by
  have hl := RdB.length h
  have hm := h.lenmax
  have hcap := h.cap
  have hcx := h.max
  rw [List.length_cons] at hl
  have H := hide h
  have hx := x.toNat_lt
  have hx2 : 0 ≤ (x.toNat : Int) ∧ (x.toNat : Int) < 256 := by omega
  have hand := and32 (x.toNat : Int) hx2.1 hx2.2
  have hand2 := and31 (x.toNat : Int) hx2.1 hx2.2
  obtain ⟨b', o', e', hb, hcell⟩ := RdB.at_ h (k := 0) (by simp)
  cases e'
  simp only [Nat.add_zero, List.getElem_cons_zero] at hcell
  have hn2 : 0 < n := by omega
  have hc2 : (w.alloc (.cells #[.int .i64 0, .int .i64 0] 23)).cell? ⟨b, o, none⟩ = some (.int .u8 (x.toNat : Int)) := (World.cell?_alloc_lt w _ _ hb).trans hcell
  obtain ⟨_, _, j', j1', j2', hj', _, _⟩ := tg_own t r (j : Int) hg
  have j1 : 1 ≤ j := by omega
  have j2 : j ≤ t.length := by omega
  clear j1' j2' hj'
  have hgy : t[j]? = some y := by
    have := congrArg (fun l => l[0]?) hd
    simpa using this
  have hcy : w.cell? ⟨b, o + (1 + j), none⟩ = some (.int .u8 (y.toNat : Int)) := by
    obtain ⟨b1, o1, e1, hc1⟩ := h.2.2.2 hn2
    cases e1
    refine hc1 (1 + j) _ ?_
    rw [Nat.add_comm 1 j]
    simp [bv, hgy]
  have hyl := y.toNat_lt
  have hlen2 : t.length = j + 1 + s.length := by
    have := congrArg List.length hd
    rw [List.length_drop, List.length_cons] at this
    omega
  have hst : Rd w (some ⟨b, o + ((1 + j) + 1), none⟩) k (c - ((1 + j) + 1)) (bv (s.take k)) := by
    have h1 := (h.dropIf (k := (1 + j) + 1) (by omega)).take (k := k) (by omega)
    rw [if_neg (by omega), bv_drop, bv_take, show (x :: t).drop ((1 + j) + 1) = s from ?_] at h1
    · exact h1
    · rw [Nat.add_comm 1 j, List.drop_succ_cons, ← List.drop_drop, hd]
      rfl
  have KU := hide (fun A n c W h => refTakeUnsigned_any A n c (s.take k) W h)
  have KG := hide (fun A n c W h => refTakeGroups_any A n c t W h)
  have hdt := h.dropIf (k := 1) (by omega)
  rw [bv_drop, List.drop_succ_cons, List.drop_zero] at hdt
  have HDT := hide hdt
  clear hdt
  rw [hg] at KG
  clear h
  clear hd hgy
  have HST := hide hst
  clear hst
  generalize takeUE (s.take k) = ue at *
  generalize takeUV (s.take k) = uv at *
  generalize hcc : (x.toNat : Int) = cc at *
  clear hcc hx
  generalize hyy : (y.toNat : Int) = cy at *
  have hcy0 : 0 ≤ cy ∧ cy < 256 := by omega
  have hcyk : cy = 128 + (k : Int) := by omega
  have hcyw : IntKind.i64.wrap (cy - 128) = (k : Int) := (IntWalk.i64_in _ ⟨by omega, by omega⟩).trans (by omega)
  have hge : ¬ cy < 128 := by omega
  have hcys : cy - 128 = (k : Int) := by omega
  have HCYK := hide hcyk
  clear hcyk
  clear hyy hyl
  obtain ⟨q, hq⟩ : ∃ q, 1 + j = q := ⟨_, rfl⟩
  have hqi : IntKind.i64.wrap (1 + (j : Int)) = (q : Int) := (IntWalk.i64_in _ ⟨by omega, by omega⟩).trans (by omega)
  have hq0 : (0 : Int) ≤ (q : Int) := by omega
  have hq1 : 1 ≤ q := by omega
  have hqn : q ≤ n := by omega
  rw [hq] at hcy
  have hqlt : (q : Int) < (n : Int) := by omega
  obtain ⟨q2, hq2⟩ : ∃ q2, q + 1 = q2 := ⟨_, rfl⟩
  have hqi2 : IntKind.i64.wrap ((q : Int) + 1) = (q2 : Int) := (IntWalk.i64_in _ ⟨by omega, by omega⟩).trans (by omega)
  rw [hq, hq2] at HST
  have hrw : wrap64 r = r := IntWalk.wrap64_in r ⟨by omega, by omega⟩
  have hrw2 : IntKind.i64.wrap r = r := IntWalk.i64_in r ⟨by omega, by omega⟩
  have hsub : IntKind.i64.wrap ((n : Int) - (q2 : Int)) = (n : Int) - (q2 : Int) := IntWalk.i64_in _ ⟨by omega, by omega⟩
  have hlt : ¬ (n : Int) - (q2 : Int) < (k : Int) := by omega
  obtain ⟨q3, hq3⟩ : ∃ q3, q2 + k = q3 := ⟨_, rfl⟩
  have hqi3 : IntKind.i64.wrap ((q2 : Int) + (k : Int)) = (q3 : Int) := (IntWalk.i64_in _ ⟨by omega, by omega⟩).trans (by omega)
  have hq3n : q3 ≤ n := by omega
  have hq3c : (q3 : Int) ≤ (c : Int) := by omega
  have hq30 : (q2 : Int) ≤ (q3 : Int) := by omega
  have hq3k : q3 - q2 = k := by omega
  have hcq : ¬ c = q2 := by omega
  have hk0 : ((k : Int) == 0) = false := by simp; omega
  have hk9 : ¬ (k : Int) > 8 := by omega
  have HL := hide hl
  clear hl
  have hc1 : ¬ c = 1 := by omega
  have HDT := HDT.out
  rw [if_neg hc1] at HDT
  have HDT := hide HDT
  rcases (show ue ≠ 0 ∨ (ue = 0 ∧ uv < 128) ∨ (ue = 0 ∧ ¬ uv < 128 ∧ uv > 2147483647) by omega) with hv | ⟨hv, hv2⟩ | ⟨hv, hv2, hv3⟩
  · have hv1 : (ue != 0) = true := by simp [hv]
    go_enter Try.func18, Try.ntmps18
    go_wp2
    go_region
    have hT := TwoT.made w (.int .i64 0) (.int .i64 0) (.int .i64 (cc / 64)) (.int .i64 (cc % 32)) 23
    have hc3 := (hT.below.cell (p := ⟨b, o, none⟩) hb).trans hcell
    have hcy3 := (hT.below.cell (p := ⟨b, o + q, none⟩) hb).trans hcy
    generalize ((w.alloc (.cells #[.int .i64 0, .int .i64 0] 23)).alloc (.cells #[.int .i64 (cc / 64), .int .i64 (cc % 32)] 23)).drew = W at *
    have HT := hide hT
    obtain ⟨_, _, r0, r1, t0, t1, fr0, fr1, ft0, ft1⟩ := hT
    go_wp2_with (fail)
    refine (KG.out _ _ _ _ (HDT.out.below HT.out.below (Nat.le_refl _))).mono ?_
    rintro e w4 ⟨rfl, rfl⟩
    have HT5 := hide (HT.out.setN (.int .i64 r))
    have hcy5 := (cell_setCell_ne (w := W) (a := ⟨w.heap.size + 1, 1, none⟩) (b := ⟨b, o + q, none⟩) (.int .i64 r) (by simp only; omega)).trans hcy3
    obtain ⟨_, _, s0, s1, u0, u1, gr0, gr1, gt0, gt1⟩ := HT5.out
    clear r0 r1 t0 fr0 fr1 ft0 hc3 hcell hc2 hcy
    go_wp2_with (fail)
    refine (KU.out _ _ _ _ (HST.out.below HT5.out.below (Nat.le_refl _))).mono ?_
    rintro e w6 ⟨rfl, hb6⟩
    have HT6 := hide (HT5.out.more hb6)
    obtain ⟨_, _, z0, z1, z2, z3, z4, z5, z6, z7⟩ := HT6.out
    clear hb6
    clear s0 s1 u0 u1 gr0 gr1 gt0 gt1 hcy5 hcy3 t1 ft1
    go_wp2
    refine bodyPost_ret (v := .tuple #[.agg #[.int .i64 0, .int .i64 0], .bool false, .int .i64 0, .int .i64 0, .int .i64 4]) ?_ rfl ⟨rfl, HT6.out.end2 _ _⟩
    rw [results_cell4 rfl]
    go_simp
  · subst hv
    go_enter Try.func18, Try.ntmps18
    go_wp2
    go_region
    have hT := TwoT.made w (.int .i64 0) (.int .i64 0) (.int .i64 (cc / 64)) (.int .i64 (cc % 32)) 23
    have hc3 := (hT.below.cell (p := ⟨b, o, none⟩) hb).trans hcell
    have hcy3 := (hT.below.cell (p := ⟨b, o + q, none⟩) hb).trans hcy
    generalize ((w.alloc (.cells #[.int .i64 0, .int .i64 0] 23)).alloc (.cells #[.int .i64 (cc / 64), .int .i64 (cc % 32)] 23)).drew = W at *
    have HT := hide hT
    obtain ⟨_, _, r0, r1, t0, t1, fr0, fr1, ft0, ft1⟩ := hT
    go_wp2_with (fail)
    refine (KG.out _ _ _ _ (HDT.out.below HT.out.below (Nat.le_refl _))).mono ?_
    rintro e w4 ⟨rfl, rfl⟩
    have HT5 := hide (HT.out.setN (.int .i64 r))
    have hcy5 := (cell_setCell_ne (w := W) (a := ⟨w.heap.size + 1, 1, none⟩) (b := ⟨b, o + q, none⟩) (.int .i64 r) (by simp only; omega)).trans hcy3
    obtain ⟨_, _, s0, s1, u0, u1, gr0, gr1, gt0, gt1⟩ := HT5.out
    clear r0 r1 t0 fr0 fr1 ft0 hc3 hcell hc2 hcy
    go_wp2_with (fail)
    refine (KU.out _ _ _ _ (HST.out.below HT5.out.below (Nat.le_refl _))).mono ?_
    rintro e w6 ⟨rfl, hb6⟩
    have HT6 := hide (HT5.out.more hb6)
    obtain ⟨_, _, z0, z1, z2, z3, z4, z5, z6, z7⟩ := HT6.out
    clear hb6
    clear s0 s1 u0 u1 gr0 gr1 gt0 gt1 hcy5 hcy3 t1 ft1
    go_wp2
    refine bodyPost_ret (v := .tuple #[.agg #[.int .i64 0, .int .i64 0], .bool false, .int .i64 0, .int .i64 0, .int .i64 4]) ?_ rfl ⟨rfl, HT6.out.end2 _ _⟩
    rw [results_cell4 rfl]
    go_simp
  · subst hv
    go_enter Try.func18, Try.ntmps18
    go_wp2
    go_region
    have hT := TwoT.made w (.int .i64 0) (.int .i64 0) (.int .i64 (cc / 64)) (.int .i64 (cc % 32)) 23
    have hc3 := (hT.below.cell (p := ⟨b, o, none⟩) hb).trans hcell
    have hcy3 := (hT.below.cell (p := ⟨b, o + q, none⟩) hb).trans hcy
    generalize ((w.alloc (.cells #[.int .i64 0, .int .i64 0] 23)).alloc (.cells #[.int .i64 (cc / 64), .int .i64 (cc % 32)] 23)).drew = W at *
    have HT := hide hT
    obtain ⟨_, _, r0, r1, t0, t1, fr0, fr1, ft0, ft1⟩ := hT
    go_wp2_with (fail)
    refine (KG.out _ _ _ _ (HDT.out.below HT.out.below (Nat.le_refl _))).mono ?_
    rintro e w4 ⟨rfl, rfl⟩
    have HT5 := hide (HT.out.setN (.int .i64 r))
    have hcy5 := (cell_setCell_ne (w := W) (a := ⟨w.heap.size + 1, 1, none⟩) (b := ⟨b, o + q, none⟩) (.int .i64 r) (by simp only; omega)).trans hcy3
    obtain ⟨_, _, s0, s1, u0, u1, gr0, gr1, gt0, gt1⟩ := HT5.out
    clear r0 r1 t0 fr0 fr1 ft0 hc3 hcell hc2 hcy
    go_wp2_with (fail)
    refine (KU.out _ _ _ _ (HST.out.below HT5.out.below (Nat.le_refl _))).mono ?_
    rintro e w6 ⟨rfl, hb6⟩
    have HT6 := hide (HT5.out.more hb6)
    obtain ⟨_, _, z0, z1, z2, z3, z4, z5, z6, z7⟩ := HT6.out
    clear hb6
    clear s0 s1 u0 u1 gr0 gr1 gt0 gt1 hcy5 hcy3 t1 ft1
    go_wp2
    refine bodyPost_ret (v := .tuple #[.agg #[.int .i64 0, .int .i64 0], .bool false, .int .i64 0, .int .i64 0, .int .i64 4]) ?_ rfl ⟨rfl, HT6.out.end2 _ _⟩
    rw [results_cell4 rfl]
    go_simp

set_option maxRecDepth 100000 in
set_option maxHeartbeats 6400000 in
theorem rheadGT5_any (b o n c : Nat) (x : UInt8) (t : List UInt8) (w : World) (h : Rd w (some ⟨b, o, none⟩) n c (bv (x :: t))) (hs : ¬ (x.toNat : Int) % 32 < 31) (r : Int) (j : Nat) (hg : tg 0 0 t = (r, (j : Int), 0)) (hr0 : 31 ≤ r) (hr1 : r ≤ 268435456) (y : UInt8) (s : List UInt8) (hd : t.drop j = y :: s) (k : Nat) (hk : y.toNat = 128 + k) (hk1 : 1 ≤ k) (hk8 : k ≤ 8) (hsl : k ≤ s.length) (he : takeUE (s.take k) = 0) (hv0 : 128 ≤ takeUV (s.take k)) (hv1 : takeUV (s.take k) ≤ 2147483647) :
    Calls Try.prog 18 #[.slice (some ⟨b, o, none⟩) n c] w fun e w' => e = .returned (.tuple #[.agg #[.int .i64 ((x.toNat : Int) / 64), .int .i64 r], .bool (decide ((x.toNat : Int) / 32 % 2 = 1)), .int .i64 (takeUV (s.take k)), .int .i64 (1 + (j : Int) + 1 + (k : Int)), .int .i64 0]) ∧ Below w.heap.size w w' := by
  have hl := RdB.length h
  have hm := h.lenmax
  have hcap := h.cap
  have hcx := h.max
  rw [List.length_cons] at hl
  have H := hide h
  have hx := x.toNat_lt
  have hx2 : 0 ≤ (x.toNat : Int) ∧ (x.toNat : Int) < 256 := by omega
  have hand := and32 (x.toNat : Int) hx2.1 hx2.2
  have hand2 := and31 (x.toNat : Int) hx2.1 hx2.2
  obtain ⟨b', o', e', hb, hcell⟩ := RdB.at_ h (k := 0) (by simp)
  cases e'
  simp only [Nat.add_zero, List.getElem_cons_zero] at hcell
  have hn2 : 0 < n := by omega
  have hc2 : (w.alloc (.cells #[.int .i64 0, .int .i64 0] 23)).cell? ⟨b, o, none⟩ = some (.int .u8 (x.toNat : Int)) := (World.cell?_alloc_lt w _ _ hb).trans hcell
  obtain ⟨_, _, j', j1', j2', hj', _, _⟩ := tg_own t r (j : Int) hg
  have j1 : 1 ≤ j := by omega
  have j2 : j ≤ t.length := by omega
  clear j1' j2' hj'
  have hgy : t[j]? = some y := by
    have := congrArg (fun l => l[0]?) hd
    simpa using this
  have hcy : w.cell? ⟨b, o + (1 + j), none⟩ = some (.int .u8 (y.toNat : Int)) := by
    obtain ⟨b1, o1, e1, hc1⟩ := h.2.2.2 hn2
    cases e1
    refine hc1 (1 + j) _ ?_
    rw [Nat.add_comm 1 j]
    simp [bv, hgy]
  have hyl := y.toNat_lt
  have hlen2 : t.length = j + 1 + s.length := by
    have := congrArg List.length hd
    rw [List.length_drop, List.length_cons] at this
    omega
  have hst : Rd w (some ⟨b, o + ((1 + j) + 1), none⟩) k (c - ((1 + j) + 1)) (bv (s.take k)) := by
    have h1 := (h.dropIf (k := (1 + j) + 1) (by omega)).take (k := k) (by omega)
    rw [if_neg (by omega), bv_drop, bv_take, show (x :: t).drop ((1 + j) + 1) = s from ?_] at h1
    · exact h1
    · rw [Nat.add_comm 1 j, List.drop_succ_cons, ← List.drop_drop, hd]
      rfl
  have KU := hide (fun A n c W h => refTakeUnsigned_any A n c (s.take k) W h)
  have KG := hide (fun A n c W h => refTakeGroups_any A n c t W h)
  have hdt := h.dropIf (k := 1) (by omega)
  rw [bv_drop, List.drop_succ_cons, List.drop_zero] at hdt
  have HDT := hide hdt
  clear hdt
  rw [hg] at KG
  clear h
  clear hd hgy
  have HST := hide hst
  clear hst
  generalize takeUE (s.take k) = ue at *
  generalize takeUV (s.take k) = uv at *
  generalize hcc : (x.toNat : Int) = cc at *
  clear hcc hx
  generalize hyy : (y.toNat : Int) = cy at *
  have hcy0 : 0 ≤ cy ∧ cy < 256 := by omega
  have hcyk : cy = 128 + (k : Int) := by omega
  have hcyw : IntKind.i64.wrap (cy - 128) = (k : Int) := (IntWalk.i64_in _ ⟨by omega, by omega⟩).trans (by omega)
  have hge : ¬ cy < 128 := by omega
  have hcys : cy - 128 = (k : Int) := by omega
  have HCYK := hide hcyk
  clear hcyk
  clear hyy hyl
  obtain ⟨q, hq⟩ : ∃ q, 1 + j = q := ⟨_, rfl⟩
  have hqi : IntKind.i64.wrap (1 + (j : Int)) = (q : Int) := (IntWalk.i64_in _ ⟨by omega, by omega⟩).trans (by omega)
  have hq0 : (0 : Int) ≤ (q : Int) := by omega
  have hq1 : 1 ≤ q := by omega
  have hqn : q ≤ n := by omega
  rw [hq] at hcy
  have hqlt : (q : Int) < (n : Int) := by omega
  obtain ⟨q2, hq2⟩ : ∃ q2, q + 1 = q2 := ⟨_, rfl⟩
  have hqi2 : IntKind.i64.wrap ((q : Int) + 1) = (q2 : Int) := (IntWalk.i64_in _ ⟨by omega, by omega⟩).trans (by omega)
  rw [hq, hq2] at HST
  have hrw : wrap64 r = r := IntWalk.wrap64_in r ⟨by omega, by omega⟩
  have hrw2 : IntKind.i64.wrap r = r := IntWalk.i64_in r ⟨by omega, by omega⟩
  have hsub : IntKind.i64.wrap ((n : Int) - (q2 : Int)) = (n : Int) - (q2 : Int) := IntWalk.i64_in _ ⟨by omega, by omega⟩
  have hlt : ¬ (n : Int) - (q2 : Int) < (k : Int) := by omega
  obtain ⟨q3, hq3⟩ : ∃ q3, q2 + k = q3 := ⟨_, rfl⟩
  have hqi3 : IntKind.i64.wrap ((q2 : Int) + (k : Int)) = (q3 : Int) := (IntWalk.i64_in _ ⟨by omega, by omega⟩).trans (by omega)
  have hq3n : q3 ≤ n := by omega
  have hq3c : (q3 : Int) ≤ (c : Int) := by omega
  have hq30 : (q2 : Int) ≤ (q3 : Int) := by omega
  have hq3k : q3 - q2 = k := by omega
  have hcq : ¬ c = q2 := by omega
  have huw : wrap64 uv = uv := IntWalk.wrap64_in uv ⟨by omega, by omega⟩
  have huw2 : IntKind.i64.wrap uv = uv := IntWalk.i64_in uv ⟨by omega, by omega⟩
  have hk0 : ((k : Int) == 0) = false := by simp; omega
  have hk9 : ¬ (k : Int) > 8 := by omega
  have HL := hide hl
  clear hl
  have hc1 : ¬ c = 1 := by omega
  have HDT := HDT.out
  rw [if_neg hc1] at HDT
  have HDT := hide HDT
  go_enter Try.func18, Try.ntmps18
  go_wp2
  go_region
  have hT := TwoT.made w (.int .i64 0) (.int .i64 0) (.int .i64 (cc / 64)) (.int .i64 (cc % 32)) 23
  have hc3 := (hT.below.cell (p := ⟨b, o, none⟩) hb).trans hcell
  have hcy3 := (hT.below.cell (p := ⟨b, o + q, none⟩) hb).trans hcy
  generalize ((w.alloc (.cells #[.int .i64 0, .int .i64 0] 23)).alloc (.cells #[.int .i64 (cc / 64), .int .i64 (cc % 32)] 23)).drew = W at *
  have HT := hide hT
  obtain ⟨_, _, r0, r1, t0, t1, fr0, fr1, ft0, ft1⟩ := hT
  go_wp2_with (fail)
  refine (KG.out _ _ _ _ (HDT.out.below HT.out.below (Nat.le_refl _))).mono ?_
  rintro e w4 ⟨rfl, rfl⟩
  have HT5 := hide (HT.out.setN (.int .i64 r))
  have hcy5 := (cell_setCell_ne (w := W) (a := ⟨w.heap.size + 1, 1, none⟩) (b := ⟨b, o + q, none⟩) (.int .i64 r) (by simp only; omega)).trans hcy3
  obtain ⟨_, _, s0, s1, u0, u1, gr0, gr1, gt0, gt1⟩ := HT5.out
  clear r0 r1 t0 fr0 fr1 ft0 hc3 hcell hc2 hcy
  go_wp2_with (fail)
  refine (KU.out _ _ _ _ (HST.out.below HT5.out.below (Nat.le_refl _))).mono ?_
  rintro e w6 ⟨rfl, hb6⟩
  have HT6 := hide (HT5.out.more hb6)
  obtain ⟨_, _, z0, z1, z2, z3, z4, z5, z6, z7⟩ := HT6.out
  clear hb6
  clear s0 s1 u0 u1 gr0 gr1 gt0 gt1 hcy5 hcy3 t1 ft1
  go_wp2
  refine bodyPost_ret (v := .tuple #[.agg #[.int .i64 (cc / 64), .int .i64 r], .bool (cc / 32 % 2 * 32 != 0), .int .i64 uv, .int .i64 (q3 : Int), .int .i64 0]) ?_ rfl ⟨okEq _ _ _ _ _ _ (e32 cc) (by omega), HT6.out.end2 _ _⟩
  · rw [results_cell4 rfl]
    go_simp

set_option maxRecDepth 100000 in
set_option maxHeartbeats 6400000 in
theorem rheadGE_any (b o n c : Nat) (x : UInt8) (t : List UInt8) (w : World) (h : Rd w (some ⟨b, o, none⟩) n c (bv (x :: t))) (hs : ¬ (x.toNat : Int) % 32 < 31) (he : (tg 0 0 t).2.2 ≠ 0) :
    Calls Try.prog 18 #[.slice (some ⟨b, o, none⟩) n c] w fun e w' => e = .returned (.tuple #[.agg #[.int .i64 0, .int .i64 0], .bool false, .int .i64 0, .int .i64 0, .int .i64 (tg 0 0 t).2.2]) ∧ Below w.heap.size w w' := by
  have hl := RdB.length h
  have hm := h.lenmax
  have hcap := h.cap
  have hcx := h.max
  rw [List.length_cons] at hl
  have H := hide h
  have hx := x.toNat_lt
  have hx2 : 0 ≤ (x.toNat : Int) ∧ (x.toNat : Int) < 256 := by omega
  have hand := and32 (x.toNat : Int) hx2.1 hx2.2
  have hand2 := and31 (x.toNat : Int) hx2.1 hx2.2
  obtain ⟨b', o', e', hb, hcell⟩ := RdB.at_ h (k := 0) (by simp)
  cases e'
  simp only [Nat.add_zero, List.getElem_cons_zero] at hcell
  have hn2 : 0 < n := by omega
  have hc2 : (w.alloc (.cells #[.int .i64 0, .int .i64 0] 23)).cell? ⟨b, o, none⟩ = some (.int .u8 (x.toNat : Int)) := (World.cell?_alloc_lt w _ _ hb).trans hcell
  have KG := hide (fun A n c W h => refTakeGroups_any A n c t W h)
  have hdt := h.dropIf (k := 1) (by omega)
  rw [bv_drop, List.drop_succ_cons, List.drop_zero] at hdt
  have HDT := hide hdt
  clear hdt
  clear h
  generalize (tg 0 0 t).2.2 = ge at *
  generalize (tg 0 0 t).2.1 = gn at *
  generalize (tg 0 0 t).1 = gv at *
  generalize hcc : (x.toNat : Int) = cc at *
  clear hcc hx
  have HL := hide hl
  clear hl
  rcases (show c = 1 ∨ ¬ c = 1 by omega) with hc1 | hc1
  · have he2 : (ge != 0) = true := by simp [he]
    clear he
    subst hc1
    obtain rfl : n = 1 := by have := HL.out; omega
    have HDT := HDT.out
    simp only [if_true, Nat.sub_self] at HDT
    have HDT := hide HDT
    go_enter Try.func18, Try.ntmps18
    go_wp2
    go_region
    have hT := TwoT.made w (.int .i64 0) (.int .i64 0) (.int .i64 (cc / 64)) (.int .i64 (cc % 32)) 23
    have hc3 := (hT.below.cell (p := ⟨b, o, none⟩) hb).trans hcell
    generalize ((w.alloc (.cells #[.int .i64 0, .int .i64 0] 23)).alloc (.cells #[.int .i64 (cc / 64), .int .i64 (cc % 32)] 23)).drew = W at *
    have HT := hide hT
    obtain ⟨_, _, r0, r1, t0, t1, fr0, fr1, ft0, ft1⟩ := hT
    go_wp2_with (fail)
    refine (KG.out _ _ _ _ (HDT.out.below HT.out.below (Nat.le_refl _))).mono ?_
    rintro e w4 ⟨rfl, rfl⟩
    go_wp2
    refine bodyPost_ret (v := .tuple #[.agg #[.int .i64 0, .int .i64 0], .bool false, .int .i64 0, .int .i64 0, .int .i64 ge]) ?_ rfl ⟨rfl, HT.out.end2 _ _⟩
    rw [results_cell4 rfl]
    go_simp
  · have he2 : (ge != 0) = true := by simp [he]
    clear he
    have HDT := HDT.out
    rw [if_neg hc1] at HDT
    have HDT := hide HDT
    go_enter Try.func18, Try.ntmps18
    go_wp2
    go_region
    have hT := TwoT.made w (.int .i64 0) (.int .i64 0) (.int .i64 (cc / 64)) (.int .i64 (cc % 32)) 23
    have hc3 := (hT.below.cell (p := ⟨b, o, none⟩) hb).trans hcell
    generalize ((w.alloc (.cells #[.int .i64 0, .int .i64 0] 23)).alloc (.cells #[.int .i64 (cc / 64), .int .i64 (cc % 32)] 23)).drew = W at *
    have HT := hide hT
    obtain ⟨_, _, r0, r1, t0, t1, fr0, fr1, ft0, ft1⟩ := hT
    go_wp2_with (fail)
    refine (KG.out _ _ _ _ (HDT.out.below HT.out.below (Nat.le_refl _))).mono ?_
    rintro e w4 ⟨rfl, rfl⟩
    go_wp2
    refine bodyPost_ret (v := .tuple #[.agg #[.int .i64 0, .int .i64 0], .bool false, .int .i64 0, .int .i64 0, .int .i64 ge]) ?_ rfl ⟨rfl, HT.out.end2 _ _⟩
    rw [results_cell4 rfl]
    go_simp

set_option maxRecDepth 100000 in
set_option maxHeartbeats 6400000 in
theorem rheadGF_any (b o n c : Nat) (x : UInt8) (t : List UInt8) (w : World) (h : Rd w (some ⟨b, o, none⟩) n c (bv (x :: t))) (hs : ¬ (x.toNat : Int) % 32 < 31) (he : (tg 0 0 t).2.2 = 0) (hf : (tg 0 0 t).1 < 31 ∨ 268435456 < (tg 0 0 t).1) :
    Calls Try.prog 18 #[.slice (some ⟨b, o, none⟩) n c] w fun e w' => e = .returned (.tuple #[.agg #[.int .i64 0, .int .i64 0], .bool false, .int .i64 0, .int .i64 0, .int .i64 4]) ∧ Below w.heap.size w w' := by
  have hl := RdB.length h
  have hm := h.lenmax
  have hcap := h.cap
  have hcx := h.max
  rw [List.length_cons] at hl
  have H := hide h
  have hx := x.toNat_lt
  have hx2 : 0 ≤ (x.toNat : Int) ∧ (x.toNat : Int) < 256 := by omega
  have hand := and32 (x.toNat : Int) hx2.1 hx2.2
  have hand2 := and31 (x.toNat : Int) hx2.1 hx2.2
  obtain ⟨b', o', e', hb, hcell⟩ := RdB.at_ h (k := 0) (by simp)
  cases e'
  simp only [Nat.add_zero, List.getElem_cons_zero] at hcell
  have hn2 : 0 < n := by omega
  have hc2 : (w.alloc (.cells #[.int .i64 0, .int .i64 0] 23)).cell? ⟨b, o, none⟩ = some (.int .u8 (x.toNat : Int)) := (World.cell?_alloc_lt w _ _ hb).trans hcell
  have KG := hide (fun A n c W h => refTakeGroups_any A n c t W h)
  have hdt := h.dropIf (k := 1) (by omega)
  rw [bv_drop, List.drop_succ_cons, List.drop_zero] at hdt
  have HDT := hide hdt
  clear hdt
  clear h
  generalize (tg 0 0 t).2.2 = ge at *
  generalize (tg 0 0 t).2.1 = gn at *
  generalize (tg 0 0 t).1 = gv at *
  generalize hcc : (x.toNat : Int) = cc at *
  clear hcc hx
  have HL := hide hl
  clear hl
  subst he
  rcases (show (gv < 31 ∧ c = 1) ∨ (gv < 31 ∧ ¬ c = 1) ∨ (¬ gv < 31 ∧ gv > 268435456 ∧ c = 1) ∨ (¬ gv < 31 ∧ gv > 268435456 ∧ ¬ c = 1) by omega) with ⟨hf1, hc1⟩ | ⟨hf1, hc1⟩ | ⟨hf1, hf2, hc1⟩ | ⟨hf1, hf2, hc1⟩
  · subst hc1
    obtain rfl : n = 1 := by have := HL.out; omega
    have HDT := HDT.out
    simp only [if_true, Nat.sub_self] at HDT
    have HDT := hide HDT
    go_enter Try.func18, Try.ntmps18
    go_wp2
    go_region
    have hT := TwoT.made w (.int .i64 0) (.int .i64 0) (.int .i64 (cc / 64)) (.int .i64 (cc % 32)) 23
    have hc3 := (hT.below.cell (p := ⟨b, o, none⟩) hb).trans hcell
    generalize ((w.alloc (.cells #[.int .i64 0, .int .i64 0] 23)).alloc (.cells #[.int .i64 (cc / 64), .int .i64 (cc % 32)] 23)).drew = W at *
    have HT := hide hT
    obtain ⟨_, _, r0, r1, t0, t1, fr0, fr1, ft0, ft1⟩ := hT
    go_wp2_with (fail)
    refine (KG.out _ _ _ _ (HDT.out.below HT.out.below (Nat.le_refl _))).mono ?_
    rintro e w4 ⟨rfl, rfl⟩
    go_wp2
    refine bodyPost_ret (v := .tuple #[.agg #[.int .i64 0, .int .i64 0], .bool false, .int .i64 0, .int .i64 0, .int .i64 4]) ?_ rfl ⟨rfl, HT.out.end2 _ _⟩
    rw [results_cell4 rfl]
    go_simp
  · have HDT := HDT.out
    rw [if_neg hc1] at HDT
    have HDT := hide HDT
    go_enter Try.func18, Try.ntmps18
    go_wp2
    go_region
    have hT := TwoT.made w (.int .i64 0) (.int .i64 0) (.int .i64 (cc / 64)) (.int .i64 (cc % 32)) 23
    have hc3 := (hT.below.cell (p := ⟨b, o, none⟩) hb).trans hcell
    generalize ((w.alloc (.cells #[.int .i64 0, .int .i64 0] 23)).alloc (.cells #[.int .i64 (cc / 64), .int .i64 (cc % 32)] 23)).drew = W at *
    have HT := hide hT
    obtain ⟨_, _, r0, r1, t0, t1, fr0, fr1, ft0, ft1⟩ := hT
    go_wp2_with (fail)
    refine (KG.out _ _ _ _ (HDT.out.below HT.out.below (Nat.le_refl _))).mono ?_
    rintro e w4 ⟨rfl, rfl⟩
    go_wp2
    refine bodyPost_ret (v := .tuple #[.agg #[.int .i64 0, .int .i64 0], .bool false, .int .i64 0, .int .i64 0, .int .i64 4]) ?_ rfl ⟨rfl, HT.out.end2 _ _⟩
    rw [results_cell4 rfl]
    go_simp
  · subst hc1
    obtain rfl : n = 1 := by have := HL.out; omega
    have HDT := HDT.out
    simp only [if_true, Nat.sub_self] at HDT
    have HDT := hide HDT
    go_enter Try.func18, Try.ntmps18
    go_wp2
    go_region
    have hT := TwoT.made w (.int .i64 0) (.int .i64 0) (.int .i64 (cc / 64)) (.int .i64 (cc % 32)) 23
    have hc3 := (hT.below.cell (p := ⟨b, o, none⟩) hb).trans hcell
    generalize ((w.alloc (.cells #[.int .i64 0, .int .i64 0] 23)).alloc (.cells #[.int .i64 (cc / 64), .int .i64 (cc % 32)] 23)).drew = W at *
    have HT := hide hT
    obtain ⟨_, _, r0, r1, t0, t1, fr0, fr1, ft0, ft1⟩ := hT
    go_wp2_with (fail)
    refine (KG.out _ _ _ _ (HDT.out.below HT.out.below (Nat.le_refl _))).mono ?_
    rintro e w4 ⟨rfl, rfl⟩
    go_wp2
    refine bodyPost_ret (v := .tuple #[.agg #[.int .i64 0, .int .i64 0], .bool false, .int .i64 0, .int .i64 0, .int .i64 4]) ?_ rfl ⟨rfl, HT.out.end2 _ _⟩
    rw [results_cell4 rfl]
    go_simp
  · have HDT := HDT.out
    rw [if_neg hc1] at HDT
    have HDT := hide HDT
    go_enter Try.func18, Try.ntmps18
    go_wp2
    go_region
    have hT := TwoT.made w (.int .i64 0) (.int .i64 0) (.int .i64 (cc / 64)) (.int .i64 (cc % 32)) 23
    have hc3 := (hT.below.cell (p := ⟨b, o, none⟩) hb).trans hcell
    generalize ((w.alloc (.cells #[.int .i64 0, .int .i64 0] 23)).alloc (.cells #[.int .i64 (cc / 64), .int .i64 (cc % 32)] 23)).drew = W at *
    have HT := hide hT
    obtain ⟨_, _, r0, r1, t0, t1, fr0, fr1, ft0, ft1⟩ := hT
    go_wp2_with (fail)
    refine (KG.out _ _ _ _ (HDT.out.below HT.out.below (Nat.le_refl _))).mono ?_
    rintro e w4 ⟨rfl, rfl⟩
    go_wp2
    refine bodyPost_ret (v := .tuple #[.agg #[.int .i64 0, .int .i64 0], .bool false, .int .i64 0, .int .i64 0, .int .i64 4]) ?_ rfl ⟨rfl, HT.out.end2 _ _⟩
    rw [results_cell4 rfl]
    go_simp
end Go.Proofs.Ytnbjkkhjphjdkaa
