import Derived.Test.YtikfogepdmpfaaaLawWhoB0
import Derived.Test.YtikfogepdmpfaaaSpoil2
import Derived.Deep.AppendLies
namespace Go.Proofs.Ytikfogepdmpfaaa
open Go.RowKit

theorem info_parts5 {P : Program} {e : TypeId} {k s b : Nat} (h : (P.info? e).map (fun i => (i.zero.map (fun z => z.cells.size), i.size, i.bytes)) = some (some k, s, b)) :
    ∃ i z, P.info? e = some i ∧ i.zero = some z ∧ i.size = s ∧ i.bytes = b ∧ z.cells.size = k := by
  cases hi : P.info? e with
  | none => rw [hi] at h; cases h
  | some i =>
    rw [hi] at h
    cases hz : i.zero with
    | none => simp [hz] at h
    | some z =>
      simp [hz] at h
      exact ⟨i, z, rfl, hz, h.2.1, h.2.2, h.1⟩
theorem Try.info_op2 : (Try.prog.info? 58).map (fun i => (i.zero.map (fun z => z.cells.size), i.size, i.bytes)) = some (some 5, 5, 56) := by kernel_rfl

/-- The state inside a round of the first loop: the writer, the call's own struct in block q, the list of the calls that were taken. -/
structure WBSt (w0 : World) (B q : Nat) (op : Op2) (A' : Option Addr) (n' c' : Nat) (g : Option Nat) (l : List Bool) (lv : Value) (m : Nat) (xs : List Value) (W : World) : Prop where
  wr : Wr W B B g l
  below : Below B w0 W
  size : w0.heap.size ≤ B
  c0 : W.cell? ⟨q, 0, none⟩ = some (.int .i64 op.kind)
  c1 : W.cell? ⟨q, 1, none⟩ = some (.int .i64 op.n)
  c2 : W.cell? ⟨q, 2, none⟩ = some (.int .u64 op.v)
  c3 : W.cell? ⟨q, 3, none⟩ = some (.int .u64 op.s)
  c4 : W.cell? ⟨q, 4, none⟩ = some (.slice A' n' c')
  rd : Rd w0 A' n' c' (bv op.b)
  q1 : B < q
  q2 : g ≠ some q
  own : W.ownsRow (B + 1) 58 5 lv m xs
  og : ∀ k, lv.ownBlock = some k → g ≠ some k
  oq : lv.ownBlock ≠ some q

section
variable {w0 W W' : World} {B q : Nat} {op : Op2} {A' : Option Addr} {n' c' : Nat} {g g' : Option Nat} {l l' : List Bool} {lv : Value} {m : Nat} {xs : List Value}
theorem WBSt.lt (h : WBSt w0 B q op A' n' c' g l lv m xs W) : q < W.heap.size := lt_cell h.c0
theorem WBSt.step (h : WBSt w0 B q op A' n' c' g l lv m xs W) (hw : Wr W' B B g' l') (u : Upd B g W W') (mv : Mv W g g') : WBSt w0 B q op A' n' c' g' l' lv m xs W' := by
  have hq := h.lt
  have hc : ∀ j, W'.cell? ⟨q, j, none⟩ = W.cell? ⟨q, j, none⟩ := fun j => u.cell (a := ⟨q, j, none⟩) hq (by have := h.q1; simp only; omega) (fun e => h.q2 e.symm)
  refine ⟨hw, h.below.trans (u.below (Nat.le_refl _) (fun k hk => (h.wr.glt k hk).1) (by have := h.wr.lt; omega)), h.size, (hc 0).trans h.c0, (hc 1).trans h.c1, (hc 2).trans h.c2, (hc 3).trans h.c3, (hc 4).trans h.c4, h.rd, h.q1, ?_, own_upd h.own u (fun k hk => ⟨by have := (h.own.lt k hk).1; omega, fun e => h.og k hk e.symm⟩), fun k hk => ?_, h.oq⟩
  · rcases mv with rfl | ⟨j, rfl, hj⟩
    · exact h.q2
    · intro e; cases e; omega
  · rcases mv with rfl | ⟨j, rfl, hj⟩
    · exact h.og k hk
    · intro e
      cases e
      have := (h.own.lt _ hk).2
      omega
theorem WBSt.made {wr wa : World} {gb cap : Nat} {xs2 : List Value} (hw : Wr wr B B g l) (hb : Below B w0 wr) (hB : w0.heap.size ≤ B) (hown : wr.ownsRow (B + 1) 58 5 lv m xs) (hsep : ∀ k, lv.ownBlock = some k → g ≠ some k) (hrd : Rd w0 A' n' c' (bv op.b))
    (hgr : ((wr.alloc (.cells #[.int .i64 op.kind, .int .i64 op.n, .int .u64 op.v, .int .u64 op.s, .slice A' n' c'] 58)).alloc (.cells #[.int .i64 op.kind, .int .i64 op.n, .int .u64 op.v, .int .u64 op.s, .slice A' n' c'] 58)).grownBy wa lv.ownBlock)
    (hgb : lv.ownBlock = some gb ∨ gb = wr.heap.size + 1 + 1)
    (hown2 : wa.ownsRow (B + 1) 58 5 (.slice (some ⟨gb, 0, none⟩) (m + 1) cap) (m + 1) xs2) :
    WBSt w0 B wr.heap.size op A' n' c' g l (.slice (some ⟨gb, 0, none⟩) (m + 1) cap) (m + 1) xs2 wa := by
  have hx : ∀ j u, (#[Value.int .i64 op.kind, .int .i64 op.n, .int .u64 op.v, .int .u64 op.s, .slice A' n' c'] : Array Value)[j]? = some u → (wr.alloc (.cells #[.int .i64 op.kind, .int .i64 op.n, .int .u64 op.v, .int .u64 op.s, .slice A' n' c'] 58)).cell? ⟨wr.heap.size, j, none⟩ = some u := fun j u h => cell_new rfl h
  have hW1 := hw.alloc (.cells #[.int .i64 op.kind, .int .i64 op.n, .int .u64 op.v, .int .u64 op.s, .slice A' n' c'] 58)
  have hbw := hw.lt
  have hb1 := hb.alloc (Nat.le_of_lt hbw) (.cells #[.int .i64 op.kind, .int .i64 op.n, .int .u64 op.v, .int .u64 op.s, .slice A' n' c'] 58)
  have e1 := size_alloc wr (.cells #[.int .i64 op.kind, .int .i64 op.n, .int .u64 op.v, .int .u64 op.s, .slice A' n' c'] 58)
  generalize wr.alloc (.cells #[.int .i64 op.kind, .int .i64 op.n, .int .u64 op.v, .int .u64 op.s, .slice A' n' c'] 58) = w1 at *
  have hW2 := hW1.alloc (.cells #[.int .i64 op.kind, .int .i64 op.n, .int .u64 op.v, .int .u64 op.s, .slice A' n' c'] 58)
  have hb2 := hb1.alloc (by omega) (.cells #[.int .i64 op.kind, .int .i64 op.n, .int .u64 op.v, .int .u64 op.s, .slice A' n' c'] 58)
  have e2 := size_alloc w1 (.cells #[.int .i64 op.kind, .int .i64 op.n, .int .u64 op.v, .int .u64 op.s, .slice A' n' c'] 58)
  have k2 : ∀ p : Addr, p.block < w1.heap.size → (w1.alloc (.cells #[.int .i64 op.kind, .int .i64 op.n, .int .u64 op.v, .int .u64 op.s, .slice A' n' c'] 58)).cell? p = w1.cell? p := fun p hp => World.cell?_alloc_lt w1 _ p hp
  generalize w1.alloc (.cells #[.int .i64 op.kind, .int .i64 op.n, .int .u64 op.v, .int .u64 op.s, .slice A' n' c'] 58) = w2 at *
  have hq : ∀ j u, (#[Value.int .i64 op.kind, .int .i64 op.n, .int .u64 op.v, .int .u64 op.s, .slice A' n' c'] : Array Value)[j]? = some u → wa.cell? ⟨wr.heap.size, j, none⟩ = some u := fun j u h => by
    refine (hgr.cell_far ⟨wr.heap.size, j, none⟩ (by simp only; omega) (fun e => ?_)).trans ((k2 _ (by simp only; omega)).trans (hx j u h))
    exact Nat.lt_irrefl _ (hown.lt _ e.symm).2
  refine ⟨hW2.grown hgr (fun e => ?_) ?_, grown_below hb2 hgr (fun j hj => ?_) (by omega), hB, hq 0 _ rfl, hq 1 _ rfl, hq 2 _ rfl, hq 3 _ rfl, hq 4 _ rfl, hrd, hbw, fun e => ?_, hown2, fun k hk => ?_, fun e => ?_⟩
  · have := (hown.lt _ e.symm).1
    omega
  · rcases g with _ | k
    · exact .inl rfl
    · exact .inr fun e => hsep k e.symm rfl
  · have := (hown.lt _ hj).1
    omega
  · have := (hw.glt _ e).2
    omega
  · have hk : gb = k := by simpa [Value.ownBlock] using hk
    subst hk
    rcases hgb with h | h
    · exact hsep _ h
    · intro e
      have := (hw.glt _ e).2
      omega
  · have hk : gb = wr.heap.size := by simpa [Value.ownBlock] using e
    rcases hgb with h | h
    · have := (hown.lt _ h).2
      omega
    · omega
theorem WBSt.arg (h : WBSt w0 B q op A' n' c' g l lv m xs W) : Rd W A' n' c' (bv op.b) := h.rd.below (h.below.mono h.size) (Nat.le_refl _)
end

def WB1Rel (B : Nat) (ops : List Op2) (N : Nat) (w0 : World) (lv ii : Value) (wr : World) : Prop :=
  ∃ (i : Nat) (g : Option Nat) (A : Option Addr) (c : Nat) (xs : List Value), i ≤ N ∧ ii = .int .i64 (i : Int) ∧ lv = .slice A (tk ops i).length c ∧ Hid (Wr wr B B g (en2 (tk ops i))) ∧ Hid (Below B w0 wr) ∧ Hid (wr.ownsRow (B + 1) 58 5 (.slice A (tk ops i).length c) (tk ops i).length xs) ∧ Hid (Lst w0 xs (tk ops i)) ∧ Hid (∀ k, (Value.slice A (tk ops i).length c).ownBlock = some k → g ≠ some k)

theorem WBSt.next {w0 W : World} {B N q i M gb cap : Nat} {ops : List Op2} {op : Op2} {A' : Option Addr} {n' c' : Nat} {g : Option Nat} {xs : List Value}
    (S : WBSt w0 B q op A' n' c' g (en2 (tk ops i) ++ enc2 op) (.slice (some ⟨gb, 0, none⟩) (M + 1) cap) (M + 1) (xs ++ [.int .i64 op.kind, .int .i64 op.n, .int .u64 op.v, .int .u64 op.s, .slice A' n' c']) W)
    (hy : tk ops (i + 1) = tk ops i ++ [op]) (hM : (tk ops i).length = M) (hls : Lst w0 xs (tk ops i)) (hb : op.b.length ≤ 200)
    (hk : (-9223372036854775808 ≤ op.kind ∧ op.kind ≤ 9223372036854775807) ∧ (-9223372036854775808 ≤ op.n ∧ op.n ≤ 9223372036854775807) ∧ (0 ≤ op.v ∧ op.v < 18446744073709551616) ∧ (0 ≤ op.s ∧ op.s < 18446744073709551616)) (hi : i < N) :
    WB1Rel B ops N w0 (.slice (some ⟨gb, 0, none⟩) (M + 1) cap) (.int .i64 ((i : Int) + 1)) W := by
  have hl : (tk ops (i + 1)).length = M + 1 := by rw [hy, List.length_append, hM]; rfl
  refine ⟨i + 1, g, some ⟨gb, 0, none⟩, cap, xs ++ [.int .i64 op.kind, .int .i64 op.n, .int .u64 op.v, .int .u64 op.s, .slice A' n' c'], hi, by simp, by rw [hl], ?_, S.below, ?_, ?_, ?_⟩
  · rw [hy, en2_snoc]
    exact S.wr
  · rw [hl]
    exact S.own
  · rw [hy]
    exact hls.snoc op S.rd hb hk
  · rw [hl]
    exact S.og

def WB2Rel (P q : Nat) (D : Nat → Prop) (L : List Op2) (w4 : World) (ii : Value) (wr : World) : Prop :=
  ∃ (j : Nat), j ≤ L.length ∧ ii = .int .i64 (j : Int) ∧ Hid (Wd wr P q D (packW (en2 L)) (en2 (L.take j)).length 0 (decide (packW (en2 L) = [0]))) ∧ Hid (Below w4.heap.size w4 wr)

set_option maxRecDepth 100000 in
set_option maxHeartbeats 3200000 in
theorem wholeBack_walk (A : Option Addr) (n c : Nat) (ops : List Op2) (w : World) (h : RdO2 w A n c ops) :
    Calls Try.prog 16 #[.slice A n c] w fun e w' => e = .returned (.bool true) ∧ Below w.heap.size w w' := by
  obtain ⟨i0, z0, hi0, hz0, hz1, hz2, hz3⟩ := info_parts5 Try.info_op2
  have hln := hide h.1
  have hcap := h.2.1
  have hmx := h.2.2.1
  unfold maxLen at hmx
  have HO := hide h
  obtain ⟨N, hN⟩ : ∃ N, min n 40 = N := ⟨_, rfl⟩
  have HCS : Hid (∀ i, i ≤ N → (i < N → i < n ∧ i < 40) ∧ (¬ i < N → i = N ∧ (¬ i < n ∨ (i < n ∧ ¬ i < 40)))) := fun i hi => by omega
  have HN : Hid (N ≤ ops.length ∧ N ≤ 40) := ⟨by have := hln.out; omega, by omega⟩
  clear h hN
  have WN1 := Wr.new w w.heap.size 53
  have hb0 := (Below.refl w.heap.size w).alloc (Nat.le_refl _) (.cells #[.slice none 0 0, .int .i64 0] 53)
  have N1 := hide WN1
  have B0 := hide hb0
  clear WN1 hb0
  go_enter Try.func16, Try.ntmps16
  go_wp2_with (fail)
  refine (awake17_any _).mono ?_
  rintro e w1 ⟨rfl, hb⟩
  have W1 := hide (N1.out.below hb)
  have B1 := hide (B0.out.trans (hb.mono B0.out.size))
  clear hb N1 B0
  go_wp2_with (fail)
  go_loopw [4, 5] (WB1Rel w.heap.size ops N w) (fun _ i _ => n - (intOf i).toNat)
  case atStart => exact ⟨0, none, none, 0, [], Nat.zero_le _, rfl, rfl, W1.out, B1.out, World.ownsRow_nil _ _ _ _, Lst.nil _, fun k hk => by cases hk⟩
  case round =>
    obtain ⟨i, g, AL, cl, xs, hi, rfl, rfl, hw, hb, hown, hls, hsep⟩ := hrel
    have hlen : Hid ((en2 (tk ops i)).length ≤ 100000) := by
      have := en2_tk_le ops i (by have := HN.out; omega)
      have := HN.out
      unfold Hid
      omega
    by_cases hlt : i < N
    · obtain ⟨hi1, hi2⟩ := (HCS.out i hi).1 hlt
      have hil : i < ops.length := by have := HN.out; omega
      have HY := hide (tk_yes ops i hil)
      have HX := hide (tk_no ops i hil)
      have hml := tk_len ops i
      obtain ⟨b, o, A', n', c', rfl, d0, d1, d2, d3, d4, hrd, hk1, hk2, hk3, hk4⟩ := HO.out.2.2.2 i ops[i] (List.getElem?_eq_getElem hil)
      generalize ops[i] = op at *
      have c0 := (hb.out.cell (lt_cell d0)).trans d0
      have c1 := (hb.out.cell (lt_cell d1)).trans d1
      have c2 := (hb.out.cell (lt_cell d2)).trans d2
      have c3 := (hb.out.cell (lt_cell d3)).trans d3
      have c4 := (hb.out.cell (lt_cell d4)).trans d4
      have hii0 : (0 : Int) ≤ (i : Int) := by omega
      have hii3 : (i : Int) < (n : Int) := by omega
      have hm' := hrd.lenmax
      have hl' := hide (RdB.length hrd)
      have HRD := hide hrd
      generalize hM : (tk ops i).length = M at *
      clear d0 d1 d2 d3 d4 hrd
      by_cases h200 : n' ≤ 200
      · have hy := hide (HY.out (by have := hl'.out; omega))
        have hcell5 : Hid (∀ (j : Nat) (u : Value), ([.int .i64 op.kind, .int .i64 op.n, .int .u64 op.v, .int .u64 op.s, .slice A' n' c'] : List Value)[j]? = some u → ((wr.alloc (.cells #[.int .i64 op.kind, .int .i64 op.n, .int .u64 op.v, .int .u64 op.s, .slice A' n' c'] 58)).alloc (.cells #[.int .i64 op.kind, .int .i64 op.n, .int .u64 op.v, .int .u64 op.s, .slice A' n' c'] 58)).cell? ((⟨wr.heap.size + 1, 0, none⟩ : Addr).add j) = some u) := by
          have e1 := size_alloc wr (.cells #[.int .i64 op.kind, .int .i64 op.n, .int .u64 op.v, .int .u64 op.s, .slice A' n' c'] 58)
          have := World.news_of_block (heap_alloc_new (wr.alloc (.cells #[.int .i64 op.kind, .int .i64 op.n, .int .u64 op.v, .int .u64 op.s, .slice A' n' c'] 58)) (.cells #[.int .i64 op.kind, .int .i64 op.n, .int .u64 op.v, .int .u64 op.s, .slice A' n' c'] 58))
          rw [e1] at this
          exact this
        have hone5 : Hid (∀ u ∈ ([.int .i64 op.kind, .int .i64 op.n, .int .u64 op.v, .int .u64 op.s, .slice A' n' c'] : List Value), u.oneCell' = true) := by
          intro u hu
          simp at hu
          rcases hu with rfl | rfl | rfl | rfl | rfl <;> rfl
        have HOW := hide ((hown.out.alloc (.cells #[.int .i64 op.kind, .int .i64 op.n, .int .u64 op.v, .int .u64 op.s, .slice A' n' c'] 58)).alloc (.cells #[.int .i64 op.kind, .int .i64 op.n, .int .u64 op.v, .int .u64 op.s, .slice A' n' c'] 58))
        have hM40 : M ≤ 40 := by omega
        have hsB := hide (show w.heap.size + 1 ≤ ((wr.alloc (.cells #[.int .i64 op.kind, .int .i64 op.n, .int .u64 op.v, .int .u64 op.s, .slice A' n' c'] 58)).alloc (.cells #[.int .i64 op.kind, .int .i64 op.n, .int .u64 op.v, .int .u64 op.s, .slice A' n' c'] 58)).heap.size by
          rw [size_alloc, size_alloc]
          have := hb.out.size
          have := hw.out.lt
          omega)
        go_wp2_with (at_builtin; refine wpList_append_lies _ rfl (.tmp 33) (.tmp 35) _ rfl (w.heap.size + 1) 58 i0 z0 5 56 Try.underlying51 hi0 hz0 hz1 hz2 hz3 (by omega) _ M xs rfl HOW.out _ 1 1 _ rfl rfl hcell5.out hone5.out (by omega) (by unfold maxLen; omega) (by omega) hsB.out _ rfl ?_)
        intro gb cap wa hown2 hgr hgb hgl
        have S0 := hide (WBSt.made hw.out hb.out (Nat.le_refl _) hown.out hsep.out HRD.out hgr hgb hown2)
        have HM := hide hM
        have HK := hide (And.intro hk1 (And.intro hk2 (And.intro hk3 hk4)))
        have HB200 := hide (show op.b.length ≤ 200 by have := hl'.out; omega)
        have hls' := hide hls.out
        generalize wr.heap.size = q at *
        have e0 := S0.out.c0
        clear hown2 hgr hgb hgl HOW hcell5 hone5 hsB hw hb hown hsep c0 c1 c2 c3 c4 hM
        rcases (show op.kind = 1 ∨ (op.kind ≠ 1 ∧ op.kind = 2) ∨ (op.kind ≠ 1 ∧ op.kind ≠ 2 ∧ op.kind = 3) ∨ (op.kind ≠ 1 ∧ op.kind ≠ 2 ∧ op.kind ≠ 3) by omega) with hk | ⟨hk, hkk⟩ | ⟨hk, hkk, hkkk⟩ | ⟨hk, hkk, hkkk⟩
        · have HE : Hid (enc2 op = Pl.octB op.b) := by unfold Hid enc2; rw [if_pos hk]
          have hkb : (op.kind == 1) = true := by simp [hk]
          have e4 := S0.out.c4
          clear hk
          go_wp2_with (fail)
          refine (wOcts_any w.heap.size w.heap.size g _ _ _ _ op.b _ S0.out.wr (by have := hlen.out; have := HB200.out; omega) S0.out.below.size S0.out.arg (Off.of_lt S0.out.rd (Nat.le_refl _) (fun k hk => (S0.out.wr.glt k hk).1))).mono ?_
          rintro e w3 ⟨rfl, g3, hw3, hu3, hm3⟩
          rw [← HE.out] at hw3
          have S := hide (S0.out.step hw3 hu3 hm3)
          clear hw3 hu3 hm3 S0 e0 e4
          go_wp2
          go_roundw
          case rel => exact WBSt.next S.out hy.out HM.out hls'.out HB200.out HK.out hlt
          case measure => simp [intOf]; omega
        · have HE : Hid (enc2 op = Pl.bitsOf (min op.v op.s) (wid op.s)) := by unfold Hid enc2; rw [if_neg hk, if_pos hkk]
          have hkb : (op.kind == 1) = false := by simp [hk]
          have hkb2 : (op.kind == 2) = true := by simp [hkk]
          have e2 := S0.out.c2
          have e3 := S0.out.c3
          clear hk hkk
          go_wp2_with (fail)
          refine (wBetween_any op.v op.s w.heap.size w.heap.size g _ _ S0.out.wr (by have := hlen.out; omega) S0.out.below.size hk3.1 hk3.2 hk4.1 hk4.2).mono ?_
          rintro e w3 ⟨rfl, g3, hw3, hu3, hm3⟩
          rw [← HE.out] at hw3
          have S := hide (S0.out.step hw3 hu3 hm3)
          clear hw3 hu3 hm3 S0 e0 e2 e3
          go_wp2
          go_roundw
          case rel => exact WBSt.next S.out hy.out HM.out hls'.out HB200.out HK.out hlt
          case measure => simp [intOf]; omega
        · have HE : Hid (enc2 op = smallB (sN op.n)) := by unfold Hid enc2; rw [if_neg hk, if_neg hkk, if_pos hkkk]
          have hkb : (op.kind == 1) = false := by simp [hk]
          have hkb2 : (op.kind == 2) = false := by simp [hkk]
          have hkb3 : (op.kind == 3) = true := by simp [hkkk]
          have e1 := S0.out.c1
          clear hk hkk hkkk
          go_wp2_with (fail)
          rw [sN_eq]
          refine (wSmall_any (sN op.n) w.heap.size w.heap.size g _ _ S0.out.wr (by have := hlen.out; omega) S0.out.below.size (by have := sN_bd op.n; omega)).mono ?_
          rintro e w3 ⟨rfl, g3, hw3, hu3, hm3⟩
          rw [← HE.out] at hw3
          have S := hide (S0.out.step hw3 hu3 hm3)
          clear hw3 hu3 hm3 S0 e0 e1
          go_wp2
          go_roundw
          case rel => exact WBSt.next S.out hy.out HM.out hls'.out HB200.out HK.out hlt
          case measure => simp [intOf]; omega
        · have HE : Hid (enc2 op = Pl.bitsOf op.v (cl64 op.n)) := by unfold Hid enc2; rw [if_neg hk, if_neg hkk, if_neg hkkk]
          have hkb : (op.kind == 1) = false := by simp [hk]
          have hkb2 : (op.kind == 2) = false := by simp [hkk]
          have hkb3 : (op.kind == 3) = false := by simp [hkkk]
          have e1 := S0.out.c1
          have e2 := S0.out.c2
          clear hk hkk hkkk
          go_wp2_with (fail)
          refine (wBits_any op.v op.n w.heap.size w.heap.size g _ _ S0.out.wr (by have := hlen.out; omega) S0.out.below.size hk3.1 hk3.2).mono ?_
          rintro e w3 ⟨rfl, g3, hw3, hu3, hm3⟩
          rw [← HE.out] at hw3
          have S := hide (S0.out.step hw3 hu3 hm3)
          clear hw3 hu3 hm3 S0 e0 e1 e2
          go_wp2
          go_roundw
          case rel => exact WBSt.next S.out hy.out HM.out hls'.out HB200.out HK.out hlt
          case measure => simp [intOf]; omega
      · have hx := hide (HX.out (by have := hl'.out; omega))
        have W2 := hw.out.alloc (.cells #[.int .i64 op.kind, .int .i64 op.n, .int .u64 op.v, .int .u64 op.s, .slice A' n' c'] 58)
        have B2 := hide (hb.out.alloc hb.out.size (.cells #[.int .i64 op.kind, .int .i64 op.n, .int .u64 op.v, .int .u64 op.s, .slice A' n' c'] 58))
        have O2 := hown.out.alloc (.cells #[.int .i64 op.kind, .int .i64 op.n, .int .u64 op.v, .int .u64 op.s, .slice A' n' c'] 58)
        have L2 := hls.out
        have S2 := hsep.out
        have W2 := hide W2
        have O2 := hide O2
        have HM := hide hM
        go_wp2
        go_roundw
        case rel => exact ⟨i + 1, g, AL, cl, xs, hlt, by go_num, by rw [hx.out, HM.out], by rw [hx.out]; exact W2.out, B2.out, by rw [hx.out, HM.out]; exact O2.out, by rw [hx.out]; exact L2, by rw [hx.out, HM.out]; exact S2⟩
        case measure => simp [intOf]; omega
    · obtain ⟨rfl, hex⟩ := (HCS.out i hi).2 hlt
      clear hlt
      have hRL := hide (RdL.of hown.out hls.out rfl)
      have hLl := tk_len ops i
      have hi40 := HN.out.2
      generalize tk ops i = L at *
      have hL40 : L.length ≤ 40 := by omega
      have hpm := hide (packW_max (en2 L))
      rcases hex with hex | ⟨hex, hex2⟩
      all_goals
        go_wp2_with (fail)
        refine (wBytes_any _ _ _ _ _ hw.out (by have := hlen.out; omega)).mono ?_
        rintro e w4 ⟨A4, n4, c4, rfl, hf4⟩
        have B4 := hide (hb.out.trans (hf4.below.mono hb.out.size))
        have R4 := hide hf4.rd
        have hn4 := hide (show n4 ≤ 1099511627776 by
          have h1 := RdB.length hf4.rd
          have := hlen.out
          have := hpm.out
          omega)
        have hRL4 : Hid (RdL w w4 AL L) := fun j op hj => by
          obtain ⟨b5, o5, A5, n5, c5, e5, y0, y1, y2, y3, y4, hh⟩ := hRL.out j op hj
          exact ⟨b5, o5, A5, n5, c5, e5, (hf4.below.cell (lt_cell y0)).trans y0, (hf4.below.cell (lt_cell y1)).trans y1, (hf4.below.cell (lt_cell y2)).trans y2, (hf4.below.cell (lt_cell y3)).trans y3, (hf4.below.cell (lt_cell y4)).trans y4, hh⟩
        clear hf4
        go_wp2_with (fail)
        refine (wdNew_any A4 n4 c4 _ _ R4.out hn4.out).mono ?_
        rintro e w5 ⟨P, q, rfl, hr5, hb5, hq5⟩
        have B5 := hide hb5
        have P5 := hide hr5
        have HQ5 := hide hq5
        clear hr5 hb5 hq5 R4
        generalize (fun b => w4.heap.size ≤ b ∧ b < q) = D at *
        go_wp2_with (fail)
        obtain ⟨wo, rfl⟩ : ∃ wo : World, wo = wr := ⟨_, rfl⟩
        go_loopw [8] (WB2Rel P q D L w4) (fun i _ => L.length - (intOf i).toNat)
        case atStart => exact ⟨0, Nat.zero_le _, rfl, P5.out, B5.out⟩
        case round =>
          obtain ⟨j, hj, rfl, hr, hbb⟩ := hrel
          by_cases hlt : j < L.length
          · obtain ⟨b5, o5, A5, n5, c5, rfl, d0, d1, d2, d3, d4, hrd, hb200, hk1, hk2, hk3, hk4⟩ := hRL4.out j L[j] (List.getElem?_eq_getElem hlt)
            have hjj := hide (List.getElem?_eq_getElem hlt)
            generalize L[j] = op at *
            have c0 := (hbb.out.cell (lt_cell d0)).trans d0
            have c1 := (hbb.out.cell (lt_cell d1)).trans d1
            have c2 := (hbb.out.cell (lt_cell d2)).trans d2
            have c3 := (hbb.out.cell (lt_cell d3)).trans d3
            have c4 := (hbb.out.cell (lt_cell d4)).trans d4
            have hj0 : (0 : Int) ≤ (j : Int) := by omega
            have hj3 : (j : Int) < (L.length : Int) := by omega
            have hm' := hrd.lenmax
            have hl' := hide (RdB.length hrd)
            have HRD := hide hrd
            clear d0 d1 d2 d3 d4 hrd
            have R2 := hide (hr.out.below ((Below.refl _ _).alloc (Nat.le_refl _) (.cells #[.int .i64 op.kind, .int .i64 op.n, .int .u64 op.v, .int .u64 op.s, .slice A5 n5 c5] 58)))
            have B2 := hide (hbb.out.alloc hbb.out.size (.cells #[.int .i64 op.kind, .int .i64 op.n, .int .u64 op.v, .int .u64 op.s, .slice A5 n5 c5] 58))
            have C0 : Hid (∀ k u, (#[.int .i64 op.kind, .int .i64 op.n, .int .u64 op.v, .int .u64 op.s, .slice A5 n5 c5] : Array Value)[k]? = some u → (wr.alloc (.cells #[.int .i64 op.kind, .int .i64 op.n, .int .u64 op.v, .int .u64 op.s, .slice A5 n5 c5] 58)).cell? ⟨wr.heap.size, k, none⟩ = some u) := fun k u h => cell_new rfl h
            have hpq := hide (show P < wr.heap.size ∧ q < P from ⟨hr.out.lt, hr.out.qp⟩)
            have hz := hide (show w4.heap.size ≤ (wr.alloc (.cells #[.int .i64 op.kind, .int .i64 op.n, .int .u64 op.v, .int .u64 op.s, .slice A5 n5 c5] 58)).heap.size from B2.out.size)
            rcases (show op.kind = 1 ∨ (op.kind ≠ 1 ∧ op.kind = 2) ∨ (op.kind ≠ 1 ∧ op.kind ≠ 2 ∧ op.kind = 3) ∨ (op.kind ≠ 1 ∧ op.kind ≠ 2 ∧ op.kind ≠ 3) by omega) with hk | ⟨hk, hkk⟩ | ⟨hk, hkk, hkkk⟩ | ⟨hk, hkk, hkkk⟩
            · have HE : Hid (enc2 op = Pl.octB op.b) := by unfold Hid enc2; rw [if_pos hk]
              have hkb : (op.kind == 1) = true := by simp [hk]
              clear hk
              have KI := hide (fun W h => back_rocts (D := D) (P := P) (q := q) (em := decide (packW (en2 L) = [0])) hjj.out HE.out (n5 : Int) (by have := hl'.out; omega) hb200 W h)
              generalize (en2 (L.take j)).length = a at *
              obtain ⟨a2, ha2⟩ : ∃ a2, (en2 (L.take (j + 1))).length = a2 := ⟨_, rfl⟩
              have HA2 := hide ha2
              rw [ha2] at KI
              clear ha2
              go_wp2_with (fail)
              generalize wr.alloc (.cells #[.int .i64 op.kind, .int .i64 op.n, .int .u64 op.v, .int .u64 op.s, .slice A5 n5 c5] 58) = W0 at *
              have S1 := hide (show W0.drew.cell? ⟨wr.heap.size, 4, none⟩ = some (.slice A5 n5 c5) from C0.out 4 _ rfl)
              have kp : Hid (∀ W', Upd P (some q) W0.drew W' → W'.cell? ⟨wr.heap.size, 4, none⟩ = some (.slice A5 n5 c5)) := fun W' u =>
                (u.cell (a := ⟨wr.heap.size, 4, none⟩) (lt_cell S1.out) (by have := hpq.out; simp only; omega) (by have := hpq.out; simp only [ne_eq, Option.some.injEq]; omega)).trans S1.out
              have R2d := hide (show Wd W0.drew P q D (packW (en2 L)) a 0 (decide (packW (en2 L) = [0])) from R2.out)
              have B2d := hide (show Below w4.heap.size w4 W0.drew from B2.out.drew)
              go_region_held3 (fun w' => w'.cell? ⟨wr.heap.size, 4, none⟩ = some (.slice A5 n5 c5))
                (first | with_reducible exact S1.out | with_reducible exact kp.out _ ‹_› | with_reducible assumption)
                (first
                  | (go_at_call 71; (with_reducible refine (KI.out _ R2d.out).mono ?_); rintro en w9 ⟨A9, n9, c9, rfl, hr9, hu9, ho9⟩; have R9 := hide hr9; have O9 := hide (Rd.of_own ho9); have hcell9 := kp.out _ hu9; have B9 := hide (B2d.out.trans (hu9.below (B := w4.heap.size) (by have := HQ5.out; have := hpq.out; omega) (fun k e => by cases e; exact HQ5.out) hz.out)); clear hr9 ho9 hu9)
                  | (go_at_call 29; (with_reducible refine (sameBytes_any _ _ _ _ _ _ _ _ _ O9.out (HRD.out.below (B4.out.trans (B9.out.mono B4.out.size)) (Nat.le_refl _))).mono ?_); rintro en w8 ⟨rfl, rfl⟩))
              all_goals
                have R10 := R9.out
                rw [← HA2.out] at R10
                have R11 := hide R10
                clear R10
                go_wp2
                go_roundw
                case rel => exact ⟨j + 1, by omega, by go_num, R11.out, B9.out⟩
                case measure => simp [intOf]; omega
            · have HE : Hid (enc2 op = Pl.bitsOf (min op.v op.s) (wid op.s)) := by unfold Hid enc2; rw [if_neg hk, if_pos hkk]
              have hkb : (op.kind == 1) = false := by simp [hk]
              have hkb2 : (op.kind == 2) = true := by simp [hkk]
              clear hk hkk
              have KI := hide (fun W h => back_rbetween (D := D) (P := P) (q := q) (em := decide (packW (en2 L) = [0])) hjj.out HE.out hk3.1 hk4 W h)
              generalize (en2 (L.take j)).length = a at *
              obtain ⟨a2, ha2⟩ : ∃ a2, (en2 (L.take (j + 1))).length = a2 := ⟨_, rfl⟩
              have HA2 := hide ha2
              rw [ha2] at KI
              clear ha2
              go_wp2_with (fail)
              generalize wr.alloc (.cells #[.int .i64 op.kind, .int .i64 op.n, .int .u64 op.v, .int .u64 op.s, .slice A5 n5 c5] 58) = W0 at *
              have S1 := hide (show W0.drew.cell? ⟨wr.heap.size, 2, none⟩ = some (.int .u64 op.v) ∧ W0.drew.cell? ⟨wr.heap.size, 3, none⟩ = some (.int .u64 op.s) from ⟨C0.out 2 _ rfl, C0.out 3 _ rfl⟩)
              have kp : Hid (∀ W', Upd P (some q) W0.drew W' → W'.cell? ⟨wr.heap.size, 2, none⟩ = some (.int .u64 op.v) ∧ W'.cell? ⟨wr.heap.size, 3, none⟩ = some (.int .u64 op.s)) := fun W' u =>
                ⟨(u.cell (a := ⟨wr.heap.size, 2, none⟩) (lt_cell S1.out.1) (by have := hpq.out; simp only; omega) (by have := hpq.out; simp only [ne_eq, Option.some.injEq]; omega)).trans S1.out.1, (u.cell (a := ⟨wr.heap.size, 3, none⟩) (lt_cell S1.out.2) (by have := hpq.out; simp only; omega) (by have := hpq.out; simp only [ne_eq, Option.some.injEq]; omega)).trans S1.out.2⟩
              have R2d := hide (show Wd W0.drew P q D (packW (en2 L)) a 0 (decide (packW (en2 L) = [0])) from R2.out)
              have B2d := hide (show Below w4.heap.size w4 W0.drew from B2.out.drew)
              go_region_held3 (fun w' => w'.cell? ⟨wr.heap.size, 2, none⟩ = some (.int .u64 op.v) ∧ w'.cell? ⟨wr.heap.size, 3, none⟩ = some (.int .u64 op.s))
                (first | with_reducible exact S1.out | with_reducible exact kp.out _ ‹_› | with_reducible assumption)
                ((go_at_call 73; (with_reducible refine (KI.out _ R2d.out).mono ?_); rintro en w9 ⟨rfl, hr9, hu9⟩; have R9 := hide hr9; have hcell9 := kp.out _ hu9; have B9 := hide (B2d.out.trans (hu9.below (B := w4.heap.size) (by have := HQ5.out; have := hpq.out; omega) (fun k e => by cases e; exact HQ5.out) hz.out)); clear hr9 hu9))
              all_goals
                have R10 := R9.out
                rw [← HA2.out] at R10
                have R11 := hide R10
                clear R10
                go_wp2
                go_roundw
                case rel => exact ⟨j + 1, by omega, by go_num, R11.out, B9.out⟩
                case measure => simp [intOf]; omega
            · have HE : Hid (enc2 op = smallB (sN op.n)) := by unfold Hid enc2; rw [if_neg hk, if_neg hkk, if_pos hkkk]
              have hkb : (op.kind == 1) = false := by simp [hk]
              have hkb2 : (op.kind == 2) = false := by simp [hkk]
              have hkb3 : (op.kind == 3) = true := by simp [hkkk]
              clear hk hkk hkkk
              have KI := hide (fun W h => back_rsmall (D := D) (P := P) (q := q) (em := decide (packW (en2 L) = [0])) hjj.out HE.out W h)
              rw [← sN_eq op.n] at KI
              generalize (en2 (L.take j)).length = a at *
              obtain ⟨a2, ha2⟩ : ∃ a2, (en2 (L.take (j + 1))).length = a2 := ⟨_, rfl⟩
              have HA2 := hide ha2
              rw [ha2] at KI
              clear ha2
              go_wp2_with (fail)
              generalize wr.alloc (.cells #[.int .i64 op.kind, .int .i64 op.n, .int .u64 op.v, .int .u64 op.s, .slice A5 n5 c5] 58) = W0 at *
              have S1 := hide (show W0.drew.cell? ⟨wr.heap.size, 1, none⟩ = some (.int .i64 op.n) from C0.out 1 _ rfl)
              have kp : Hid (∀ W', Upd P (some q) W0.drew W' → W'.cell? ⟨wr.heap.size, 1, none⟩ = some (.int .i64 op.n)) := fun W' u =>
                (u.cell (a := ⟨wr.heap.size, 1, none⟩) (lt_cell S1.out) (by have := hpq.out; simp only; omega) (by have := hpq.out; simp only [ne_eq, Option.some.injEq]; omega)).trans S1.out
              have R2d := hide (show Wd W0.drew P q D (packW (en2 L)) a 0 (decide (packW (en2 L) = [0])) from R2.out)
              have B2d := hide (show Below w4.heap.size w4 W0.drew from B2.out.drew)
              go_region_held3 (fun w' => w'.cell? ⟨wr.heap.size, 1, none⟩ = some (.int .i64 op.n))
                (first | with_reducible exact S1.out | with_reducible exact kp.out _ ‹_› | with_reducible assumption)
                ((go_at_call 75; (with_reducible refine (KI.out _ R2d.out).mono ?_); rintro en w9 ⟨rfl, hr9, hu9⟩; have R9 := hide hr9; have hcell9 := kp.out _ hu9; have B9 := hide (B2d.out.trans (hu9.below (B := w4.heap.size) (by have := HQ5.out; have := hpq.out; omega) (fun k e => by cases e; exact HQ5.out) hz.out)); clear hr9 hu9))
              all_goals
                have R10 := R9.out
                rw [← HA2.out] at R10
                have R11 := hide R10
                clear R10
                go_wp2
                all_goals
                  first
                    | (exfalso
                       rename_i hne
                       simp at hne
                       done)
                    | (go_roundw
                       case rel => exact ⟨j + 1, by omega, by go_num, R11.out, B9.out⟩
                       case measure => simp [intOf]; omega)
            · have HE : Hid (enc2 op = Pl.bitsOf op.v (cl64 op.n)) := by unfold Hid enc2; rw [if_neg hk, if_neg hkk, if_neg hkkk]
              have hkb : (op.kind == 1) = false := by simp [hk]
              have hkb2 : (op.kind == 2) = false := by simp [hkk]
              have hkb3 : (op.kind == 3) = false := by simp [hkkk]
              clear hk hkk hkkk
              have KI := hide (fun W h => back_rbits (D := D) (P := P) (q := q) (em := decide (packW (en2 L) = [0])) hjj.out HE.out W h)
              generalize (en2 (L.take j)).length = a at *
              obtain ⟨a2, ha2⟩ : ∃ a2, (en2 (L.take (j + 1))).length = a2 := ⟨_, rfl⟩
              have HA2 := hide ha2
              rw [ha2] at KI
              clear ha2
              have hcl := cl64_val op.n
              have hm64 := cl64_le op.n
              generalize cl64 op.n = m at *
              have c1' := C0.out 1 _ rfl
              go_wp2_with (fail)
              all_goals
                refine (KI.out _ R2.out).mono ?_
                rintro en w9 ⟨rfl, hr9, hu9⟩
                rw [← HA2.out] at hr9
                have R9 := hide hr9
                have B9 := hide (B2.out.trans (hu9.below (B := w4.heap.size) (by have := HQ5.out; have := hpq.out; omega) (fun k e => by cases e; exact HQ5.out) hz.out))
                clear hr9 hu9
                go_wp2_with (fail)
                all_goals
                  first
                    | (exfalso
                       rename_i hlt64 hne
                       rw [mask_w op.v op.n m hcl hlt64 hk3.1 hk3.2] at hne
                       simp at hne
                       done)
                    | (exfalso
                       rename_i hlt64 hne
                       rw [mask_all op.v op.n m hcl (by omega) hk3.1 hk3.2] at hne
                       simp at hne
                       done)
                    | (go_roundw
                       case rel => exact ⟨j + 1, by omega, by go_num, R9.out, B9.out⟩
                       case measure => simp [intOf]; omega)
          · obtain rfl : j = L.length := by omega
            have hpe := back_end (en2 L)
            have hr2 := hr.out
            rw [List.take_length] at hr2
            have kE := hide (wdErr_any _ _ _ _ _ _ _ hr2)
            have kN := wdEnd_any _ _ _ _ _ _ _ hr2
            rw [hpe] at kN
            have KN := hide kN
            clear hr2 kN hpe hlt
            go_wp2_with (fail)
            refine kE.out.mono ?_
            rintro en w9 ⟨rfl, rfl⟩
            go_wp2_with (fail)
            refine KN.out.mono ?_
            rintro en w9 ⟨rfl, hb9⟩
            have B9 := hide ((B4.out.trans (hbb.out.mono B4.out.size)).trans (hb9.mono (Nat.le_trans B4.out.size hbb.out.size)))
            clear hb9
            go_wp2
            go_ret
            exact ⟨rfl, B9.out⟩
end Go.Proofs.Ytikfogepdmpfaaa
