import Derived.Test.YtikfogepdmpfaaaLawBitO
import Derived.Test.YtikfogepdmpfaaaWho3
import Derived.Test.YtikfogepdmpfaaaOpenOp2
import Derived.Test.YtikfogepdmpfaaaSpoil2
import Derived.Test.YtikfogepdmpfaaaKept
namespace Go.Proofs.Ytikfogepdmpfaaa
open Go.RowKit

/-- The state inside a round: two writers, the call's own struct in block q. -/
structure WWSt (w0 : World) (B q : Nat) (op : Op2) (A' : Option Addr) (n' c' : Nat) (g1 g2 : Option Nat) (l1 l2 : List Bool) (W : World) : Prop where
  wr : Wr W B B g1 l1
  wf : Wf W B (B + 1) g2 l2
  sep : Sep B g1 (B + 1) g2
  below : Below B w0 W
  size : w0.heap.size ≤ B
  c0 : W.cell? ⟨q, 0, none⟩ = some (.int .i64 op.kind)
  c1 : W.cell? ⟨q, 1, none⟩ = some (.int .i64 op.n)
  c2 : W.cell? ⟨q, 2, none⟩ = some (.int .u64 op.v)
  c3 : W.cell? ⟨q, 3, none⟩ = some (.int .u64 op.s)
  c4 : W.cell? ⟨q, 4, none⟩ = some (.slice A' n' c')
  rd : Rd w0 A' n' c' (bv op.b)
  q1 : B + 1 < q
  q2 : g1 ≠ some q
  q3 : g2 ≠ some q

section
variable {w0 W W' : World} {B q : Nat} {op : Op2} {A' : Option Addr} {n' c' : Nat} {g1 g2 g1' g2' : Option Nat} {l1 l2 l1' l2' : List Bool}
theorem WWSt.lt (h : WWSt w0 B q op A' n' c' g1 g2 l1 l2 W) : q < W.heap.size := lt_cell h.c0
theorem WWSt.step1 (h : WWSt w0 B q op A' n' c' g1 g2 l1 l2 W) (hw : Wr W' B B g1' l1') (u : Upd B g1 W W') (m : Mv W g1 g1') : WWSt w0 B q op A' n' c' g1' g2 l1' l2 W' := by
  have hq := h.lt
  have hc : ∀ j, W'.cell? ⟨q, j, none⟩ = W.cell? ⟨q, j, none⟩ := fun j => u.cell (a := ⟨q, j, none⟩) hq (by have := h.q1; simp only; omega) (fun e => h.q2 e.symm)
  refine ⟨hw, h.wf.sep u h.sep.symm, (h.wf.sepmv m h.sep.symm).symm, h.below.trans (u.below (Nat.le_refl _) (fun k hk => (h.wr.glt k hk).1) (by have := h.wr.lt; omega)), h.size, (hc 0).trans h.c0, (hc 1).trans h.c1, (hc 2).trans h.c2, (hc 3).trans h.c3, (hc 4).trans h.c4, h.rd, h.q1, ?_, h.q3⟩
  rcases m with rfl | ⟨j, rfl, hj⟩
  · exact h.q2
  · intro e; cases e; omega
theorem WWSt.step2 (h : WWSt w0 B q op A' n' c' g1 g2 l1 l2 W) (hw : Wf W' B (B + 1) g2' l2') (u : Upd (B + 1) g2 W W') (m : Mv W g2 g2') : WWSt w0 B q op A' n' c' g1 g2' l1 l2' W' := by
  have hq := h.lt
  have hc : ∀ j, W'.cell? ⟨q, j, none⟩ = W.cell? ⟨q, j, none⟩ := fun j => u.cell (a := ⟨q, j, none⟩) hq (by have := h.q1; simp only; omega) (fun e => h.q3 e.symm)
  refine ⟨h.wr.sep u h.sep, hw, h.wr.sepmv m h.sep, h.below.trans (u.below (by omega) (fun k hk => (h.wf.glt k hk).1) (by have := h.wr.lt; omega)), h.size, (hc 0).trans h.c0, (hc 1).trans h.c1, (hc 2).trans h.c2, (hc 3).trans h.c3, (hc 4).trans h.c4, h.rd, h.q1, h.q2, ?_⟩
  rcases m with rfl | ⟨j, rfl, hj⟩
  · exact h.q3
  · intro e; cases e; omega
theorem WWSt.grown {r : Option Nat} (h : WWSt w0 B q op A' n' c' g1 g2 l1 l2 W) (k : W.grownBy W' r) (hr : ∀ j, r = some j → B ≤ j ∧ j ≠ B ∧ j ≠ B + 1 ∧ j ≠ q ∧ g1 ≠ some j ∧ g2 ≠ some j) : WWSt w0 B q op A' n' c' g1 g2 l1 l2 W' := by
  have hq := h.lt
  have hn : ∀ j, (j = B ∨ j = B + 1 ∨ j = q) → some j ≠ r := fun j hj e => by
    obtain ⟨_, h1, h2, h3, _⟩ := hr j e.symm
    omega
  have hg : ∀ g : Option Nat, (∀ j, r = some j → g ≠ some j) → g = none ∨ g ≠ r := fun g hh => by
    rcases g with _ | k
    · exact .inl rfl
    · right
      intro e
      exact hh k e.symm rfl
  have hc : ∀ j, W'.cell? ⟨q, j, none⟩ = W.cell? ⟨q, j, none⟩ := fun j => World.cell?_of_block (a := ⟨q, j, none⟩) (k.block q hq (hn q (.inr (.inr rfl))))
  exact ⟨h.wr.grown k (hn B (.inl rfl)) (hg g1 fun j e => (hr j e).2.2.2.2.1), h.wf.grown k (hn (B + 1) (.inr (.inl rfl))) (hg g2 fun j e => (hr j e).2.2.2.2.2), h.sep, grown_below h.below k (fun j e => (hr j e).1) (by have := h.wr.lt; omega), h.size, (hc 0).trans h.c0, (hc 1).trans h.c1, (hc 2).trans h.c2, (hc 3).trans h.c3, (hc 4).trans h.c4, h.rd, h.q1, h.q2, h.q3⟩
theorem WWSt.more (h : WWSt w0 B q op A' n' c' g1 g2 l1 l2 W) (b : Below W.heap.size W W') : WWSt w0 B q op A' n' c' g1 g2 l1 l2 W' :=
  h.grown (r := none) ⟨b.os, b.tape, b.output, b.size, fun k hk _ => b.block k hk⟩ (fun j e => by cases e)
theorem WWSt.arg (h : WWSt w0 B q op A' n' c' g1 g2 l1 l2 W) : Rd W A' n' c' (bv op.b) := h.rd.below (h.below.mono h.size) (Nat.le_refl _)
end

def WWrRel (B : Nat) (ops : List Op2) (w0 : World) (ii : Value) (wr : World) : Prop :=
  ∃ (i : Nat) (g1 g2 : Option Nat) (l : List Bool), i ≤ ops.length ∧ i ≤ 60 ∧ ii = .int .i64 (i : Int) ∧ Hid (Wr wr B B g1 l) ∧ Hid (Wf wr B (B + 1) g2 l) ∧ Hid (Sep B g1 (B + 1) g2) ∧ Hid (Below B w0 wr) ∧ Hid (l.length ≤ 1600 * i)

set_option maxRecDepth 100000 in
set_option maxHeartbeats 1600000 in
theorem wholeWrites_walk (A : Option Addr) (n c : Nat) (ops : List Op2) (w : World) (h : RdO2 w A n c ops) :
    Calls Try.prog 6 #[.slice A n c] w fun e w' => e = .returned (.bool true) ∧ Below w.heap.size w w' := by
  have hln := hide h.1
  have hcap := h.2.1
  have hmx := h.2.2.1
  unfold maxLen at hmx
  have HO := hide h
  clear h
  have WN1 := (Wr.new w w.heap.size 53).alloc (.cells #[.slice none 0 0] 56)
  have WN2 := Wf.new (w.alloc (.cells #[.slice none 0 0, .int .i64 0] 53)) w.heap.size 56
  have hb0 := ((Below.refl w.heap.size w).alloc (Nat.le_refl _) (.cells #[.slice none 0 0, .int .i64 0] 53)).alloc (by simp) (.cells #[.slice none 0 0] 56)
  rw [show (w.alloc (.cells #[.slice none 0 0, .int .i64 0] 53)).heap.size = w.heap.size + 1 by simp] at WN2
  have N1 := hide WN1
  have N2 := hide WN2
  have B0 := hide hb0
  clear WN1 WN2 hb0
  go_enter Try.func6, Try.ntmps6
  go_wp2_with (fail)
  refine (awake17_any _).mono ?_
  rintro e w1 ⟨rfl, hb⟩
  have W1 := hide (N1.out.below hb)
  have V1 := hide (N2.out.below hb)
  have B1 := hide (B0.out.trans (hb.mono B0.out.size))
  clear hb N1 N2 B0
  go_wp2_with (fail)
  refine (wBytes_any _ _ _ _ _ W1.out (by simp)).mono ?_
  rintro e w2 ⟨A2, n2, c2, rfl, hf2⟩
  rw [packW_nil] at hf2
  have W2 := hide ((W1.out.below hf2.below).alloc (.cells #[.int .u8 0] 5))
  have V2 := hide ((V1.out.below hf2.below).alloc (.cells #[.int .u8 0] 5))
  have B2 := hide ((B1.out.trans (hf2.below.mono B1.out.size)).alloc (Nat.le_trans B1.out.size hf2.below.size) (.cells #[.int .u8 0] 5))
  have k2 := hide (sameBytes_any _ _ _ _ _ _ _ _ _ (hf2.rd.alloc (.cells #[.int .u8 0] 5)) (show Rd (w2.alloc (.cells #[.int .u8 0] 5)) _ _ _ (bv [0]) from Rd.one w2 (.int .u8 0) 5))
  clear hf2 W1 V1 B1
  go_wp2_with (fail)
  refine k2.out.mono ?_
  rintro e w3 ⟨rfl, rfl⟩
  simp only [decide_true]
  go_wp2_with (fail)
  go_loopw [5] (WWrRel w.heap.size ops w) (fun i _ => n - (intOf i).toNat)
  case atStart => exact ⟨0, none, none, [], Nat.zero_le _, by omega, rfl, W2.out, V2.out, ⟨by omega, by simp, by simp, .inl rfl⟩, B2.out, by unfold Hid; simp⟩
  case round =>
    obtain ⟨i, g1, g2, l, hi, hi100, rfl, hw, hv, hs, hb, hll⟩ := hrel
    by_cases hlt : i < n
    · by_cases h100 : i < 60
      · have hil : i < ops.length := by have := hln.out; omega
        obtain ⟨b, o, A', n', c', rfl, d0, d1, d2, d3, d4, hrd, hk1, hk2, hk3, hk4⟩ := HO.out.2.2.2 i ops[i] (List.getElem?_eq_getElem hil)
        generalize ops[i] = op at *
        have c0 := (hb.out.cell (lt_cell d0)).trans d0
        have c1 := (hb.out.cell (lt_cell d1)).trans d1
        have c2 := (hb.out.cell (lt_cell d2)).trans d2
        have c3 := (hb.out.cell (lt_cell d3)).trans d3
        have c4 := (hb.out.cell (lt_cell d4)).trans d4
        have hi0 : (0 : Int) ≤ (i : Int) := by omega
        have hi1 : (i : Int) < (n : Int) := by omega
        have hszB : w.heap.size + 1 < wr.heap.size := hv.out.lt
        have hl200 := hide (RdB.length hrd)
        have S0 : Hid (WWSt w w.heap.size wr.heap.size op A' n' c' g1 g2 l l (wr.alloc (.cells #[.int .i64 op.kind, .int .i64 op.n, .int .u64 op.v, .int .u64 op.s, .slice A' n' c'] 58))) :=
          ⟨hw.out.alloc _, hv.out.alloc _, hs.out, hb.out.alloc hb.out.size _, Nat.le_refl _, cell_new rfl rfl, cell_new rfl rfl, cell_new rfl rfl, cell_new rfl rfl, cell_new rfl rfl, hrd, hszB, (fun e => by have := (hw.out.glt _ e).2; omega), (fun e => by have := (hv.out.glt _ e).2; omega)⟩
        have hlm : Hid (l.length ≤ 100000) := by have := hll.out; unfold Hid; omega
        have hn' := hrd.lenmax
        clear hrd d0 d1 d2 d3 d4
        go_wp2_with (fail)
        · go_roundw
          case rel =>
            exact ⟨i + 1, g1, g2, l, by omega, by omega, by go_num, S0.out.wr, S0.out.wf, S0.out.sep, S0.out.below, by have := hll.out; unfold Hid; omega⟩
          case measure => simp [intOf]; omega
        focus
          have hA := S0.out.arg
          have hr : (wr.alloc (.cells #[.int .i64 op.kind, .int .i64 op.n, .int .u64 op.v, .int .u64 op.s, .slice A' n' c'] 58)).heap.size = wr.heap.size + 1 := by simp
          refine (ownByte_any A' n' c' op.b 71 _ hA (by omega)).mono ?_
          rintro e w2 ⟨rfl, ho2, hb2⟩
          have S2 := hide (S0.out.more hb2)
          have hrg1 : Hid (∀ k, g1 = some k → k < wr.heap.size + 1) := fun k hk => by
            have := (S0.out.wr.glt k hk).2
            omega
          have hrg2 : Hid (∀ k, g2 = some k → k < wr.heap.size + 1) := fun k hk => by
            have := (S0.out.wf.glt k hk).2
            omega
          rw [hr] at ho2 ⊢
          have HO2 := hide ho2
          have hgb1 := hide (fun k hk => (hw.out.glt k hk).1)
          have hgb2 := hide (fun k hk => (hv.out.glt k hk).1)
          have hin : Rd w2 (some ⟨wr.heap.size + 1, 0, none⟩) n' (n' + 3) (bv op.b) := by
            have := Rd.of_full ho2 (n := n') (by omega)
            rwa [List.take_left' (by rw [bv_length]; exact hl200.out.symm)] at this
          have HIN := hide hin
          have hoff1 := hide (show Off w.heap.size g1 (some ⟨wr.heap.size + 1, 0, none⟩) n' from Off.mk n' (by omega) (fun e => by have := hrg1.out _ e.symm; omega))
          clear hA hr hb2 ho2 S0 hin
          go_wp2_with (fail)
          refine (wOcts_any w.heap.size w.heap.size g1 l _ _ _ op.b _ S2.out.wr (by have := hlm.out; have := hl200.out; omega) S2.out.below.size HIN.out hoff1.out).mono ?_
          rintro e w4 ⟨rfl, g3, hw4, hu4, hm4⟩
          have S4 := hide (S2.out.step1 hw4 hu4 hm4)
          have HO4 := hide (own_upd HO2.out hu4 (fun k hk => by
            have hk : wr.heap.size + 1 = k := by simpa [Value.ownBlock] using hk
            exact ⟨by omega, fun e => by have := hrg1.out _ e.symm; omega⟩))
          have e4 := S4.out.c4
          clear hw4 hu4 hm4 S2 HO2
          go_wp2_with (fail)
          refine (rwOcts_any w.heap.size (w.heap.size + 1) g2 l _ _ _ op.b _ S4.out.wf (by have := hlm.out; have := hl200.out; omega) S4.out.below.size S4.out.arg (Off.of_lt S4.out.rd (by omega) hgb2.out)).mono ?_
          rintro e w6 ⟨rfl, g4, hw6, hu6, hm6⟩
          have S6 := hide (S4.out.step2 hw6 hu6 hm6)
          have HO6 := hide (own_upd HO4.out hu6 (fun k hk => by
            have hk : wr.heap.size + 1 = k := by simpa [Value.ownBlock] using hk
            exact ⟨by omega, fun e => by have := hrg2.out _ e.symm; omega⟩))
          have e4 := S6.out.c4
          clear hw6 hu6 hm6 S4 HO4
          go_wp2_with (fail)
          refine (keptByte_any _ n' _ _ _ op.b 71 _ (Rd.of_own HO6.out) S6.out.arg).mono ?_
          rintro e w7 ⟨rfl, q7, rfl⟩
          have S := hide (S6.out.more (below_drewN q7 (Below.refl _ _)))
          have HLL : Hid ((l ++ Pl.octB op.b).length ≤ 1600 * (i + 1)) := by
            have h2 := hll.out
            have h3 := hl200.out
            show _ ≤ _
            simp only [List.length_append, Pl.octB_length]
            omega
          generalize l ++ Pl.octB op.b = l2 at *
          have S := hide S.out
          clear S6 HO6 e4
          go_wp2_with (fail)
        rotate_left
        focus
          refine (wBetween_any op.v op.s w.heap.size w.heap.size g1 l _ S0.out.wr (by have := hlm.out; omega) S0.out.below.size hk3.1 hk3.2 hk4.1 hk4.2).mono ?_
          rintro e w2 ⟨rfl, g3, hw2, hu2, hm2⟩
          have S1 := hide (S0.out.step1 hw2 hu2 hm2)
          have e1 := S1.out.c1
          have e2 := S1.out.c2
          have e3 := S1.out.c3
          clear hw2 hu2 hm2 S0
          go_wp2_with (fail)
          refine (rwBetween_any op.v op.s w.heap.size (w.heap.size + 1) g2 l _ S1.out.wf (by have := hlm.out; omega) S1.out.below.size hk3.1 hk3.2 hk4.1 hk4.2).mono ?_
          rintro e w3 ⟨rfl, g4, hw3, hu3, hm3⟩
          have S := hide (S1.out.step2 hw3 hu3 hm3)
          have HLL : Hid ((l ++ Pl.bitsOf (min op.v op.s) (wid op.s)).length ≤ 1600 * (i + 1)) := by
            have h1 := (show (Pl.bitsOf (min op.v op.s) (wid op.s)).length ≤ 64 by rw [Pl.bitsOf_length]; exact wid_le _)
            have h2 := hll.out
            show _ ≤ _
            rw [List.length_append]
            omega
          generalize l ++ Pl.bitsOf (min op.v op.s) (wid op.s) = l2 at *
          have S := hide S.out
          clear hw3 hu3 hm3 S1 e1 e2 e3
          go_wp2_with (fail)
        rotate_left
        focus
          refine (wSmall_any op.n w.heap.size w.heap.size g1 l _ S0.out.wr (by have := hlm.out; omega) S0.out.below.size hk2.2).mono ?_
          rintro e w2 ⟨rfl, g3, hw2, hu2, hm2⟩
          have S1 := hide (S0.out.step1 hw2 hu2 hm2)
          have e1 := S1.out.c1
          have e2 := S1.out.c2
          have e3 := S1.out.c3
          clear hw2 hu2 hm2 S0
          go_wp2_with (fail)
          refine (rwSmall_any op.n w.heap.size (w.heap.size + 1) g2 l _ S1.out.wf (by have := hlm.out; omega) S1.out.below.size hk2.2).mono ?_
          rintro e w3 ⟨rfl, g4, hw3, hu3, hm3⟩
          have S := hide (S1.out.step2 hw3 hu3 hm3)
          have HLL : Hid ((l ++ smallB op.n).length ≤ 1600 * (i + 1)) := by
            have h1 := smallB_le op.n
            have h2 := hll.out
            show _ ≤ _
            rw [List.length_append]
            omega
          generalize l ++ smallB op.n = l2 at *
          have S := hide S.out
          clear hw3 hu3 hm3 S1 e1 e2 e3
          go_wp2_with (fail)
        rotate_left
        focus
          refine (wBits_any op.v op.n w.heap.size w.heap.size g1 l _ S0.out.wr (by have := hlm.out; omega) S0.out.below.size hk3.1 hk3.2).mono ?_
          rintro e w2 ⟨rfl, g3, hw2, hu2, hm2⟩
          have S1 := hide (S0.out.step1 hw2 hu2 hm2)
          have e1 := S1.out.c1
          have e2 := S1.out.c2
          have e3 := S1.out.c3
          clear hw2 hu2 hm2 S0
          go_wp2_with (fail)
          refine (rwBits_any op.v op.n w.heap.size (w.heap.size + 1) g2 l _ S1.out.wf (by have := hlm.out; omega) S1.out.below.size hk3.1 hk3.2).mono ?_
          rintro e w3 ⟨rfl, g4, hw3, hu3, hm3⟩
          have S := hide (S1.out.step2 hw3 hu3 hm3)
          have HLL : Hid ((l ++ Pl.bitsOf op.v (cl64 op.n)).length ≤ 1600 * (i + 1)) := by
            have h1 := (show (Pl.bitsOf op.v (cl64 op.n)).length ≤ 64 by rw [Pl.bitsOf_length]; exact cl64_le _)
            have h2 := hll.out
            show _ ≤ _
            rw [List.length_append]
            omega
          generalize l ++ Pl.bitsOf op.v (cl64 op.n) = l2 at *
          have S := hide S.out
          clear hw3 hu3 hm3 S1 e1 e2 e3
          go_wp2_with (fail)
        all_goals
          obtain ⟨hl2, hS2⟩ : Hid (l2.length ≤ 100000) ∧ True := ⟨by have := HLL.out; unfold Hid; omega, trivial⟩
          refine (wBytes_any _ _ _ l2 _ S.out.wr (by have := hl2.out; omega)).mono ?_
          rintro e w5 ⟨A5, n5, c5, rfl, hf5⟩
          have T5 := hide (S.out.more hf5.below)
          have hoff : Hid (∀ j, (Value.slice A5 n5 c5).ownBlock = some j → w.heap.size ≤ j ∧ j ≠ w.heap.size ∧ j ≠ w.heap.size + 1 ∧ j ≠ wr.heap.size ∧ _ ≠ some j ∧ _ ≠ some j) := fun j hj => by
            have h1 := (hf5.1.lt j hj).1
            have h2 := S.out.lt
            exact ⟨by omega, by omega, by omega, by omega, (fun e => by have := (S.out.wr.glt j e).2; omega), (fun e => by have := (S.out.wf.glt j e).2; omega)⟩
          have R5 := hide hf5.rd
          have O5 := hide hf5.1
          clear hf5
          go_wp2_with (fail)
          refine (wLen_any _ _ _ _ _ T5.out.wr).mono ?_
          rintro e w6 ⟨rfl, rfl⟩
          go_wp2_with (fail)
          refine (rwLen_any _ _ _ _ _ T5.out.wf).mono ?_
          rintro e w6 ⟨rfl, rfl⟩
          go_wp2_with (fail)
          refine (rwBytes_any _ _ _ _ _ T5.out.wf (by have := hl2.out; omega)).mono ?_
          rintro e w9 ⟨A9, n9, c9, rfl, hf9⟩
          have T9 := hide (T5.out.more hf9.below)
          have O9 := hide (own_below O5.out hf9.below)
          have k9 := hide (sameBytes_any _ _ _ _ _ _ _ _ w9 (R5.out.below hf9.below (Nat.le_refl _)) hf9.rd)
          clear hf9
          go_wp2_with (fail)
          refine k9.out.mono ?_
          rintro e w8 ⟨rfl, rfl⟩
          simp only [decide_true]
          go_wp2_with (fail)
          refine (spoil2_any _ _ _ _ _ _ O9.out).mono ?_
          rintro e w10 ⟨rfl, hg10⟩
          have T10 := hide (T9.out.grown hg10 hoff.out)
          clear hg10
          go_wp2
          go_roundw
          case rel => exact ⟨i + 1, _, _, l2, by omega, by omega, by go_num, T10.out.wr, T10.out.wf, T10.out.sep, T10.out.below, HLL.out⟩
          case measure => simp [intOf]; omega
      · have hlm : Hid (l.length ≤ 100000) := by have := hll.out; unfold Hid; omega
        go_wp2_with (fail)
        refine (wBytes_any _ _ _ l _ hw.out (by have := hlm.out; omega)).mono ?_
        rintro e w5 ⟨A5, n5, c5, rfl, hf5⟩
        have R5 := hide hf5.rd
        have V5 := hide (hv.out.below hf5.below)
        have B5 := hide (hb.out.trans (hf5.below.mono hb.out.size))
        clear hf5
        go_wp2_with (fail)
        refine (rwBytes_any _ _ _ l _ V5.out (by have := hlm.out; omega)).mono ?_
        rintro e w6 ⟨A6, n6, c6, rfl, hf6⟩
        have B6 := hide (B5.out.trans (hf6.below.mono B5.out.size))
        have k9 := hide (sameBytes_any _ _ _ _ _ _ _ _ w6 (R5.out.below hf6.below (Nat.le_refl _)) hf6.rd)
        clear hf6
        go_wp2_with (fail)
        refine k9.out.mono ?_
        rintro e w7 ⟨rfl, rfl⟩
        go_wp2
        go_ret
        exact ⟨by simp, B6.out⟩
    · have hlm : Hid (l.length ≤ 100000) := by have := hll.out; unfold Hid; omega
      go_wp2_with (fail)
      refine (wBytes_any _ _ _ l _ hw.out (by have := hlm.out; omega)).mono ?_
      rintro e w5 ⟨A5, n5, c5, rfl, hf5⟩
      have R5 := hide hf5.rd
      have V5 := hide (hv.out.below hf5.below)
      have B5 := hide (hb.out.trans (hf5.below.mono hb.out.size))
      clear hf5
      go_wp2_with (fail)
      refine (rwBytes_any _ _ _ l _ V5.out (by have := hlm.out; omega)).mono ?_
      rintro e w6 ⟨A6, n6, c6, rfl, hf6⟩
      have B6 := hide (B5.out.trans (hf6.below.mono B5.out.size))
      have k9 := hide (sameBytes_any _ _ _ _ _ _ _ _ w6 (R5.out.below hf6.below (Nat.le_refl _)) hf6.rd)
      clear hf6
      go_wp2_with (fail)
      refine k9.out.mono ?_
      rintro e w7 ⟨rfl, rfl⟩
      go_wp2
      go_ret
      exact ⟨by simp, B6.out⟩
end Go.Proofs.Ytikfogepdmpfaaa
