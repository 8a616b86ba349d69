import Derived.Test.YtikfogepdmpfaaaLawBitO
import Derived.Test.YtikfogepdmpfaaaOpenOp
import Derived.Test.YtikfogepdmpfaaaSpoil2
import Derived.Test.YtikfogepdmpfaaaKept
import Derived.Deep.RegionHeld3
namespace Go.Proofs.Ytikfogepdmpfaaa
open Go.RowKit

/-- The state inside a round: two writers, the call's own struct in block q. -/
structure BWSt (w0 : World) (B q : Nat) (op : Op1) (A' : Option Addr) (n' c' : Nat) (g1 g2 : Option Nat) (l1 l2 : List Bool) (W : World) : Prop where
  wr : Wr W B B g1 l1
  wf : Wf W B (B + 1) g2 l2
  sep : Sep B g1 (B + 1) g2
  below : Below B w0 W
  size : w0.heap.size ≤ B
  c0 : W.cell? ⟨q, 0, none⟩ = some (.int .i64 op.kind)
  c1 : W.cell? ⟨q, 1, none⟩ = some (.int .i64 op.n)
  c2 : W.cell? ⟨q, 2, none⟩ = some (.int .u32 op.v)
  c3 : W.cell? ⟨q, 3, none⟩ = some (.slice A' n' c')
  rd : Rd w0 A' n' c' (bv op.b)
  q1 : B + 1 < q
  q2 : g1 ≠ some q
  q3 : g2 ≠ some q

section
variable {w0 W W' : World} {B q : Nat} {op : Op1} {A' : Option Addr} {n' c' : Nat} {g1 g2 g1' g2' : Option Nat} {l1 l2 l1' l2' : List Bool}
theorem BWSt.lt (h : BWSt w0 B q op A' n' c' g1 g2 l1 l2 W) : q < W.heap.size := lt_cell h.c0
theorem BWSt.step1 (h : BWSt w0 B q op A' n' c' g1 g2 l1 l2 W) (hw : Wr W' B B g1' l1') (u : Upd B g1 W W') (m : Mv W g1 g1') : BWSt w0 B q op A' n' c' g1' g2 l1' l2 W' := by
  have hq := h.lt
  have hc : ∀ j, W'.cell? ⟨q, j, none⟩ = W.cell? ⟨q, j, none⟩ := fun j => u.cell (a := ⟨q, j, none⟩) hq (by have := h.q1; simp only; omega) (fun e => h.q2 e.symm)
  refine ⟨hw, h.wf.sep u h.sep.symm, (h.wf.sepmv m h.sep.symm).symm, h.below.trans (u.below (Nat.le_refl _) (fun k hk => (h.wr.glt k hk).1) (by have := h.wr.lt; omega)), h.size, (hc 0).trans h.c0, (hc 1).trans h.c1, (hc 2).trans h.c2, (hc 3).trans h.c3, h.rd, h.q1, ?_, h.q3⟩
  rcases m with rfl | ⟨j, rfl, hj⟩
  · exact h.q2
  · intro e; cases e; omega
theorem BWSt.step2 (h : BWSt w0 B q op A' n' c' g1 g2 l1 l2 W) (hw : Wf W' B (B + 1) g2' l2') (u : Upd (B + 1) g2 W W') (m : Mv W g2 g2') : BWSt w0 B q op A' n' c' g1 g2' l1 l2' W' := by
  have hq := h.lt
  have hc : ∀ j, W'.cell? ⟨q, j, none⟩ = W.cell? ⟨q, j, none⟩ := fun j => u.cell (a := ⟨q, j, none⟩) hq (by have := h.q1; simp only; omega) (fun e => h.q3 e.symm)
  refine ⟨h.wr.sep u h.sep, hw, h.wr.sepmv m h.sep, h.below.trans (u.below (by omega) (fun k hk => (h.wf.glt k hk).1) (by have := h.wr.lt; omega)), h.size, (hc 0).trans h.c0, (hc 1).trans h.c1, (hc 2).trans h.c2, (hc 3).trans h.c3, h.rd, h.q1, h.q2, ?_⟩
  rcases m with rfl | ⟨j, rfl, hj⟩
  · exact h.q3
  · intro e; cases e; omega
theorem BWSt.grown {r : Option Nat} (h : BWSt w0 B q op A' n' c' g1 g2 l1 l2 W) (k : W.grownBy W' r) (hr : ∀ j, r = some j → B ≤ j ∧ j ≠ B ∧ j ≠ B + 1 ∧ j ≠ q ∧ g1 ≠ some j ∧ g2 ≠ some j) : BWSt w0 B q op A' n' c' g1 g2 l1 l2 W' := by
  have hq := h.lt
  have hn : ∀ j, (j = B ∨ j = B + 1 ∨ j = q) → some j ≠ r := fun j hj e => by
    obtain ⟨_, h1, h2, h3, _⟩ := hr j e.symm
    omega
  have hg : ∀ g : Option Nat, (∀ j, r = some j → g ≠ some j) → g = none ∨ g ≠ r := fun g hh => by
    rcases g with _ | k
    · exact .inl rfl
    · right
      intro e
      exact hh k e.symm rfl
  have hc : ∀ j, W'.cell? ⟨q, j, none⟩ = W.cell? ⟨q, j, none⟩ := fun j => World.cell?_of_block (a := ⟨q, j, none⟩) (k.block q hq (hn q (.inr (.inr rfl))))
  exact ⟨h.wr.grown k (hn B (.inl rfl)) (hg g1 fun j e => (hr j e).2.2.2.2.1), h.wf.grown k (hn (B + 1) (.inr (.inl rfl))) (hg g2 fun j e => (hr j e).2.2.2.2.2), h.sep, grown_below h.below k (fun j e => (hr j e).1) (by have := h.wr.lt; omega), h.size, (hc 0).trans h.c0, (hc 1).trans h.c1, (hc 2).trans h.c2, (hc 3).trans h.c3, h.rd, h.q1, h.q2, h.q3⟩
theorem BWSt.more (h : BWSt w0 B q op A' n' c' g1 g2 l1 l2 W) (b : Below W.heap.size W W') : BWSt w0 B q op A' n' c' g1 g2 l1 l2 W' :=
  h.grown (r := none) ⟨b.os, b.tape, b.output, b.size, fun k hk _ => b.block k hk⟩ (fun j e => by cases e)
theorem BWSt.arg (h : BWSt w0 B q op A' n' c' g1 g2 l1 l2 W) : Rd W A' n' c' (bv op.b) := h.rd.below (h.below.mono h.size) (Nat.le_refl _)
end

theorem own_upd {w w' : World} {base n size p : Nat} {g : Option Nat} {e : TypeId} {v : Value} {xs : List Value} (h : w.ownsRow base e size v n xs) (u : Upd p g w w') (hv : ∀ k, v.ownBlock = some k → k ≠ p ∧ some k ≠ g) : w'.ownsRow base e size v n xs :=
  own_of_block h fun k hk => u.block k (h.lt k hk).2 (hv k hk).1 (hv k hk).2
theorem below_drewN {B : Nat} {a : World} : ∀ (q : Nat) {w : World}, Below B a w → Below B a (w.drewN q)
  | 0, _, h => h
  | q + 1, w, h => by
    have := below_drewN q (w := w) h
    exact ⟨this.os, this.tape, this.output, this.size, this.block⟩

theorem keepW {w5 w' w'' : World} {a : Addr} {v : Value} (h1 : w5.drew.cell? a = some v) (h : w'.cell? a = some v ∧ Below w5.heap.size w5 w') (hb : Below w'.heap.size w' w'') : w''.cell? a = some v ∧ Below w5.heap.size w5 w'' :=
  have h2 : w5.cell? a = some v := h1
  ⟨((below_next h.2 hb).cell (lt_cell h2)).trans h2, below_next h.2 hb⟩

def BWRel (B : Nat) (ops : List Op1) (w0 : World) (ii : Value) (wr : World) : Prop :=
  ∃ (i : Nat) (g1 g2 : Option Nat) (l : List Bool), i ≤ ops.length ∧ i ≤ 100 ∧ ii = .int .i64 (i : Int) ∧ Hid (Wr wr B B g1 l) ∧ Hid (Wf wr B (B + 1) g2 l) ∧ Hid (Sep B g1 (B + 1) g2) ∧ Hid (Below B w0 wr) ∧ Hid (l.length ≤ 3200 * i)

set_option maxRecDepth 100000 in
set_option maxHeartbeats 1600000 in
theorem bitsWrite_walk (A : Option Addr) (n c : Nat) (ops : List Op1) (w : World) (h : RdO1 w A n c ops) :
    Calls Try.prog 3 #[.slice A n c] w fun e w' => e = .returned (.bool true) ∧ Below w.heap.size w w' := by
  have hln := hide h.1
  have hcap := h.2.1
  have hmx := h.2.2.1
  unfold maxLen at hmx
  have HO := hide h
  clear h
  have WN1 := (Wr.new w w.heap.size 25).alloc (.cells #[.slice none 0 0] 28)
  have WN2 := Wf.new (w.alloc (.cells #[.slice none 0 0, .int .i64 0] 25)) w.heap.size 28
  have hb0 := ((Below.refl w.heap.size w).alloc (Nat.le_refl _) (.cells #[.slice none 0 0, .int .i64 0] 25)).alloc (by simp) (.cells #[.slice none 0 0] 28)
  rw [show (w.alloc (.cells #[.slice none 0 0, .int .i64 0] 25)).heap.size = w.heap.size + 1 by simp] at WN2
  have N1 := hide WN1
  have N2 := hide WN2
  have B0 := hide hb0
  clear WN1 WN2 hb0
  go_enter Try.func3, Try.ntmps3
  go_wp2_with (fail)
  refine (awake01_any _).mono ?_
  rintro e w1 ⟨rfl, hb⟩
  have W1 := hide (N1.out.below hb)
  have V1 := hide (N2.out.below hb)
  have B1 := hide (B0.out.trans (hb.mono B0.out.size))
  clear hb N1 N2 B0
  go_wp2_with (fail)
  go_loopw [5] (BWRel w.heap.size ops w) (fun i _ => n - (intOf i).toNat)
  case atStart => exact ⟨0, none, none, [], Nat.zero_le _, by omega, rfl, W1.out, V1.out, ⟨by omega, by simp, by simp, .inl rfl⟩, B1.out, by unfold Hid; simp⟩
  case round =>
    obtain ⟨i, g1, g2, l, hi, hi100, rfl, hw, hv, hs, hb, hll⟩ := hrel
    by_cases hlt : i < n
    · by_cases h100 : i < 100
      · have hil : i < ops.length := by have := hln.out; omega
        obtain ⟨b, o, A', n', c', rfl, d0, d1, d2, d3, hrd, hk1, hk2, hk3⟩ := HO.out.2.2.2 i ops[i] (List.getElem?_eq_getElem hil)
        generalize ops[i] = op at *
        have c0 := (hb.out.cell (lt_cell d0)).trans d0
        have c1 := (hb.out.cell (lt_cell d1)).trans d1
        have c2 := (hb.out.cell (lt_cell d2)).trans d2
        have c3 := (hb.out.cell (lt_cell d3)).trans d3
        have hi0 : (0 : Int) ≤ (i : Int) := by omega
        have hi1 : (i : Int) < (n : Int) := by omega
        have hszB : w.heap.size + 1 < wr.heap.size := hv.out.lt
        have hl200 := hide (RdB.length hrd)
        have S0 : Hid (BWSt w w.heap.size wr.heap.size op A' n' c' g1 g2 l l (wr.alloc (.cells #[.int .i64 op.kind, .int .i64 op.n, .int .u32 op.v, .slice A' n' c'] 32))) :=
          ⟨hw.out.alloc _, hv.out.alloc _, hs.out, hb.out.alloc hb.out.size _, Nat.le_refl _, cell_new rfl rfl, cell_new rfl rfl, cell_new rfl rfl, cell_new rfl rfl, hrd, hszB, (fun e => by have := (hw.out.glt _ e).2; omega), (fun e => by have := (hv.out.glt _ e).2; omega)⟩
        have hlm : Hid (l.length ≤ 320000) := by have := hll.out; unfold Hid; omega
        have hn' := hrd.lenmax
        clear hrd d0 d1 d2 d3
        go_wp2_with (fail)
        focus
          refine (bits_any op.v op.n w.heap.size w.heap.size g1 l _ S0.out.wr (by have := hlm.out; omega) S0.out.below.size).mono ?_
          rintro e w2 ⟨rfl, g3, hw2, hu2, hm2⟩
          have S1 := hide (S0.out.step1 hw2 hu2 hm2)
          have e2 := S1.out.c2
          have e1 := S1.out.c1
          clear hw2 hu2 hm2 S0
          go_wp2_with (fail)
          refine (refBits_any op.v op.n w.heap.size (w.heap.size + 1) g2 l _ S1.out.wf (by have := hlm.out; omega) S1.out.below.size).mono ?_
          rintro e w3 ⟨rfl, g4, hw3, hu3, hm3⟩
          have S := hide (S1.out.step2 hw3 hu3 hm3)
          have HLL : Hid ((l ++ Pl.bitsOf op.v (cl32 op.n)).length ≤ 3200 * (i + 1)) := by
            have h1 := cl32_le op.n
            have h2 := hll.out
            show _ ≤ _
            rw [List.length_append, Pl.bitsOf_length]
            omega
          generalize l ++ Pl.bitsOf op.v (cl32 op.n) = l2 at *
          have S := hide S.out
          clear hw3 hu3 hm3 S1 e1 e2
          go_wp2_with (fail)
        rotate_left
        · go_roundw
          case rel =>
            exact ⟨i + 1, g1, g2, l, by omega, by omega, by go_num, S0.out.wr, S0.out.wf, S0.out.sep, S0.out.below, by have := hll.out; unfold Hid; omega⟩
          case measure => simp [intOf]; omega
        focus
          have hA := S0.out.arg
          have hr : (wr.alloc (.cells #[.int .i64 op.kind, .int .i64 op.n, .int .u32 op.v, .slice A' n' c'] 32)).heap.size = wr.heap.size + 1 := by simp
          refine (ownByte_any A' n' c' op.b 71 _ hA (by omega)).mono ?_
          rintro e w2 ⟨rfl, ho2, hb2⟩
          have S2 := hide (S0.out.more hb2)
          have hrg1 : Hid (∀ k, g1 = some k → k < wr.heap.size + 1) := fun k hk => by
            have := (S0.out.wr.glt k hk).2
            omega
          have hrg2 : Hid (∀ k, g2 = some k → k < wr.heap.size + 1) := fun k hk => by
            have := (S0.out.wf.glt k hk).2
            omega
          have hsz2 : wr.heap.size + 1 < w2.heap.size := by
            rw [hr] at ho2
            exact (ho2.lt _ rfl).2
          rw [hr] at ho2 ⊢
          have HB2 := hide hb2
          have HO2 := hide ho2
          have hgb1 := hide (fun k hk => (hw.out.glt k hk).1)
          have hgb2 := hide (fun k hk => (hv.out.glt k hk).1)
          have e3 := S2.out.c3
          clear hA hr hb2 ho2 S0
          go_wp2_with (fail)
          have S3 := hide (S2.out.more ((Below.refl _ _).alloc (Nat.le_refl _) (.cells #[.slice (some ⟨wr.heap.size + 1, 0, none⟩) n' (n' + 3), .slice A' n' c'] 23)))
          have HO3 := hide (HO2.out.alloc (.cells #[.slice (some ⟨wr.heap.size + 1, 0, none⟩) n' (n' + 3), .slice A' n' c'] 23))
          have hin3 : Rd (w2.alloc (.cells #[.slice (some ⟨wr.heap.size + 1, 0, none⟩) n' (n' + 3), .slice A' n' c'] 23)) (some ⟨wr.heap.size + 1, 0, none⟩) n' (n' + 3) (bv op.b) := by
            have := Rd.of_full HO3.out (n := n') (by omega)
            rwa [List.take_left' (by rw [bv_length]; exact hl200.out.symm)] at this
          have rp := RdV.two (w := w2.alloc (.cells #[.slice (some ⟨wr.heap.size + 1, 0, none⟩) n' (n' + 3), .slice A' n' c'] 23)) (b := w2.heap.size) (c := 2) (cell_new rfl rfl) (cell_new rfl rfl) (by omega) (by unfold maxLen; omega) hin3 S3.out.arg
          have HV : Hid (∀ w', Upd w.heap.size g1 (w2.alloc (.cells #[.slice (some ⟨wr.heap.size + 1, 0, none⟩) n' (n' + 3), .slice A' n' c'] 23)) w' → RdV w' (some ⟨w2.heap.size, 0, none⟩) 2 2 [.slice (some ⟨wr.heap.size + 1, 0, none⟩) n' (n' + 3), .slice A' n' c'] [op.b, op.b]) := fun w' u => rp.upd u (Off.mk 2 (by omega) (fun e => by have := hrg1.out _ e.symm; omega)) (fun j A9 n9 c9 h => by
            match j, h with
            | 0, h => cases h; exact Off.mk n' (by omega) (fun e => by have := hrg1.out _ e.symm; omega)
            | 1, h => cases h; exact Off.of_lt S3.out.rd (Nat.le_refl _) hgb1.out)
          have hflat : Hid (([op.b, op.b] : List (List UInt8)).flatten = op.b ++ op.b) := by unfold Hid; simp
          clear rp hin3 e3 S2
          refine (octs_any w.heap.size w.heap.size g1 l _ _ _ [op.b, op.b] _ S3.out.wr ?_ S3.out.below.size _ HV.out).mono ?_
          · rw [hflat.out, List.length_append]
            have := hlm.out
            have := hl200.out
            omega
          rintro e w4 ⟨rfl, g3, hw4, hu4, hm4⟩
          rw [hflat.out] at hw4
          have S4 := hide (S3.out.step1 hw4 hu4 hm4)
          have HO4 := hide (own_upd HO3.out hu4 (fun k hk => by
            have hk : wr.heap.size + 1 = k := by simpa [Value.ownBlock] using hk
            exact ⟨by omega, fun e => by have := hrg1.out _ e.symm; omega⟩))
          have hrg3 : Hid (g3 ≠ some (wr.heap.size + 1)) := by
            rcases hm4 with rfl | ⟨j, rfl, hj⟩
            · intro e
              have := hrg1.out _ e
              omega
            · intro e
              cases e
              simp at hj
              omega
          have hsz4 : wr.heap.size + 1 < w4.heap.size := by have := hu4.size; simp at this; omega
          have e3 := S4.out.c3
          clear hw4 hu4 hm4 HV S3 HO3
          go_wp2_with (fail)
          have S5 := hide (S4.out.more ((Below.refl _ _).alloc (Nat.le_refl _) (.cells #[.slice A' n' c', .slice A' n' c'] 23)))
          have HO5 := hide (HO4.out.alloc (.cells #[.slice A' n' c', .slice A' n' c'] 23))
          have rp := RdV.two (w := w4.alloc (.cells #[.slice A' n' c', .slice A' n' c'] 23)) (b := w4.heap.size) (c := 2) (cell_new rfl rfl) (cell_new rfl rfl) (by omega) (by unfold maxLen; omega) S5.out.arg S5.out.arg
          have hrg4 := hide (fun k hk => (S4.out.wf.glt k hk).2)
          have HV : Hid (∀ w', Upd (w.heap.size + 1) g2 (w4.alloc (.cells #[.slice A' n' c', .slice A' n' c'] 23)) w' → RdV w' (some ⟨w4.heap.size, 0, none⟩) 2 2 [.slice A' n' c', .slice A' n' c'] [op.b, op.b]) := fun w' u => rp.upd u (Off.mk 2 (by omega) (fun e => by have := hrg4.out _ e.symm; omega)) (fun j A9 n9 c9 h => by
            match j, h with
            | 0, h => cases h; exact Off.of_lt S5.out.rd (by omega) hgb2.out
            | 1, h => cases h; exact Off.of_lt S5.out.rd (by omega) hgb2.out)
          clear rp e3 S4
          refine (refOcts_any w.heap.size (w.heap.size + 1) g2 l _ _ _ [op.b, op.b] _ S5.out.wf ?_ S5.out.below.size _ HV.out).mono ?_
          · rw [hflat.out, List.length_append]
            have := hlm.out
            have := hl200.out
            omega
          rintro e w6 ⟨rfl, g4, hw6, hu6, hm6⟩
          rw [hflat.out] at hw6
          have S6 := hide (S5.out.step2 hw6 hu6 hm6)
          have HO6 := hide (own_upd HO5.out hu6 (fun k hk => by
            have hk : wr.heap.size + 1 = k := by simpa [Value.ownBlock] using hk
            exact ⟨by omega, fun e => by have := hrg2.out _ e.symm; omega⟩))
          have hrg6 : Hid (g4 ≠ some (wr.heap.size + 1)) := by
            rcases hm6 with rfl | ⟨j, rfl, hj⟩
            · intro e
              have := hrg2.out _ e
              omega
            · intro e
              cases e
              simp at hj
              omega
          have e3 := S6.out.c3
          clear hw6 hu6 hm6 HV S5 HO5
          go_wp2_with (fail)
          refine (keptByte_any _ n' _ _ _ op.b 71 _ (Rd.of_own HO6.out) S6.out.arg).mono ?_
          rintro e w7 ⟨rfl, q7, rfl⟩
          have S7 := hide (S6.out.more (below_drewN q7 (Below.refl _ _)))
          have HO7 := hide (own_below HO6.out (below_drewN q7 (Below.refl _ _)))
          clear S6 HO6 e3
          go_wp2_with (fail)
          have hpre := own_prefix HO7.out (n := n') (by omega)
          rw [List.take_left' (by rw [bv_length]; exact hl200.out.symm)] at hpre
          refine (spoil2_any _ _ _ _ op.b _ hpre).mono ?_
          rintro e w8 ⟨rfl, hg8⟩
          have S := hide (S7.out.grown hg8 (fun j hj => by
            have hj : wr.heap.size + 1 = j := by simpa [Value.ownBlock] using hj
            exact ⟨by omega, by omega, by omega, by omega, hj ▸ hrg3.out, hj ▸ hrg6.out⟩))
          have HLL : Hid ((l ++ Pl.octB (op.b ++ op.b)).length ≤ 3200 * (i + 1)) := by
            have h2 := hll.out
            have h3 := hl200.out
            show _ ≤ _
            simp only [List.length_append, Pl.octB_length]
            omega
          generalize l ++ Pl.octB (op.b ++ op.b) = l2 at *
          have S := hide S.out
          clear hg8 hpre S7 HO7
          go_wp2_with (fail)
        rotate_left
        focus
          refine (bit_any op.n w.heap.size w.heap.size g1 l _ S0.out.wr (by have := hlm.out; omega) S0.out.below.size).mono ?_
          rintro e w2 ⟨rfl, g3, hw2, hu2, hm2⟩
          have S1 := hide (S0.out.step1 hw2 hu2 hm2)
          have e1 := S1.out.c1
          clear hw2 hu2 hm2 S0
          go_wp2_with (fail)
          refine (refBit_any op.n w.heap.size (w.heap.size + 1) g2 l _ S1.out.wf (by have := hlm.out; omega) S1.out.below.size).mono ?_
          rintro e w3 ⟨rfl, g4, hw3, hu3, hm3⟩
          have S := hide (S1.out.step2 hw3 hu3 hm3)
          have HLL : Hid ((l ++ [decide (op.n ≠ 0)]).length ≤ 3200 * (i + 1)) := by
            have h2 := hll.out
            show _ ≤ _
            rw [List.length_append, List.length_singleton]
            omega
          generalize l ++ [decide (op.n ≠ 0)] = l2 at *
          have S := hide S.out
          clear hw3 hu3 hm3 S1 e1
          go_wp2_with (fail)
        all_goals
          obtain ⟨hl2, hS2⟩ : Hid (l2.length ≤ 320000) ∧ True := ⟨by have := HLL.out; unfold Hid; omega, trivial⟩
          refine (wbytes_any _ _ _ l2 _ S.out.wr (by have := hl2.out; omega)).mono ?_
          rintro e w5 ⟨A5, n5, c5, rfl, hf5⟩
          have T5 := hide (S.out.more hf5.below)
          have hoff : Hid (∀ j, (Value.slice A5 n5 c5).ownBlock = some j → w.heap.size ≤ j ∧ j ≠ w.heap.size ∧ j ≠ w.heap.size + 1 ∧ j ≠ wr.heap.size ∧ _ ≠ some j ∧ _ ≠ some j) := fun j hj => by
            have h1 := (hf5.1.lt j hj).1
            have h2 := S.out.lt
            exact ⟨by omega, by omega, by omega, by omega, (fun e => by have := (S.out.wr.glt j e).2; omega), (fun e => by have := (S.out.wf.glt j e).2; omega)⟩
          have R5 := hide hf5.rd
          have O5 := hide hf5.1
          obtain ⟨LA, ln, lc, hc0, _, ho5, _⟩ := T5.out.wf
          have hlnl := RdB.length (Rd.of_own ho5)
          rw [b01_length] at hlnl
          subst hlnl
          have kL : Hid (∀ w', Below w5.heap.size w5 w' → Calls Try.prog 28 #[.pointer (some ⟨w.heap.size, 0, none⟩)] w' fun e w'' => e = .returned (.int .i64 (l2.length : Int)) ∧ w' = w'') := fun w' hb => wlen_any _ _ _ _ _ (T5.out.wr.below hb)
          have kY : Hid (∀ w', Below w5.heap.size w5 w' → Calls Try.prog 30 #[.pointer (some ⟨w.heap.size + 1, 0, none⟩)] w' fun e w'' => ∃ A n c, e = .returned (.slice A n c) ∧ Fresh w' w'' 5 A n c (bv (Pl.pack l2))) := fun w' hb => refBytes_any _ _ _ _ _ (T5.out.wf.below hb) (by have := hl2.out; omega)
          have kS : Hid (∀ w', Below w5.heap.size w5 w' → Rd w' A5 n5 c5 (bv (Pl.pack l2))) := fun w' hb => R5.out.below hb (Nat.le_refl _)
          have S1 := hide (show w5.drew.cell? ⟨w.heap.size + 1, 0, none⟩ = some (.slice LA l2.length lc) ∧ Below w5.heap.size w5 w5.drew from ⟨hc0, (Below.refl _ _).drew⟩)
          clear hc0 ho5 hf5
          go_wp2_with (fail)
          go_region_held3 (fun w' => w'.cell? ⟨w.heap.size + 1, 0, none⟩ = some (.slice LA l2.length lc) ∧ Below w5.heap.size w5 w')
            (first | with_reducible exact S1.out | with_reducible assumption | with_reducible exact keepW S1.out.1 ‹_› ‹_›)
            (first
              | (go_at_call 28; with_reducible refine (kL.out _ (And.right ‹_ ∧ Below w5.heap.size w5 _›)).mono ?_; rintro e w9 ⟨rfl, rfl⟩)
              | (go_at_call 30; with_reducible refine (kY.out _ (And.right ‹_ ∧ Below w5.heap.size w5 _›)).mono ?_; rintro e w9 ⟨A9, n9, c9, rfl, hf9⟩; have hr9 := hf9.rd; have hb9 := hf9.below; clear hf9)
              | (go_at_call 29; with_reducible refine (sameBytes_any _ _ _ _ _ _ _ _ _ (kS.out _ (And.right ‹_ ∧ Below w5.heap.size w5 _›)) ‹_›).mono ?_; rintro e w9 ⟨rfl, rfl⟩))
          all_goals
            have hb9 := And.right ‹_ ∧ Below w5.heap.size w5 _›
            have T9 := hide (T5.out.more hb9)
            have O9 := hide (own_below O5.out hb9)
            clear hb9
            go_wp2_with (fail)
            refine (spoil2_any _ _ _ _ _ _ O9.out).mono ?_
            rintro e w10 ⟨rfl, hg10⟩
            have T10 := hide (T9.out.grown hg10 hoff.out)
            clear hg10
            go_wp2
            go_roundw
            case rel => exact ⟨i + 1, _, _, l2, by omega, by omega, by go_num, T10.out.wr, T10.out.wf, T10.out.sep, T10.out.below, HLL.out⟩
            case measure => simp [intOf]; omega
      · have hlm : Hid (l.length ≤ 320000) := by have := hll.out; unfold Hid; omega
        go_wp2_with (fail)
        refine (wbytes_any _ _ _ l _ hw.out (by have := hlm.out; omega)).mono ?_
        rintro e w5 ⟨A5, n5, c5, rfl, hf5⟩
        have R5 := hide hf5.rd
        have V5 := hide (hv.out.below hf5.below)
        have B5 := hide (hb.out.trans (hf5.below.mono hb.out.size))
        clear hf5
        go_wp2_with (fail)
        refine (refBytes_any _ _ _ l _ V5.out (by have := hlm.out; omega)).mono ?_
        rintro e w6 ⟨A6, n6, c6, rfl, hf6⟩
        have B6 := hide (B5.out.trans (hf6.below.mono B5.out.size))
        have k9 := hide (sameBytes_any _ _ _ _ _ _ _ _ w6 (R5.out.below hf6.below (Nat.le_refl _)) hf6.rd)
        clear hf6
        go_wp2_with (fail)
        refine k9.out.mono ?_
        rintro e w7 ⟨rfl, rfl⟩
        go_wp2
        go_ret
        exact ⟨by simp, B6.out⟩
    · have hlm : Hid (l.length ≤ 320000) := by have := hll.out; unfold Hid; omega
      go_wp2_with (fail)
      refine (wbytes_any _ _ _ l _ hw.out (by have := hlm.out; omega)).mono ?_
      rintro e w5 ⟨A5, n5, c5, rfl, hf5⟩
      have R5 := hide hf5.rd
      have V5 := hide (hv.out.below hf5.below)
      have B5 := hide (hb.out.trans (hf5.below.mono hb.out.size))
      clear hf5
      go_wp2_with (fail)
      refine (refBytes_any _ _ _ l _ V5.out (by have := hlm.out; omega)).mono ?_
      rintro e w6 ⟨A6, n6, c6, rfl, hf6⟩
      have B6 := hide (B5.out.trans (hf6.below.mono B5.out.size))
      have k9 := hide (sameBytes_any _ _ _ _ _ _ _ _ w6 (R5.out.below hf6.below (Nat.le_refl _)) hf6.rd)
      clear hf6
      go_wp2_with (fail)
      refine k9.out.mono ?_
      rintro e w7 ⟨rfl, rfl⟩
      go_wp2
      go_ret
      exact ⟨by simp, B6.out⟩
end Go.Proofs.Ytikfogepdmpfaaa
