import Derived.Test.YtikfogepdmpfaaaWho11
import Derived.Test.YtikfogepdmpfaaaOpenOp2
import Derived.Test.YtikfogepdmpfaaaSpoil2
import Derived.Test.YtikfogepdmpfaaaKept
import Derived.Deep.RegionHeld3
namespace Go.Proofs.Ytikfogepdmpfaaa
open Go.RowKit
variable {D : Nat → Prop}

/-- The state inside a round: the two readers, the call's own struct in block q. -/
structure WRSt (w0 : World) (P q1 p2 q : Nat) (D1 D2 : Nat → Prop) (bs : List UInt8) (em : Bool) (op : Op2) (a1 : Nat) (e1 : Int) (a2 : Nat) (e2 : Int) (W : World) : Prop where
  r1 : Wd W P q1 D1 bs a1 e1 em
  r2 : Rr W p2 D2 bs a2 e2
  below : Below w0.heap.size w0 W
  c0 : W.cell? ⟨q, 0, none⟩ = some (.int .i64 op.kind)
  c1 : W.cell? ⟨q, 1, none⟩ = some (.int .i64 op.n)
  c3 : W.cell? ⟨q, 3, none⟩ = some (.int .u64 op.s)
  b1 : w0.heap.size ≤ q1
  o12 : P < p2
  o2q : p2 < q
  d2 : ∀ k, k ≤ P → ¬ D2 k

section
variable {w0 W W' : World} {P q1 p2 q : Nat} {D1 D2 : Nat → Prop} {bs : List UInt8} {em : Bool} {op : Op2} {a1 a2 a' : Nat} {e1 e2 e' : Int}
theorem WRSt.lt (h : WRSt w0 P q1 p2 q D1 D2 bs em op a1 e1 a2 e2 W) : q < W.heap.size := lt_cell h.c0
theorem WRSt.step1 (h : WRSt w0 P q1 p2 q D1 D2 bs em op a1 e1 a2 e2 W) (hr : Wd W' P q1 D1 bs a' e' em) (u : Upd P (some q1) W W') : WRSt w0 P q1 p2 q D1 D2 bs em op a' e' a2 e2 W' := by
  have hq := h.lt
  have o1 := h.o12
  have o2 := h.o2q
  have b1 := h.b1
  have hqp := h.r1.qp
  have hc : ∀ j, W'.cell? ⟨q, j, none⟩ = W.cell? ⟨q, j, none⟩ := fun j => u.cell (a := ⟨q, j, none⟩) hq (by simp only; omega) (by simp only [ne_eq, Option.some.injEq]; omega)
  have x1 : ∀ k, some q1 = some k → ¬ D2 k := by
    intro k e
    have e2 : q1 = k := by simpa using e
    exact h.d2 k (by omega)
  have x2 : ∀ k, some q1 = some k → w0.heap.size ≤ k := by
    intro k e
    have e2 : q1 = k := by simpa using e
    omega
  exact ⟨hr, h.r2.upd u (by omega) (by simp only [ne_eq, Option.some.injEq]; omega) (h.d2 P (Nat.le_refl _)) x1, h.below.trans (u.below (by omega) x2 h.below.size), (hc 0).trans h.c0, (hc 1).trans h.c1, (hc 3).trans h.c3, b1, o1, o2, h.d2⟩
theorem WRSt.step2 (h : WRSt w0 P q1 p2 q D1 D2 bs em op a1 e1 a2 e2 W) (hr : Rr W' p2 D2 bs a' e') (u : Upd p2 none W W') : WRSt w0 P q1 p2 q D1 D2 bs em op a1 e1 a' e' W' := by
  have hq := h.lt
  have o1 := h.o12
  have o2 := h.o2q
  have b1 := h.b1
  have hqp := h.r1.qp
  have hc : ∀ j, W'.cell? ⟨q, j, none⟩ = W.cell? ⟨q, j, none⟩ := fun j => u.cell (a := ⟨q, j, none⟩) hq (by simp only; omega) (by simp)
  exact ⟨h.r1.upd u (by omega) (by simp) (by omega) (by simp) (h.r1.dnew (by omega)) (fun _ e => by cases e), hr, h.below.trans (u.below (by omega) (fun _ e => by cases e) h.below.size), (hc 0).trans h.c0, (hc 1).trans h.c1, (hc 3).trans h.c3, b1, o1, o2, h.d2⟩
theorem WRSt.more (h : WRSt w0 P q1 p2 q D1 D2 bs em op a1 e1 a2 e2 W) (b : Below W.heap.size W W') : WRSt w0 P q1 p2 q D1 D2 bs em op a1 e1 a2 e2 W' := by
  have hq := h.lt
  have hc : ∀ j, W'.cell? ⟨q, j, none⟩ = W.cell? ⟨q, j, none⟩ := fun j => b.cell hq
  exact ⟨h.r1.below b, h.r2.below b, h.below.trans (b.mono h.below.size), (hc 0).trans h.c0, (hc 1).trans h.c1, (hc 3).trans h.c3, h.b1, h.o12, h.o2q, h.d2⟩
theorem WRSt.grown {r : Option Nat} (h : WRSt w0 P q1 p2 q D1 D2 bs em op a1 e1 a2 e2 W) (k : W.grownBy W' r) (hr : ∀ j, r = some j → q < j) : WRSt w0 P q1 p2 q D1 D2 bs em op a1 e1 a2 e2 W' := by
  have hq := h.lt
  have o1 := h.o12
  have o2 := h.o2q
  have b1 := h.b1
  have hqp := h.r1.qp
  have hc : ∀ j, W'.cell? ⟨q, j, none⟩ = W.cell? ⟨q, j, none⟩ := fun j => World.cell?_of_block (a := ⟨q, j, none⟩) (k.block q hq (fun e => by have := hr q e.symm; omega))
  exact ⟨h.r1.grown k (fun e => by have := hr P e.symm; omega) (fun e => by have := hr q1 e.symm; omega) (fun j e => h.r1.dnew (by have := hr j e; omega)), h.r2.grown k (fun e => by have := hr p2 e.symm; omega) (fun j e => h.r2.dnew (by have := hr j e; omega)), grown_below h.below k (fun j e => by have := hr j e; omega) h.below.size, (hc 0).trans h.c0, (hc 1).trans h.c1, (hc 3).trans h.c3, b1, o1, o2, h.d2⟩
end

def WRRel (P q1 p2 : Nat) (D1 D2 : Nat → Prop) (bs : List UInt8) (em : Bool) (ops : List Op2) (w0 : World) (ii : Value) (wr : World) : Prop :=
  ∃ (i a : Nat) (e : Int), i ≤ ops.length ∧ i ≤ 200 ∧ ii = .int .i64 (i : Int) ∧ Hid (Wd wr P q1 D1 bs a e em) ∧ Hid (Rr wr p2 D2 bs a e) ∧ Hid (Below w0.heap.size w0 wr)

set_option maxRecDepth 100000 in
set_option maxHeartbeats 1600000 in
theorem wholeReads_walk (A1 : Option Addr) (n1 c1 : Nat) (bs : List UInt8) (A : Option Addr) (n c : Nat) (ops : List Op2) (w : World) (h1 : Rd w A1 n1 c1 (bv bs)) (h : RdO2 w A n c ops) :
    Calls Try.prog 13 #[.slice A1 n1 c1, .slice A n c] w fun e w' => e = .returned (.bool true) ∧ Below w.heap.size w w' := by
  have hln := hide h.1
  have hcap := h.2.1
  have hmx := h.2.2.1
  have hm1 := h1.lenmax
  unfold maxLen at hmx
  have HO := hide h
  have H1 := hide h1
  have hl1 := hide (RdB.length h1)
  clear h h1
  by_cases hbig : n1 ≤ 2000
  · go_enter Try.func13, Try.ntmps13
    go_wp2_with (fail)
    refine (ownByte_any A1 n1 c1 bs 71 w H1.out (by omega)).mono ?_
    rintro e w1 ⟨rfl, ho1, hb1⟩
    have hin : Rd w1 (some ⟨w.heap.size, 0, none⟩) n1 (n1 + 3) (bv bs) := by
      have := Rd.of_full ho1 (n := n1) (by omega)
      rwa [List.take_left' (by rw [bv_length]; exact hl1.out.symm)] at this
    have O1 := hide ho1
    have B1 := hide hb1
    have I1 := hide hin
    have hsz1 := hide (show w.heap.size < w1.heap.size from (ho1.lt _ rfl).2)
    clear ho1 hb1 hin
    go_wp2_with (fail)
    refine (wdNew_any _ _ _ _ _ I1.out (by omega)).mono ?_
    rintro e w2 ⟨P, q1, rfl, hr2, hb2, hp2⟩
    have O2 := hide (own_below O1.out hb2)
    have B2 := hide (B1.out.trans (hb2.mono B1.out.size))
    have P2 := hide hr2
    have HP := hide (And.intro hp2 hr2.lt)
    have A2 := hide (H1.out.below (B1.out.trans (hb2.mono B1.out.size)) (Nat.le_refl _))
    clear hr2 hb2 hp2 O1 I1
    go_wp2_with (fail)
    refine (rvNew_any _ _ _ _ _ A2.out (by omega)).mono ?_
    rintro e w3 ⟨p2, rfl, hr3, hb3, hp3⟩
    have F3 := hide hr3
    have P3 := hide (P2.out.below hb3)
    have O3 := hide (own_below O2.out hb3)
    have B3 := hide (B2.out.trans (hb3.mono B2.out.size))
    have HQ := hide hp3
    clear hr3 hb3 hp3 P2 O2 B2 A2
    go_wp2_with (fail)
    refine (awake17_any _).mono ?_
    rintro e w4 ⟨rfl, hb4⟩
    have F4 := hide (F3.out.below hb4)
    have P4 := hide (P3.out.below hb4)
    have O4 := hide (own_below O3.out hb4)
    have B4 := hide (B3.out.trans (hb4.mono B3.out.size))
    have A4 := hide (H1.out.below B4.out (Nat.le_refl _))
    clear hb4 F3 P3 O3 B3 B1
    go_wp2_with (fail)
    refine (keptByte_any _ n1 _ _ _ bs 71 _ (Rd.of_own O4.out) A4.out).mono ?_
    rintro e w5 ⟨rfl, q5, rfl⟩
    have F5 := hide (F4.out.drewN q5)
    have P5 := hide (P4.out.drewN q5)
    have O5 := hide (own_below O4.out (below_drewN q5 (Below.refl _ _)))
    have B5 := hide (below_drewN q5 B4.out)
    clear F4 P4 O4 B4 A4
    go_wp2_with (fail)
    refine (wdEnd_any P q1 bs 0 0 _ _ P5.out).mono ?_
    rintro e w6 ⟨rfl, hb6⟩
    have F6 := hide (F5.out.below hb6)
    have P6 := hide (P5.out.below hb6)
    have O6 := hide (own_below O5.out hb6)
    have B6 := hide (B5.out.trans (hb6.mono B5.out.size))
    clear hb6 F5 P5 O5 B5
    go_wp2_with (fail)
    refine (rvEnd_any p2 bs 0 0 _ F6.out).mono ?_
    rintro e w7 ⟨rfl, hb7⟩
    have F7 := hide (F6.out.below hb7)
    have P7 := hide (P6.out.below hb7)
    have O7 := hide (own_below O6.out hb7)
    have B7 := hide (B6.out.trans (hb7.mono B6.out.size))
    clear hb7 F6 P6 O6 B6
    generalize weE bs 0 0 (decide (bs = [0])) = Z at *
    go_wp2_with (fail)
    have hpre := own_prefix O7.out (n := n1) (by omega)
    rw [List.take_left' (by rw [bv_length]; exact hl1.out.symm)] at hpre
    refine (spoil2_any _ _ _ _ bs _ hpre).mono ?_
    rintro e w8 ⟨rfl, hg8⟩
    have hrow : ∀ j, (Value.slice (some ⟨w.heap.size, 0, none⟩) n1 (n1 + 3)).ownBlock = some j → w.heap.size = j := fun j hj => by simpa [Value.ownBlock] using hj
    have F8 := hide (F7.out.grown hg8 (fun e => by have := hrow _ e.symm; have := HQ.out; have := HP.out; have := hsz1.out; have := P7.out.qp; omega) (fun j e (hd : w2.heap.size ≤ j ∧ j < p2) => by have := hrow j e; have := HP.out; have := hsz1.out; have := P7.out.qp; omega))
    have P8 := hide (P7.out.grown hg8 (fun e => by have := hrow _ e.symm; have := HP.out; have := hsz1.out; have := P7.out.qp; omega) (fun e => by have := hrow _ e.symm; have := HP.out; have := hsz1.out; omega) (fun j e (hd : w1.heap.size ≤ j ∧ j < q1) => by have := hrow j e; have := hsz1.out; omega))
    have B8 := hide (grown_below B7.out hg8 (fun j e => by have := hrow j e; omega) B7.out.size)
    clear hg8 hpre hrow F7 P7 O7 B7
    go_wp2_with (fail)
    have hD2 : Hid (∀ k, k ≤ P → ¬ (fun b => w2.heap.size ≤ b ∧ b < p2) k) := fun k hk (hd : w2.heap.size ≤ k ∧ k < p2) => by have := HP.out; omega
    have hP12 : Hid (P < p2 ∧ w.heap.size ≤ q1) := ⟨by have := HP.out; have := HQ.out; omega, by have := HP.out; have := hsz1.out; omega⟩
    generalize (fun b => w1.heap.size ≤ b ∧ b < q1) = D1 at *
    generalize (fun b => w2.heap.size ≤ b ∧ b < p2) = D2 at *
    obtain ⟨em, hem⟩ : ∃ em, decide (bs = [0]) = em := ⟨_, rfl⟩
    rw [hem] at P8
    have HEM := hide hem
    clear hem
    clear HP HQ hsz1
    go_loopw [8] (WRRel P q1 p2 D1 D2 bs em ops w) (fun i _ => n - (intOf i).toNat)
    case atStart => exact ⟨0, 0, 0, Nat.zero_le _, by omega, rfl, P8.out, F8.out, B8.out⟩
    case round =>
      obtain ⟨i, a, e, hi, hi2, rfl, hr1, hr2, hb⟩ := hrel
      by_cases hlt : i < n
      · by_cases h200 : i < 60
        · have hil : i < ops.length := by have := hln.out; omega
          obtain ⟨b, o, A', n', c', rfl, d0, d1, d2, d3, d4, hrd, hk1, hk2, hk3, hk4⟩ := HO.out.2.2.2 i ops[i] (List.getElem?_eq_getElem hil)
          generalize ops[i] = op at *
          have c0 := (hb.out.cell (lt_cell d0)).trans d0
          have c1 := (hb.out.cell (lt_cell d1)).trans d1
          have c2 := (hb.out.cell (lt_cell d2)).trans d2
          have c3 := (hb.out.cell (lt_cell d3)).trans d3
          have c4 := (hb.out.cell (lt_cell d4)).trans d4
          have hi0 : (0 : Int) ≤ (i : Int) := by omega
          have hi1 : (i : Int) < (n : Int) := by omega
          have S0 : Hid (WRSt w P q1 p2 wr.heap.size D1 D2 bs em op a e a e (wr.alloc (.cells #[.int .i64 op.kind, .int .i64 op.n, .int .u64 op.v, .int .u64 op.s, .slice A' n' c'] 58))) :=
            ⟨hr1.out.below ((Below.refl _ _).alloc (Nat.le_refl _) _), hr2.out.below ((Below.refl _ _).alloc (Nat.le_refl _) _), hb.out.alloc hb.out.size _, cell_new rfl rfl, cell_new rfl rfl, cell_new rfl rfl, hP12.out.2, hP12.out.1, hr2.out.lt, hD2.out⟩
          clear hrd d0 d1 d2 d3 d4
          go_wp2_with (fail)
          focus
            refine (wdOcts_any P q1 bs a e op.n em _ S0.out.r1 hk2.2).mono ?_
            rintro en w8 ⟨A8, n8, c8, rfl, hr8, hu8, ho8⟩
            have S8 := hide (S0.out.step1 hr8 hu8)
            have O8 := hide ho8
            have x1 := S8.out.c1
            have hq8 := hide (show wr.heap.size < (wr.alloc (.cells #[.int .i64 op.kind, .int .i64 op.n, .int .u64 op.v, .int .u64 op.s, .slice A' n' c'] 58)).heap.size by simp)
            clear hr8 hu8 ho8
            go_wp2_with (fail)
            refine (rvOcts_any p2 bs a e op.n _ S8.out.r2 hk2.2).mono ?_
            rintro en w7 ⟨A7, n7, c7, rfl, hr7, hu7, ho7⟩
            have S7 := hide (S8.out.step2 hr7 hu7)
            have O7 := hide (own_upd O8.out hu7 (fun j hj => ⟨by have := (O8.out.lt j hj).1; have := hq8.out; have := S8.out.o2q; omega, by simp⟩))
            have k7 := hide (sameBytes_any _ _ _ _ _ _ _ _ w7 (Rd.of_own O7.out) (Rd.of_own ho7))
            have hoff := hide (fun j hj => Nat.lt_of_lt_of_le hq8.out (O7.out.lt j hj).1)
            clear hr7 hu7 ho7 x1
            go_wp2_with (fail)
            refine k7.out.mono ?_
            rintro en w6' ⟨rfl, rfl⟩
            simp only [decide_true]
            go_wp2_with (fail)
            refine (spoil2_any _ _ _ _ _ _ O7.out).mono ?_
            rintro en w9 ⟨rfl, hg9⟩
            obtain ⟨a', e', T⟩ : ∃ a' e', Hid (WRSt w P q1 p2 wr.heap.size D1 D2 bs em op a' e' a' e' w9) := ⟨_, _, S7.out.grown hg9 hoff.out⟩
            clear hg9 S7 S8 S0 O7 O8 k7 hoff
            go_wp2_with (fail)
          rotate_left
          focus
            have kI := hide (fun W h => wdBetween_any (D := D1) P q1 bs a e op.s em W h hk4.1 hk4.2)
            have kR := hide (fun W h => rvBetween_any (D := D2) p2 bs a e op.s W h hk4.1 hk4.2)
            generalize btA bs a e op.s = a' at *
            generalize btEE bs a e op.s = e' at *
            generalize btV bs a e op.s = v' at *
            generalize wr.alloc (.cells #[.int .i64 op.kind, .int .i64 op.n, .int .u64 op.v, .int .u64 op.s, .slice A' n' c'] 58) = W0 at *
            have Sd := hide (S0.out.more (Below.refl W0.heap.size W0).drew)
            have S1 := hide (show W0.drew.cell? ⟨wr.heap.size, 3, none⟩ = some (.int .u64 op.s) from Sd.out.c3)
            go_region_held3 (fun w' => w'.cell? ⟨wr.heap.size, 3, none⟩ = some (.int .u64 op.s))
              (first | with_reducible exact S1.out | with_reducible exact WRSt.c3 ‹WRSt w P q1 p2 wr.heap.size D1 D2 bs em op a' e' a' e' _› | with_reducible exact WRSt.c3 ‹WRSt w P q1 p2 wr.heap.size D1 D2 bs em op a' e' a e _›)
              (first
                | (go_at_call 73; (with_reducible refine (kI.out _ Sd.out.r1).mono ?_); rintro en w9 ⟨rfl, hr9, hu9⟩; have T9 := Sd.out.step1 hr9 hu9; clear hr9 hu9)
                | (go_at_call 74; (with_reducible refine (kR.out _ (WRSt.r2 ‹WRSt w P q1 p2 wr.heap.size D1 D2 bs em op a' e' a e _›)).mono ?_); rintro en w9 ⟨rfl, hr9, hu9⟩; have T10 := WRSt.step2 ‹WRSt w P q1 p2 wr.heap.size D1 D2 bs em op a' e' a e _› hr9 hu9; clear hr9 hu9))
            have T := hide ‹WRSt w P q1 p2 wr.heap.size D1 D2 bs em op a' e' a' e' _›
            clear T9 T10 S1 Sd S0
            go_wp2_with (fail)
          rotate_left
          focus
            refine (wdSmall_any P q1 bs a e em _ S0.out.r1).mono ?_
            rintro en w8 ⟨rfl, hr8, hu8⟩
            have S8 := hide (S0.out.step1 hr8 hu8)
            clear hr8 hu8
            go_wp2_with (fail)
            refine (rvSmall_any p2 bs a e _ S8.out.r2).mono ?_
            rintro en w9 ⟨rfl, hr9, hu9⟩
            obtain ⟨a', e', T⟩ : ∃ a' e', Hid (WRSt w P q1 p2 wr.heap.size D1 D2 bs em op a' e' a' e' w9) := ⟨_, _, S8.out.step2 hr9 hu9⟩
            clear hr9 hu9 S8 S0
            go_wp2_with (fail)
          rotate_left
          focus
            refine (wdFail_any P q1 bs a e _ em _ S0.out.r1).mono ?_
            rintro en w8 ⟨rfl, hr8, hu8⟩
            have S8 := hide (S0.out.step1 hr8 hu8)
            have x1 := S8.out.c1
            clear hr8 hu8
            go_wp2_with (fail)
            refine (rvFail_any p2 bs a e _ _ S8.out.r2).mono ?_
            rintro en w9 ⟨rfl, hr9, hu9⟩
            obtain ⟨a', e', T⟩ : ∃ a' e', Hid (WRSt w P q1 p2 wr.heap.size D1 D2 bs em op a' e' a' e' w9) := ⟨_, _, S8.out.step2 hr9 hu9⟩
            clear hr9 hu9 S8 S0 x1
            go_wp2_with (fail)
          rotate_left
          focus
            have kI := hide (fun W h => wdBits_any (D := D1) P q1 bs a e op.n em W h)
            have kR := hide (fun W h => rvBits_any (D := D2) p2 bs a e op.n W h)
            generalize Pl.rdA bs a e (cl64 op.n) = a' at *
            generalize Pl.rdE bs a e (cl64 op.n : Nat) = e' at *
            generalize Pl.rdV bs a e (cl64 op.n) = v' at *
            generalize wr.alloc (.cells #[.int .i64 op.kind, .int .i64 op.n, .int .u64 op.v, .int .u64 op.s, .slice A' n' c'] 58) = W0 at *
            have Sd := hide (S0.out.more (Below.refl W0.heap.size W0).drew)
            have S1 := hide (show W0.drew.cell? ⟨wr.heap.size, 1, none⟩ = some (.int .i64 op.n) from Sd.out.c1)
            go_region_held3 (fun w' => w'.cell? ⟨wr.heap.size, 1, none⟩ = some (.int .i64 op.n))
              (first | with_reducible exact S1.out | with_reducible exact WRSt.c1 ‹WRSt w P q1 p2 wr.heap.size D1 D2 bs em op a' e' a' e' _› | with_reducible exact WRSt.c1 ‹WRSt w P q1 p2 wr.heap.size D1 D2 bs em op a' e' a e _›)
              (first
                | (go_at_call 66; (with_reducible refine (kI.out _ Sd.out.r1).mono ?_); rintro en w9 ⟨rfl, hr9, hu9⟩; have T9 := Sd.out.step1 hr9 hu9; clear hr9 hu9)
                | (go_at_call 79; (with_reducible refine (kR.out _ (WRSt.r2 ‹WRSt w P q1 p2 wr.heap.size D1 D2 bs em op a' e' a e _›)).mono ?_); rintro en w9 ⟨rfl, hr9, hu9⟩; have T10 := WRSt.step2 ‹WRSt w P q1 p2 wr.heap.size D1 D2 bs em op a' e' a e _› hr9 hu9; clear hr9 hu9))
            have T := hide ‹WRSt w P q1 p2 wr.heap.size D1 D2 bs em op a' e' a' e' _›
            clear T9 T10 S1 Sd S0
            go_wp2_with (fail)
          all_goals
            have kL1 : Hid (∀ w', Below w9.heap.size w9 w' → Calls Try.prog 80 #[.pointer (some ⟨P, 0, none⟩)] w' fun e w'' => e = .returned (.int .i64 (Pl.left bs a')) ∧ Below w'.heap.size w' w'') := fun w' hb => (wdLeft_any P q1 bs a' e' em w' (T.out.r1.below hb)).mono fun e w'' ⟨h1, q, h2⟩ => ⟨h1, h2 ▸ below_drewN q (Below.refl _ _)⟩
            have kL2 : Hid (∀ w', Below w9.heap.size w9 w' → Calls Try.prog 81 #[.pointer (some ⟨p2, 0, none⟩)] w' fun e w'' => e = .returned (.int .i64 (Pl.left bs a')) ∧ Below w'.heap.size w' w'') := fun w' hb => (rvLeft_any p2 bs a' w' (T.out.r2.below hb).1).mono fun e w'' ⟨h1, q, h2⟩ => ⟨h1, h2 ▸ below_drewN q (Below.refl _ _)⟩
            have kE1 : Hid (∀ w', Below w9.heap.size w9 w' → Calls Try.prog 82 #[.pointer (some ⟨P, 0, none⟩)] w' fun e w'' => e = .returned (.int .i64 e') ∧ w' = w'') := fun w' hb => wdErr_any P q1 bs a' e' em w' (T.out.r1.below hb)
            have kN1 : Hid (∀ w', Below w9.heap.size w9 w' → Calls Try.prog 68 #[.pointer (some ⟨P, 0, none⟩)] w' fun e w'' => e = .returned (.int .i64 (weE bs a' e' em)) ∧ Below w'.heap.size w' w'') := fun w' hb => wdEnd_any P q1 bs a' e' em w' (T.out.r1.below hb)
            have kN2 : Hid (∀ w', Below w9.heap.size w9 w' → Calls Try.prog 70 #[.pointer (some ⟨p2, 0, none⟩)] w' fun e w'' => e = .returned (.int .i64 (weE bs a' e' em)) ∧ Below w'.heap.size w' w'') := fun w' hb => by
              have := rvEnd_any p2 bs a' e' w' (T.out.r2.below hb)
              rwa [HEM.out] at this
            have S1 := hide (show w9.drew.cell? ⟨p2, 2, none⟩ = some (.int .i64 e') ∧ Below w9.heap.size w9 w9.drew from ⟨T.out.r2.2.1, (Below.refl _ _).drew⟩)
            generalize Pl.left bs a' = L at *
            generalize weE bs a' e' em = E at *
            go_region_held3 (fun w' => w'.cell? ⟨p2, 2, none⟩ = some (.int .i64 e') ∧ Below w9.heap.size w9 w')
              (first | with_reducible exact S1.out | with_reducible assumption)
              (first
                | (go_at_call 80; (with_reducible refine (kL1.out _ (And.right ‹_ ∧ Below w9.heap.size w9 _›)).mono ?_); rintro en w5 ⟨rfl, hb5⟩; have hd := keepW S1.out.1 ‹_ ∧ Below w9.heap.size w9 _› hb5; clear hb5)
                | (go_at_call 81; (with_reducible refine (kL2.out _ (And.right ‹_ ∧ Below w9.heap.size w9 _›)).mono ?_); rintro en w5 ⟨rfl, hb5⟩; have hd := keepW S1.out.1 ‹_ ∧ Below w9.heap.size w9 _› hb5; clear hb5)
                | (go_at_call 82; (with_reducible refine (kE1.out _ (And.right ‹_ ∧ Below w9.heap.size w9 _›)).mono ?_); rintro en w5 ⟨rfl, rfl⟩)
                | (go_at_call 68; (with_reducible refine (kN1.out _ (And.right ‹_ ∧ Below w9.heap.size w9 _›)).mono ?_); rintro en w5 ⟨rfl, hb5⟩; have hd := keepW S1.out.1 ‹_ ∧ Below w9.heap.size w9 _› hb5; clear hb5)
                | (go_at_call 70; (with_reducible refine (kN2.out _ (And.right ‹_ ∧ Below w9.heap.size w9 _›)).mono ?_); rintro en w5 ⟨rfl, hb5⟩; have hd := keepW S1.out.1 ‹_ ∧ Below w9.heap.size w9 _› hb5; clear hb5))
            all_goals
              have hb9 := And.right ‹_ ∧ Below w9.heap.size w9 _›
              have T9 := hide (T.out.more hb9)
              clear hb9
              go_wp2
              go_roundw
              case rel => exact ⟨i + 1, a', e', by omega, by omega, by go_num, T9.out.r1, T9.out.r2, T9.out.below⟩
              case measure => simp [intOf]; omega
        · go_wp2
          go_ret
          exact ⟨rfl, hb.out⟩
      · go_wp2
        go_ret
        exact ⟨rfl, hb.out⟩
  · go_enter Try.func13, Try.ntmps13
    go_wp2_with (fail)
    refine (awake17_any _).mono ?_
    rintro e w1 ⟨rfl, hb1⟩
    go_wp2
    go_ret
    exact ⟨rfl, hb1⟩
end Go.Proofs.Ytikfogepdmpfaaa
