import Derived.Test.YthflgoigbgnkoaaOct5
import Derived.Test.YthflgoigbgnkoaaOct2
namespace Go.Proofs.Ythflgoigbgnkoaa
open Go.RowKit

/-- What is read of octets with a sign: the number, the fault. -/
def takeSV (l : List UInt8) : Int :=
  if l.length = 0 then 0 else if 8 < l.length then 0 else if Pl.be (Pl.slenF 7 (Pl.sval l)) (Pl.sval l) = l then Pl.sval l else 0
def takeSE (l : List UInt8) : Int :=
  if l.length = 0 then 3 else if 8 < l.length then 4 else if Pl.be (Pl.slenF 7 (Pl.sval l)) (Pl.sval l) = l then 0 else 4

theorem sext_all (l : List UInt8) (n : Nat) (hn : n = l.length) (h1 : 1 ≤ n) (h8 : n ≤ 8) : wrap64 (wrap64 (Pl.val l) * 2 ^ (64 - 8 * n)) / 2 ^ (64 - 8 * n) = Pl.sval l := by
  have hb := Pl.val_bd l
  have h2 := Pl.val_lt l
  have h3 := Pl.val_nonneg l
  unfold Pl.sval
  rw [← hn] at *
  generalize Pl.val l = v at *
  have hc : n = 1 ∨ n = 2 ∨ n = 3 ∨ n = 4 ∨ n = 5 ∨ n = 6 ∨ n = 7 ∨ n = 8 := by omega
  clear hn h1 h8
  rcases hc with rfl | rfl | rfl | rfl | rfl | rfl | rfl | rfl
  all_goals
    simp only [Nat.reduceMul, Nat.reduceSub, Int.reducePow] at *
    unfold wrap64
    cases hneg : Pl.neg l
    · have := hb.2 hneg
      simp only [Bool.false_eq_true, if_false]
      omega
    · have := hb.1 hneg
      simp only [if_true]
      omega
theorem sext8 (l : List UInt8) (hn : 8 = l.length) : wrap64 (Pl.val l) = Pl.sval l := by
  have h := sext_all l 8 hn (by omega) (by omega)
  simp at h
  have e : wrap64 (wrap64 (Pl.val l)) = wrap64 (Pl.val l) := by unfold wrap64; omega
  rw [e] at h
  exact h

theorem takeSigned_any (A : Option Addr) (n c : Nat) (l : List UInt8) (w : World) (h : Rd w A n c (bv l)) :
    Calls Try.prog 43 #[.slice A n c] w fun e w' => e = .returned (.tuple #[.int .i64 (takeSV l), .int .i64 (takeSE l)]) ∧ Below w.heap.size w w' := by
  have hl := RdB.length h
  have hm := h.lenmax
  have H := hide h
  have HL := hide hl
  clear h hl
  by_cases h0 : n = 0
  · subst h0
    have e1 : takeSV l = 0 := by unfold takeSV; rw [if_pos (by have := HL.out; omega)]
    have e2 : takeSE l = 3 := by unfold takeSE; rw [if_pos (by have := HL.out; omega)]
    rw [e1, e2]
    clear e1 e2 hm
    go_enter Try.func43, Try.ntmps43
    go_wp2
    go_ret2
    exact ⟨rfl, Below.refl _ _⟩
  · by_cases h8 : n ≤ 8
    · have hbd := Pl.sval_bd l
      rw [← HL.out] at hbd
      have hp := Pl.pow_le8 h8
      have k1 := hide (taken_any A n c l w H.out h8)
      have k2 := hide (fun w => signed_any (Pl.sval l) w)
      clear hbd hp
      rcases (show n < 8 ∨ n = 8 by omega) with h7 | rfl
      · have hs1 := hide (sext_all l n HL.out (by omega) h8)
        go_enter Try.func43, Try.ntmps43
        go_wp2_with (fail)
        refine k1.out.mono ?_
        rintro e w1 ⟨rfl, rfl⟩
        go_wp2_with (fail)
        simp only [hs1.out]
        refine (k2.out _).mono ?_
        rintro e w1 ⟨A1, c1, rfl, hf⟩
        go_wp2_with (fail)
        refine (bytesEqual_any _ _ _ _ _ _ _ _ _ hf.rd (H.out.below hf.below (Nat.le_refl _))).mono ?_
        rintro e w2 ⟨rfl, rfl⟩
        have hb := hf.below
        clear hf
        by_cases heq : Pl.be (Pl.slenF 7 (Pl.sval l)) (Pl.sval l) = l
        · have e1 : takeSV l = Pl.sval l := by unfold takeSV; rw [if_neg (by have := HL.out; omega), if_neg (by have := HL.out; omega), if_pos heq]
          have e2 : takeSE l = 0 := by unfold takeSE; rw [if_neg (by have := HL.out; omega), if_neg (by have := HL.out; omega), if_pos heq]
          have E := hide (And.intro e1 e2)
          clear e1 e2
          rw [decide_eq_true heq]
          clear heq
          go_wp2
          go_ret2
          rw [E.out.1, E.out.2]
          exact ⟨rfl, hb⟩
        · have e1 : takeSV l = 0 := by unfold takeSV; rw [if_neg (by have := HL.out; omega), if_neg (by have := HL.out; omega), if_neg heq]
          have e2 : takeSE l = 4 := by unfold takeSE; rw [if_neg (by have := HL.out; omega), if_neg (by have := HL.out; omega), if_neg heq]
          have E := hide (And.intro e1 e2)
          clear e1 e2
          rw [decide_eq_false heq]
          clear heq
          go_wp2
          go_ret2
          rw [E.out.1, E.out.2]
          exact ⟨rfl, hb⟩
      · have hs1 := hide (sext8 l HL.out)
        go_enter Try.func43, Try.ntmps43
        go_wp2_with (fail)
        refine k1.out.mono ?_
        rintro e w1 ⟨rfl, rfl⟩
        go_wp2_with (fail)
        simp only [hs1.out]
        refine (k2.out _).mono ?_
        rintro e w1 ⟨A1, c1, rfl, hf⟩
        go_wp2_with (fail)
        refine (bytesEqual_any _ _ _ _ _ _ _ _ _ hf.rd (H.out.below hf.below (Nat.le_refl _))).mono ?_
        rintro e w2 ⟨rfl, rfl⟩
        have hb := hf.below
        clear hf
        by_cases heq : Pl.be (Pl.slenF 7 (Pl.sval l)) (Pl.sval l) = l
        · have e1 : takeSV l = Pl.sval l := by unfold takeSV; rw [if_neg (by have := HL.out; omega), if_neg (by have := HL.out; omega), if_pos heq]
          have e2 : takeSE l = 0 := by unfold takeSE; rw [if_neg (by have := HL.out; omega), if_neg (by have := HL.out; omega), if_pos heq]
          have E := hide (And.intro e1 e2)
          clear e1 e2
          rw [decide_eq_true heq]
          clear heq
          go_wp2
          go_ret2
          rw [E.out.1, E.out.2]
          exact ⟨rfl, hb⟩
        · have e1 : takeSV l = 0 := by unfold takeSV; rw [if_neg (by have := HL.out; omega), if_neg (by have := HL.out; omega), if_neg heq]
          have e2 : takeSE l = 4 := by unfold takeSE; rw [if_neg (by have := HL.out; omega), if_neg (by have := HL.out; omega), if_neg heq]
          have E := hide (And.intro e1 e2)
          clear e1 e2
          rw [decide_eq_false heq]
          clear heq
          go_wp2
          go_ret2
          rw [E.out.1, E.out.2]
          exact ⟨rfl, hb⟩
    · have e1 : takeSV l = 0 := by unfold takeSV; rw [if_neg (by have := HL.out; omega), if_pos (by have := HL.out; omega)]
      have e2 : takeSE l = 4 := by unfold takeSE; rw [if_neg (by have := HL.out; omega), if_pos (by have := HL.out; omega)]
      rw [e1, e2]
      clear e1 e2
      have h9 : 9 ≤ n := by omega
      clear h0 h8
      go_enter Try.func43, Try.ntmps43
      go_wp2
      go_ret2
      exact ⟨rfl, Below.refl _ _⟩

theorem or_low8_i64 (z c : Int) (h0 : 0 ≤ c) (h1 : c < 256) (h2 : -9223372036854775808 ≤ z * 256) (h3 : z * 256 + 255 ≤ 9223372036854775807) : bits BinOp.or IntKind.i64 (z * 256) c = z * 256 + c := by
  show IntKind.i64.wrap ((BitVec.ofInt 64 (z * 256) ||| BitVec.ofInt 64 c).toNat : Int) = _
  rw [BitVec.toNat_or, BitVec.toNat_ofInt, BitVec.toNat_ofInt]
  have e1 : (z * 256 % (2 ^ 64 : Nat)).toNat = 2 ^ 8 * (z % 72057594037927936).toNat := by omega
  have e2 : (c % (2 ^ 64 : Nat)).toNat = c.toNat := by omega
  rw [e1, e2, ← Nat.two_pow_add_eq_or_of_lt (by omega), IntKind.wrap_i64]
  omega

theorem sval_one (l : List UInt8) (h : 0 < l.length) : wrap64 (IntKind.i8.wrap (l[0].toNat : Int)) = Pl.sval (l.take 1) := by
  match l, h with
  | c :: l, _ =>
    have hc := c.toNat_lt
    simp only [List.getElem_cons_zero, List.take_succ_cons, List.take_zero]
    have e1 : Pl.val [c] = (c.toNat : Int) := by simp [Pl.val]
    have e2 : Pl.neg [c] = decide (128 ≤ c.toNat) := rfl
    unfold Pl.sval
    rw [e1, e2]
    have e3 : IntKind.i8.wrap (c.toNat : Int) = ((c.toNat : Int) + 128) % 256 - 128 := by simp [IntKind.wrap, IntKind.bits, IntKind.signed]; omega
    rw [e3]
    unfold wrap64
    by_cases h : 128 ≤ c.toNat
    · rw [if_pos (decide_eq_true h)]
      simp
      omega
    · rw [if_neg (by simpa using h)]
      omega

def RtsRel (n : Nat) (l : List UInt8) (i v : Value) : Prop :=
  ∃ (k : Nat) (z : Int), 1 ≤ k ∧ k ≤ n ∧ i = .int .i64 (k : Int) ∧ v = .int .i64 z ∧ Hid (z = Pl.sval (l.take k))

theorem refTakeSigned_any (A : Option Addr) (n c : Nat) (l : List UInt8) (w : World) (h : Rd w A n c (bv l)) :
    Calls Try.prog 44 #[.slice A n c] w fun e w' => e = .returned (.tuple #[.int .i64 (takeSV l), .int .i64 (takeSE l)]) ∧ Below w.heap.size w w' := by
  have hl := RdB.length h
  have hm := h.lenmax
  have H := hide h
  have HL := hide hl
  clear h hl
  by_cases h0 : n = 0
  · subst h0
    have e1 : takeSV l = 0 := by unfold takeSV; rw [if_pos (by have := HL.out; omega)]
    have e2 : takeSE l = 3 := by unfold takeSE; rw [if_pos (by have := HL.out; omega)]
    rw [e1, e2]
    clear e1 e2 hm
    go_enter Try.func44, Try.ntmps44
    go_wp2
    go_ret2
    exact ⟨rfl, Below.refl _ _⟩
  · by_cases h8 : n ≤ 8
    · have hn1 : 1 ≤ n := by omega
      obtain ⟨b, o, rfl, hb, hcell⟩ := RdB.at_ H.out (show 0 < l.length by have := HL.out; omega)
      have hc0 := l[0].toNat_lt
      have hc1 : 0 ≤ (l[0]'(by have := HL.out; omega)).toNat ∧ (l[0]'(by have := HL.out; omega)).toNat < 256 := by omega
      rw [Nat.add_zero] at hcell
      generalize hcc : ((l[0]'(by have := HL.out; omega)).toNat : Int) = cc at *
      have HC := hide hcc
      clear hcc h0
      go_enter Try.func44, Try.ntmps44
      have HB := hide hb
      clear hb
      have hx0 := hide (Pl.sval_bd (l.take 1))
      go_wp2
      go_loop [5, 4] (RtsRel n l) (fun i _ => n - (intOf i).toNat)
      case atStart =>
        exact ⟨1, _, Nat.le_refl _, hn1, rfl, rfl, by rw [← HC.out]; exact (sval_one l (by have := HL.out; omega))⟩
      case round =>
        obtain ⟨k, z, hk1, hk, rfl, rfl, hz⟩ := hrel
        by_cases hlt : k < n
        · have hkl : k < l.length := by have := HL.out; omega
          obtain ⟨b', o', hbo, hb', hcell'⟩ := RdB.at_ H.out hkl
          cases hbo
          have hzb : -9223372036854775808 ≤ z * 256 ∧ z * 256 + 255 ≤ 9223372036854775807 := by
            have h1 := Pl.sval_bd (l.take k)
            have h2 := Pl.pow_le8 (show (l.take k).length + 1 ≤ 8 by simp; omega)
            rw [← hz.out] at h1
            rw [Int.pow_succ] at h2
            omega
          have hd1 := l[k].toNat_lt
          have hd0 : 0 ≤ (l[k].toNat : Int) ∧ (l[k].toNat : Int) < 256 := by omega
          have hnew := hide (show Pl.sval (l.take (k + 1)) = z * 256 + (l[k].toNat : Int) by
            rw [List.take_succ_eq_append_getElem hkl, Pl.sval_snoc _ _ (by intro e; have := congrArg List.length e; rw [List.length_take] at this; simp only [List.length_nil] at this; omega), hz.out])
          have hor := or_low8_i64 z (l[k].toNat : Int) hd0.1 hd0.2 hzb.1 hzb.2
          clear hd1
          generalize (l[k].toNat : Int) = cd at *
          go_wp2
          go_round
          case rel => exact ⟨k + 1, z * 256 + cd, by omega, by omega, by go_num, rfl, by rw [hnew.out]; rfl⟩
          case measure => simp [intOf]; omega
        · have hkn : k = n := by omega
          have hzl : z = Pl.sval l := by rw [hz.out, List.take_of_length_le (by have := HL.out; omega)]
          subst hzl
          clear hkn hz
          have hbd := Pl.sval_bd l
          rw [← HL.out] at hbd
          have hp := Pl.pow_le8 h8
          have k2 := hide (fun w => refSigned_any (Pl.sval l) (by omega) (by omega) w)
          clear hbd hp
          go_wp2_with (fail)
          refine (k2.out _).mono ?_
          rintro e w1 ⟨A1, c1, rfl, hf⟩
          go_wp2_with (fail)
          refine (sameBytes_any _ _ _ _ _ _ _ _ _ hf.rd (H.out.below hf.below (Nat.le_refl _))).mono ?_
          rintro e w2 ⟨rfl, rfl⟩
          have hb := hf.below
          clear hf
          by_cases heq : Pl.be (Pl.slenF 7 (Pl.sval l)) (Pl.sval l) = l
          · have e1 : takeSV l = Pl.sval l := by unfold takeSV; rw [if_neg (by have := HL.out; omega), if_neg (by have := HL.out; omega), if_pos heq]
            have e2 : takeSE l = 0 := by unfold takeSE; rw [if_neg (by have := HL.out; omega), if_neg (by have := HL.out; omega), if_pos heq]
            have E := hide (And.intro e1 e2)
            clear e1 e2
            rw [decide_eq_true heq]
            clear heq
            go_wp2
            go_ret2
            rw [E.out.1, E.out.2]
            exact ⟨rfl, hb⟩
          · have e1 : takeSV l = 0 := by unfold takeSV; rw [if_neg (by have := HL.out; omega), if_neg (by have := HL.out; omega), if_neg heq]
            have e2 : takeSE l = 4 := by unfold takeSE; rw [if_neg (by have := HL.out; omega), if_neg (by have := HL.out; omega), if_neg heq]
            have E := hide (And.intro e1 e2)
            clear e1 e2
            rw [decide_eq_false heq]
            clear heq
            go_wp2
            go_ret2
            rw [E.out.1, E.out.2]
            exact ⟨rfl, hb⟩
    · have e1 : takeSV l = 0 := by unfold takeSV; rw [if_neg (by have := HL.out; omega), if_pos (by have := HL.out; omega)]
      have e2 : takeSE l = 4 := by unfold takeSE; rw [if_neg (by have := HL.out; omega), if_pos (by have := HL.out; omega)]
      rw [e1, e2]
      clear e1 e2
      have h9 : 9 ≤ n := by omega
      clear h0 h8
      go_enter Try.func44, Try.ntmps44
      go_wp2
      go_ret2
      exact ⟨rfl, Below.refl _ _⟩

end Go.Proofs.Ythflgoigbgnkoaa
