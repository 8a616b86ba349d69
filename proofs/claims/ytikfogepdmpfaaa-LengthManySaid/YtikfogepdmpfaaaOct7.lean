import Derived.Test.YtikfogepdmpfaaaOct6
import Derived.Test.YtikfogepdmpfaaaPlTake2
namespace Go.Proofs.Ytikfogepdmpfaaa
open Go.RowKit

/-- What is read of octets without a sign: the number, the fault. -/
def takeUV (l : List UInt8) : Int :=
  if l.length = 0 then 0 else if 8 < l.length then 0 else if Pl.be (Pl.dlenF 256 7 (Pl.val l)) (Pl.val l) = l then Pl.val l else 0
def takeUE (l : List UInt8) : Int :=
  if l.length = 0 then 3 else if 8 < l.length then 4 else if Pl.be (Pl.dlenF 256 7 (Pl.val l)) (Pl.val l) = l then 0 else 4

theorem own_at (l : List UInt8) (h : 0 < l.length) (h8 : l.length ≤ 8) : Pl.be (Pl.dlenF 256 7 (Pl.val l)) (Pl.val l) = l ↔ (l.length = 1 ∨ ¬ (l[0].toNat : Int) = 0) := by
  match l, h with
  | c :: t, _ =>
    rw [Pl.unsigned_own c t (by simpa using h8)]
    have e1 : t = [] ↔ (c :: t).length = 1 := by simp
    have e2 : c ≠ 0 ↔ ¬ (((c :: t)[0]).toNat : Int) = 0 := by
      simp only [List.getElem_cons_zero]
      constructor
      · intro h e
        exact h (UInt8.toNat_inj.1 (by simpa using e))
      · intro h e
        subst e
        exact h rfl
    rw [e1, e2]

theorem takeUnsigned_any (A : Option Addr) (n c : Nat) (l : List UInt8) (w : World) (h : Rd w A n c (bv l)) :
    Calls Try.prog 115 #[.slice A n c] w fun e w' => e = .returned (.tuple #[.int .u64 (takeUV l), .int .i64 (takeUE l)]) ∧ w = w' := by
  have hl := RdB.length h
  have hm := h.lenmax
  have H := hide h
  have HL := hide hl
  clear h hl
  by_cases h0 : n = 0
  · subst h0
    have e1 : takeUV l = 0 := by unfold takeUV; rw [if_pos (by have := HL.out; omega)]
    have e2 : takeUE l = 3 := by unfold takeUE; rw [if_pos (by have := HL.out; omega)]
    rw [e1, e2]
    clear e1 e2 hm
    go_enter Try.func115, Try.ntmps115
    go_wp2
    go_ret2
    exact ⟨rfl, rfl⟩
  · by_cases h8 : n ≤ 8
    · have hn1 : 1 ≤ n := by omega
      have k1 := hide (taken_any A n c l w H.out h8)
      have hiff := hide (own_at l (by have := HL.out; omega) (by have := HL.out; omega))
      obtain ⟨b, o, rfl, hb, hcell⟩ := RdB.at_ H.out (show 0 < l.length by have := HL.out; omega)
      have hc0 := (l[0]'(by have := HL.out; omega)).toNat_lt
      have hc1 : 0 ≤ ((l[0]'(by have := HL.out; omega)).toNat : Int) ∧ ((l[0]'(by have := HL.out; omega)).toNat : Int) < 256 := by omega
      rw [Nat.add_zero] at hcell
      clear hc0
      generalize ((l[0]'(by have := HL.out; omega)).toNat : Int) = cc at *
      clear h0
      have hcase : n = 1 ∨ (1 < n ∧ cc = 0) ∨ (1 < n ∧ 0 < cc) := by omega
      rcases hcase with hn | ⟨hn, hcc⟩ | ⟨hn, hcc⟩
      · have heq := hiff.out.2 (.inl (by have := HL.out; omega))
        have e1 : takeUV l = Pl.val l := by unfold takeUV; rw [if_neg (by have := HL.out; omega), if_neg (by have := HL.out; omega), if_pos heq]
        have e2 : takeUE l = 0 := by unfold takeUE; rw [if_neg (by have := HL.out; omega), if_neg (by have := HL.out; omega), if_pos heq]
        rw [e1, e2]
        clear e1 e2 heq hn1 h8 hm
        subst hn
        go_enter Try.func115, Try.ntmps115
        go_wp2_with (fail)
        refine k1.out.mono ?_
        rintro e w1 ⟨rfl, rfl⟩
        go_wp2
        go_ret2
        exact ⟨rfl, rfl⟩
      · have heq : ¬ _ := fun h => by
          have := hiff.out.1 h
          have := HL.out
          omega
        have e1 : takeUV l = 0 := by unfold takeUV; rw [if_neg (by have := HL.out; omega), if_neg (by have := HL.out; omega), if_neg heq]
        have e2 : takeUE l = 4 := by unfold takeUE; rw [if_neg (by have := HL.out; omega), if_neg (by have := HL.out; omega), if_neg heq]
        rw [e1, e2]
        clear e1 e2 heq k1 hiff
        subst hcc
        go_enter Try.func115, Try.ntmps115
        go_wp2
        go_ret2
        exact ⟨rfl, rfl⟩
      · have heq := hiff.out.2 (.inr (by omega))
        have e1 : takeUV l = Pl.val l := by unfold takeUV; rw [if_neg (by have := HL.out; omega), if_neg (by have := HL.out; omega), if_pos heq]
        have e2 : takeUE l = 0 := by unfold takeUE; rw [if_neg (by have := HL.out; omega), if_neg (by have := HL.out; omega), if_pos heq]
        rw [e1, e2]
        clear e1 e2 heq
        have hcb : (cc == 0) = false := by simp; omega
        go_enter Try.func115, Try.ntmps115
        go_wp2_with (fail)
        refine k1.out.mono ?_
        rintro e w1 ⟨rfl, rfl⟩
        go_wp2
        go_ret2
        exact ⟨rfl, rfl⟩
    · have e1 : takeUV l = 0 := by unfold takeUV; rw [if_neg (by have := HL.out; omega), if_pos (by have := HL.out; omega)]
      have e2 : takeUE l = 4 := by unfold takeUE; rw [if_neg (by have := HL.out; omega), if_pos (by have := HL.out; omega)]
      rw [e1, e2]
      clear e1 e2
      have h9 : 9 ≤ n := by omega
      clear h0 h8
      go_enter Try.func115, Try.ntmps115
      go_wp2
      go_ret2
      exact ⟨rfl, rfl⟩

theorem refTakeUnsigned_any (A : Option Addr) (n c : Nat) (l : List UInt8) (w : World) (h : Rd w A n c (bv l)) :
    Calls Try.prog 107 #[.slice A n c] w fun e w' => e = .returned (.tuple #[.int .u64 (takeUV l), .int .i64 (takeUE l)]) ∧ Below w.heap.size w w' := by
  have hl := RdB.length h
  have hm := h.lenmax
  have H := hide h
  have HL := hide hl
  clear h hl
  by_cases h0 : n = 0
  · subst h0
    have e1 : takeUV l = 0 := by unfold takeUV; rw [if_pos (by have := HL.out; omega)]
    have e2 : takeUE l = 3 := by unfold takeUE; rw [if_pos (by have := HL.out; omega)]
    rw [e1, e2]
    clear e1 e2 hm
    go_enter Try.func107, Try.ntmps107
    go_wp2
    go_ret2
    exact ⟨rfl, Below.refl _ _⟩
  · by_cases h8 : n ≤ 8
    · have hn1 : 1 ≤ n := by omega
      clear h0
      go_enter Try.func107, Try.ntmps107
      go_wp2
      go_loop [5, 4] (TkRel n l) (fun i _ => n - (intOf i).toNat)
      case atStart => exact ⟨0, 0, Nat.zero_le _, rfl, rfl, by omega, by simp [Hid, Pl.val]⟩
      case round =>
        obtain ⟨k, z, hk, rfl, rfl, hz0, hz⟩ := hrel
        by_cases hlt : k < n
        · have hkl : k < l.length := by have := HL.out; omega
          obtain ⟨b, o, rfl, hb, hcell⟩ := RdB.at_ H.out hkl
          have hz1 : z * 256 < 18446744073709551616 := by
            have h1 := Pl.val_lt (l.take k)
            have h2 := Pl.pow_le8 (show (l.take k).length + 1 ≤ 8 by simp; omega)
            rw [← hz.out] at h1
            rw [Int.pow_succ] at h2
            omega
          have hor := or_low8 z l[k] hz0 hz1
          have hnew := hide (Pl.val_take_succ l k hkl)
          have hc1 := l[k].toNat_lt
          have hc0 : 0 ≤ (l[k].toNat : Int) ∧ (l[k].toNat : Int) < 256 := by omega
          generalize (l[k].toNat : Int) = cc at *
          have hwr : IntKind.u64.wrap cc = cc := by rw [IntKind.wrap_u64]; omega
          go_wp2
          go_round
          case rel => exact ⟨k + 1, z * 256 + cc, by omega, by go_num, rfl, by omega, by rw [hnew.out, ← hz.out]; rfl⟩
          case measure => simp [intOf]; omega
        · have hkn : k = n := by omega
          have hzl : z = Pl.val l := by rw [hz.out, List.take_of_length_le (by have := HL.out; omega)]
          subst hzl
          clear hkn hz
          have hbd := Pl.val_lt l
          rw [← HL.out] at hbd
          have hp := Pl.pow_le8 h8
          have k2 := hide (fun w => refUnsigned_any (Pl.val l) hz0 (by omega) w)
          clear hbd hp
          go_wp2_with (fail)
          refine (k2.out _).mono ?_
          rintro e w1 ⟨A1, c1, rfl, hf⟩
          go_wp2_with (fail)
          refine (sameBytes_any _ _ _ _ _ _ _ _ _ hf.rd (H.out.below hf.below (Nat.le_refl _))).mono ?_
          rintro e w2 ⟨rfl, rfl⟩
          have hb := hf.below
          clear hf
          by_cases heq : Pl.be (Pl.dlenF 256 7 (Pl.val l)) (Pl.val l) = l
          · have e1 : takeUV l = Pl.val l := by unfold takeUV; rw [if_neg (by have := HL.out; omega), if_neg (by have := HL.out; omega), if_pos heq]
            have e2 : takeUE l = 0 := by unfold takeUE; rw [if_neg (by have := HL.out; omega), if_neg (by have := HL.out; omega), if_pos heq]
            have E := hide (And.intro e1 e2)
            clear e1 e2
            rw [decide_eq_true heq]
            clear heq
            go_wp2
            go_ret2
            rw [E.out.1, E.out.2]
            exact ⟨rfl, hb⟩
          · have e1 : takeUV l = 0 := by unfold takeUV; rw [if_neg (by have := HL.out; omega), if_neg (by have := HL.out; omega), if_neg heq]
            have e2 : takeUE l = 4 := by unfold takeUE; rw [if_neg (by have := HL.out; omega), if_neg (by have := HL.out; omega), if_neg heq]
            have E := hide (And.intro e1 e2)
            clear e1 e2
            rw [decide_eq_false heq]
            clear heq
            go_wp2
            go_ret2
            rw [E.out.1, E.out.2]
            exact ⟨rfl, hb⟩
    · have e1 : takeUV l = 0 := by unfold takeUV; rw [if_neg (by have := HL.out; omega), if_pos (by have := HL.out; omega)]
      have e2 : takeUE l = 4 := by unfold takeUE; rw [if_neg (by have := HL.out; omega), if_pos (by have := HL.out; omega)]
      rw [e1, e2]
      clear e1 e2
      have h9 : 9 ≤ n := by omega
      clear h0 h8
      go_enter Try.func107, Try.ntmps107
      go_wp2
      go_ret2
      exact ⟨rfl, Below.refl _ _⟩

end Go.Proofs.Ytikfogepdmpfaaa
