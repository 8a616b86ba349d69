import Derived.Test.YtnbjkkhjphjdkaaHeadAny
import Derived.Laws.Bits128
namespace Go.Proofs.Ytnbjkkhjphjdkaa
open Go.RowKit

theorem i64_and3 (n : Int) : bits .and .i64 n 3 = n % 4 := by
  have h3 : (BitVec.ofInt 64 3).toNat = 2 ^ 2 - 1 := by decide
  have key : (BitVec.ofInt 64 n &&& BitVec.ofInt 64 3).toNat = (n % ((2 ^ 64 : Nat) : Int)).toNat % 2 ^ 2 := by
    rw [BitVec.toNat_and, BitVec.toNat_ofInt, h3, Nat.and_two_pow_sub_one_eq_mod]
  show IntKind.i64.wrap ((BitVec.ofInt 64 n &&& BitVec.ofInt 64 3).toNat : Nat) = n % 4
  rw [key, IntKind.wrap_i64]
  omega

/-- A row of the call's own that is made later than another one stays where that one grows. -/
theorem own_later {w w' : World} {B1 n : Nat} {e : TypeId} {v u : Value} {xs : List Value} (h : w.ownsRow B1 e 1 v n xs) (hu : ∀ k, u.ownBlock = some k → k < B1) (hg : w.grownBy w' u.ownBlock) : w'.ownsRow B1 e 1 v n xs := by
  refine h.kept hg ?_
  cases hv : v.ownBlock with
  | none => exact .inl rfl
  | some k =>
    right
    intro he
    have h1 := (h.lt k hv).1
    have h2 := hu k he.symm
    omega

set_option maxHeartbeats 1600000 in
theorem refHeadA (cl no len : Int) (made : Bool) (w : World) (n1 : no ≤ 9223372036854775807) (l1 : len ≤ 9223372036854775807) (gn : no < 31) (gl : len < 128) :
    Calls Try.prog 13 #[.agg #[.int .i64 cl, .int .i64 no], .bool made, .int .i64 len] w fun e w' => ∃ A c, e = .returned (.slice A (2) c) ∧ Fresh w w' 5 A (2) c (bv ([Pl.by8 (up3 cl made + max no 0)] ++ [Pl.by8 (max len 0)])) := by
  obtain ⟨i0, hi, hz0, hz1, hz2⟩ := info_parts Try.info_byte
  have hc := i64_and3 cl
  have hc0 : 0 ≤ cl % 4 ∧ cl % 4 < 4 := by omega
  have ho := or64_32 cl
  have hF : ∃ F, up3 cl made = F ∧ ((made = false ∧ F = cl % 4 * 64) ∨ (made = true ∧ F = cl % 4 * 64 + 32)) := ⟨_, rfl, by unfold up3; cases made <;> simp⟩
  obtain ⟨F, hF, hF2⟩ := hF
  rw [hF]
  clear hF
  have hF3 : 0 ≤ F ∧ F < 256 ∧ F % 32 = 0 := by omega
  generalize cl % 4 = c4 at *
  have hN : ∃ N, max no 0 = N ∧ ((no ≤ 0 ∧ N = 0) ∨ (0 < no ∧ N = no)) := ⟨_, rfl, by omega⟩
  obtain ⟨N, hN, hN2⟩ := hN
  rw [hN]
  clear hN
  obtain ⟨X, hoA, hX⟩ : ∃ X, bits BinOp.or IntKind.u8 F N = X ∧ X = F + N := ⟨_, rfl, or32 F N hF3.1 hF3.2.1 hF3.2.2 (by omega) (by omega)⟩
  rw [← hX]
  have hX2 : 0 ≤ X ∧ X < 256 := by omega
  have hb1 := bv_by8 X hX2.1 hX2.2
  have hO1 : Hid (∀ (w : World) (o : Obj) (t : TypeId), Rd ((w.alloc o).alloc (.cells #[.int .u8 X] t)) (some ⟨w.heap.size + 1, 0, none⟩) 1 1 (bv [Pl.by8 X])) := fun w o t => by rw [hb1]; exact Rd.second' w _ t o
  clear hX
  have hL : ∃ L, max len 0 = L ∧ ((len ≤ 0 ∧ L = 0) ∨ (0 < len ∧ L = len)) := ⟨_, rfl, by omega⟩
  obtain ⟨L, hL, hL2⟩ := hL
  rw [hL]
  clear hL
  have hL3 : 0 ≤ L ∧ L < 128 := by omega
  have hb2 := bv_by8 L (by omega) (by omega)
  rw [bv_append, hb1, hb2]
  rcases hF2 with ⟨rfl, rfl⟩ | ⟨rfl, rfl⟩ <;> rcases hN2 with ⟨g1, rfl⟩ | ⟨g1, rfl⟩ <;> rcases hL2 with ⟨g3, rfl⟩ | ⟨g3, rfl⟩
  all_goals
    go_enter Try.func13, Try.ntmps13
    go_wp2_with (at_builtin; refine wpList_app _ rfl (.tmp 41) (.tmp 44) _ rfl w.heap.size 5 i0 (.int .u8 0) 1 Try.underlying26 hi hz0 hz1 hz2 rfl _ _ _ rfl (own_below (own_second (Nat.le_refl _)) ((Below.refl _ _).alloc (Nat.le_refl _) _)) _ _ _ _ rfl (Rd.third _ _ _ _ _) (one_int _ _) ?_ (by omega) ?_ ?_)
    · omega
    · simp
      omega
    · intro A1 c1 w1 hown hg hl
      have hb := ((((Below.refl w.heap.size w).alloc (Nat.le_refl _) _).alloc (by simp) _).alloc (by simp; omega) _).grown hg (by simp; omega) (fun j hj => by simp [Value.ownBlock] at hj; omega)
      have HO := hide hown
      clear hown hg hl
      go_wp2
      go_ret
      exact ⟨A1, c1, rfl, HO.out, hb⟩
set_option maxHeartbeats 1600000 in
theorem refHeadB (cl no len : Int) (made : Bool) (w : World) (n1 : no ≤ 9223372036854775807) (l1 : len ≤ 9223372036854775807) (gn : no < 31) (gl : 128 ≤ len) :
    Calls Try.prog 13 #[.agg #[.int .i64 cl, .int .i64 no], .bool made, .int .i64 len] w fun e w' => ∃ A c, e = .returned (.slice A (1 + (1 + Pl.dlenF 256 7 len)) c) ∧ Fresh w w' 5 A (1 + (1 + Pl.dlenF 256 7 len)) c (bv ([Pl.by8 (up3 cl made + max no 0)] ++ ([Pl.by8 (128 + (Pl.dlenF 256 7 len : Int))] ++ Pl.be (Pl.dlenF 256 7 len) len))) := by
  obtain ⟨i0, hi, hz0, hz1, hz2⟩ := info_parts Try.info_byte
  have hc := i64_and3 cl
  have hc0 : 0 ≤ cl % 4 ∧ cl % 4 < 4 := by omega
  have ho := or64_32 cl
  have hF : ∃ F, up3 cl made = F ∧ ((made = false ∧ F = cl % 4 * 64) ∨ (made = true ∧ F = cl % 4 * 64 + 32)) := ⟨_, rfl, by unfold up3; cases made <;> simp⟩
  obtain ⟨F, hF, hF2⟩ := hF
  rw [hF]
  clear hF
  have hF3 : 0 ≤ F ∧ F < 256 ∧ F % 32 = 0 := by omega
  generalize cl % 4 = c4 at *
  have hN : ∃ N, max no 0 = N ∧ ((no ≤ 0 ∧ N = 0) ∨ (0 < no ∧ N = no)) := ⟨_, rfl, by omega⟩
  obtain ⟨N, hN, hN2⟩ := hN
  rw [hN]
  clear hN
  obtain ⟨X, hoA, hX⟩ : ∃ X, bits BinOp.or IntKind.u8 F N = X ∧ X = F + N := ⟨_, rfl, or32 F N hF3.1 hF3.2.1 hF3.2.2 (by omega) (by omega)⟩
  rw [← hX]
  have hX2 : 0 ≤ X ∧ X < 256 := by omega
  have hb1 := bv_by8 X hX2.1 hX2.2
  have hO1 : Hid (∀ (w : World) (o : Obj) (t : TypeId), Rd ((w.alloc o).alloc (.cells #[.int .u8 X] t)) (some ⟨w.heap.size + 1, 0, none⟩) 1 1 (bv [Pl.by8 X])) := fun w o t => by rw [hb1]; exact Rd.second' w _ t o
  clear hX
  have k0 : 0 ≤ len := by omega
  have kU := hide (fun w => refUnsigned_any len k0 (by omega) w)
  have hu := Pl.dlenF_bd 256 7 len
  have hul := hide (Pl.be_length (Pl.dlenF 256 7 len) len)
  generalize Pl.dlenF 256 7 len = s2 at *
  generalize Pl.be s2 len = x2 at *
  have or2 := or128l (s2 : Int) (by omega) (by omega)
  have hb3 := bv_by8 (128 + (s2 : Int)) (by omega) (by omega)
  have hO3 : Hid (∀ (w : World) (t : TypeId), Rd (w.alloc (.cells #[.int .u8 (128 + (s2 : Int))] t)) (some ⟨w.heap.size, 0, none⟩) 1 1 (bv [Pl.by8 (128 + (s2 : Int))])) := fun w t => by rw [hb3]; exact Rd.one w _ t
  rw [bv_append, bv_append, hb1, hb3]
  rcases hF2 with ⟨rfl, rfl⟩ | ⟨rfl, rfl⟩ <;> rcases hN2 with ⟨g1, rfl⟩ | ⟨g1, rfl⟩
  all_goals
    go_enter Try.func13, Try.ntmps13
    go_wp2_with (fail)
    refine (kU.out _).mono ?_
    rintro e w3 ⟨A3, c3, rfl, hf⟩
    have ho3 := own_below (own_second (Nat.le_refl _)) hf.below
    have hb3w := below_call2 hf.below
    have hlt3 : ∀ k, (Value.slice (some ⟨w.heap.size + 1, 0, none⟩) 1 1).ownBlock = some k → k < w.heap.size + 1 + 1 := fun k hk => by simp [Value.ownBlock] at hk; omega
    have hx3 := own_base hf.1 (show w.heap.size + 1 + 1 ≤ _ by simp)
    clear hf
    go_wp2_with (at_builtin; refine wpList_app _ rfl (.tmp 49) (.tmp 54) _ rfl w.heap.size 5 i0 (.int .u8 0) 1 Try.underlying26 hi hz0 hz1 hz2 rfl _ _ _ rfl (own_below ho3 ((Below.refl _ _).alloc (Nat.le_refl _) _)) _ _ _ _ rfl (Rd.one _ _ _) (one_int _ _) ?_ (by omega) ?_ ?_)
    · omega
    · have := hb3w.size
      simp
      omega
    · intro A4 c4' w4 hown4 hg4 hl4
      have hx4 := own_later (own_below hx3 ((Below.refl _ _).alloc (Nat.le_refl _) _)) hlt3 hg4
      have hb4 := (hb3w.alloc hb3w.size _).grown hg4 (by have := hb3w.size; simp; omega) (fun j hj => (ho3.lt j hj).1)
      have HO4 := hide hown4
      clear hown4 hg4 hl4 hx3 ho3
      go_wp2_with (at_builtin; refine wpList_app _ rfl (.tmp 56) (.tmp 57) _ rfl w.heap.size 5 i0 (.int .u8 0) 1 Try.underlying26 hi hz0 hz1 hz2 rfl _ _ _ rfl HO4.out _ _ _ _ rfl (Rd.of_own hx4) (bv_one _) ?_ (by omega) ?_ ?_)
      · omega
      · exact hb4.size
      · intro A5 c5 w5 hown5 hg5 hl5
        have hb5 := hb4.grown hg5 hb4.size (fun j hj => (HO4.out.lt j hj).1)
        have HO5 := hide hown5
        clear hown5 hg5 hl5 hx4 HO4
        go_wp2
        go_ret
        rw [show 1 + (1 + s2) = 2 + s2 by omega]
        exact ⟨A5, c5, rfl, by simpa using HO5.out, hb5⟩
set_option maxHeartbeats 1600000 in
theorem refHeadC (cl no len : Int) (made : Bool) (w : World) (n1 : no ≤ 9223372036854775807) (l1 : len ≤ 9223372036854775807) (gn : 31 ≤ no) (gl : len < 128) :
    Calls Try.prog 13 #[.agg #[.int .i64 cl, .int .i64 no], .bool made, .int .i64 len] w fun e w' => ∃ A c, e = .returned (.slice A (1 + Pl.dlenF 128 9 no + 1) c) ∧ Fresh w w' 5 A (1 + Pl.dlenF 128 9 no + 1) c (bv (([Pl.by8 (up3 cl made + 31)] ++ Pl.gr (Pl.dlenF 128 9 no) no) ++ [Pl.by8 (max len 0)])) := by
  obtain ⟨i0, hi, hz0, hz1, hz2⟩ := info_parts Try.info_byte
  have hc := i64_and3 cl
  have hc0 : 0 ≤ cl % 4 ∧ cl % 4 < 4 := by omega
  have ho := or64_32 cl
  have hF : ∃ F, up3 cl made = F ∧ ((made = false ∧ F = cl % 4 * 64) ∨ (made = true ∧ F = cl % 4 * 64 + 32)) := ⟨_, rfl, by unfold up3; cases made <;> simp⟩
  obtain ⟨F, hF, hF2⟩ := hF
  rw [hF]
  clear hF
  have hF3 : 0 ≤ F ∧ F < 256 ∧ F % 32 = 0 := by omega
  generalize cl % 4 = c4 at *
  obtain ⟨X, hoA, hX⟩ : ∃ X, bits BinOp.or IntKind.u8 F 31 = X ∧ X = F + 31 := ⟨_, rfl, or32 F 31 hF3.1 hF3.2.1 hF3.2.2 (by omega) (by omega)⟩
  rw [← hX]
  have hX2 : 0 ≤ X ∧ X < 256 := by omega
  have hb1 := bv_by8 X hX2.1 hX2.2
  have hO1 : Hid (∀ (w : World) (o : Obj) (t : TypeId), Rd ((w.alloc o).alloc (.cells #[.int .u8 X] t)) (some ⟨w.heap.size + 1, 0, none⟩) 1 1 (bv [Pl.by8 X])) := fun w o t => by rw [hb1]; exact Rd.second' w _ t o
  have n0 : 0 ≤ no := by omega
  have kG := hide (fun w => refGroups_any no n0 (by omega) w)
  have hg := Pl.dlenF_bd 128 9 no
  have hgl := hide (Pl.gr_length (Pl.dlenF 128 9 no) no)
  generalize Pl.dlenF 128 9 no = s3 at *
  generalize Pl.gr s3 no = x3 at *
  clear hX
  have hL : ∃ L, max len 0 = L ∧ ((len ≤ 0 ∧ L = 0) ∨ (0 < len ∧ L = len)) := ⟨_, rfl, by omega⟩
  obtain ⟨L, hL, hL2⟩ := hL
  rw [hL]
  clear hL
  have hL3 : 0 ≤ L ∧ L < 128 := by omega
  have hb2 := bv_by8 L (by omega) (by omega)
  rw [bv_append, bv_append, hb1, hb2]
  rcases hF2 with ⟨rfl, rfl⟩ | ⟨rfl, rfl⟩ <;> rcases hL2 with ⟨g3, rfl⟩ | ⟨g3, rfl⟩
  all_goals
    go_enter Try.func13, Try.ntmps13
    go_wp2_with (fail)
    refine (kG.out _).mono ?_
    rintro e w1 ⟨A1, c1, rfl, hf⟩
    have hrd := hf.rd
    have hb1w := below_call2 hf.below
    have ho1 := own_below (own_second (w := w) (u := .int .u8 X) (t := 5) (Nat.le_refl _)) hf.below
    clear hf
    go_wp2_with (at_builtin; refine wpList_app _ rfl (.tmp 32) (.tmp 35) _ rfl w.heap.size 5 i0 (.int .u8 0) 1 Try.underlying26 hi hz0 hz1 hz2 rfl _ _ _ rfl ho1 _ _ _ _ rfl hrd (bv_one _) ?_ (by omega) ?_ ?_)
    · omega
    · exact hb1w.size
    intro A2 c2 w2 hown2 hg2 hl2
    have hb2w := hb1w.grown hg2 hb1w.size (fun j hj => (ho1.lt j hj).1)
    have HO2 := hide hown2
    clear hown2 hg2 hl2 hrd ho1
    go_wp2_with (at_builtin; refine wpList_app _ rfl (.tmp 41) (.tmp 44) _ rfl w.heap.size 5 i0 (.int .u8 0) 1 Try.underlying26 hi hz0 hz1 hz2 rfl _ _ _ rfl (own_below HO2.out ((Below.refl _ _).alloc (Nat.le_refl _) _)) _ _ _ _ rfl (Rd.one _ _ _) (one_int _ _) ?_ (by omega) ?_ ?_)
    · omega
    · have := hb2w.size
      simp
      omega
    · intro A3 c3 w3 hown hg hl
      have hb := (hb2w.alloc hb2w.size _).grown hg (by have := hb2w.size; simp; omega) (fun j hj => (HO2.out.lt j hj).1)
      have HO := hide hown
      clear hown hg hl HO2
      go_wp2
      go_ret
      exact ⟨A3, c3, rfl, HO.out, hb⟩
set_option maxHeartbeats 1600000 in
theorem refHeadD (cl no len : Int) (made : Bool) (w : World) (n1 : no ≤ 9223372036854775807) (l1 : len ≤ 9223372036854775807) (gn : 31 ≤ no) (gl : 128 ≤ len) :
    Calls Try.prog 13 #[.agg #[.int .i64 cl, .int .i64 no], .bool made, .int .i64 len] w fun e w' => ∃ A c, e = .returned (.slice A (1 + Pl.dlenF 128 9 no + (1 + Pl.dlenF 256 7 len)) c) ∧ Fresh w w' 5 A (1 + Pl.dlenF 128 9 no + (1 + Pl.dlenF 256 7 len)) c (bv (([Pl.by8 (up3 cl made + 31)] ++ Pl.gr (Pl.dlenF 128 9 no) no) ++ ([Pl.by8 (128 + (Pl.dlenF 256 7 len : Int))] ++ Pl.be (Pl.dlenF 256 7 len) len))) := by
  obtain ⟨i0, hi, hz0, hz1, hz2⟩ := info_parts Try.info_byte
  have hc := i64_and3 cl
  have hc0 : 0 ≤ cl % 4 ∧ cl % 4 < 4 := by omega
  have ho := or64_32 cl
  have hF : ∃ F, up3 cl made = F ∧ ((made = false ∧ F = cl % 4 * 64) ∨ (made = true ∧ F = cl % 4 * 64 + 32)) := ⟨_, rfl, by unfold up3; cases made <;> simp⟩
  obtain ⟨F, hF, hF2⟩ := hF
  rw [hF]
  clear hF
  have hF3 : 0 ≤ F ∧ F < 256 ∧ F % 32 = 0 := by omega
  generalize cl % 4 = c4 at *
  obtain ⟨X, hoA, hX⟩ : ∃ X, bits BinOp.or IntKind.u8 F 31 = X ∧ X = F + 31 := ⟨_, rfl, or32 F 31 hF3.1 hF3.2.1 hF3.2.2 (by omega) (by omega)⟩
  rw [← hX]
  have hX2 : 0 ≤ X ∧ X < 256 := by omega
  have hb1 := bv_by8 X hX2.1 hX2.2
  have hO1 : Hid (∀ (w : World) (o : Obj) (t : TypeId), Rd ((w.alloc o).alloc (.cells #[.int .u8 X] t)) (some ⟨w.heap.size + 1, 0, none⟩) 1 1 (bv [Pl.by8 X])) := fun w o t => by rw [hb1]; exact Rd.second' w _ t o
  have n0 : 0 ≤ no := by omega
  have kG := hide (fun w => refGroups_any no n0 (by omega) w)
  have hg := Pl.dlenF_bd 128 9 no
  have hgl := hide (Pl.gr_length (Pl.dlenF 128 9 no) no)
  generalize Pl.dlenF 128 9 no = s3 at *
  generalize Pl.gr s3 no = x3 at *
  clear hX
  have k0 : 0 ≤ len := by omega
  have kU := hide (fun w => refUnsigned_any len k0 (by omega) w)
  have hu := Pl.dlenF_bd 256 7 len
  have hul := hide (Pl.be_length (Pl.dlenF 256 7 len) len)
  generalize Pl.dlenF 256 7 len = s2 at *
  generalize Pl.be s2 len = x2 at *
  have or2 := or128l (s2 : Int) (by omega) (by omega)
  have hb3 := bv_by8 (128 + (s2 : Int)) (by omega) (by omega)
  have hO3 : Hid (∀ (w : World) (t : TypeId), Rd (w.alloc (.cells #[.int .u8 (128 + (s2 : Int))] t)) (some ⟨w.heap.size, 0, none⟩) 1 1 (bv [Pl.by8 (128 + (s2 : Int))])) := fun w t => by rw [hb3]; exact Rd.one w _ t
  rw [bv_append, bv_append, bv_append, hb1, hb3]
  rcases hF2 with ⟨rfl, rfl⟩ | ⟨rfl, rfl⟩
  all_goals
    go_enter Try.func13, Try.ntmps13
    go_wp2_with (fail)
    refine (kG.out _).mono ?_
    rintro e w1 ⟨A1, c1, rfl, hf⟩
    have hrd := hf.rd
    have hb1w := below_call2 hf.below
    have ho1 := own_below (own_second (w := w) (u := .int .u8 X) (t := 5) (Nat.le_refl _)) hf.below
    clear hf
    go_wp2_with (at_builtin; refine wpList_app _ rfl (.tmp 32) (.tmp 35) _ rfl w.heap.size 5 i0 (.int .u8 0) 1 Try.underlying26 hi hz0 hz1 hz2 rfl _ _ _ rfl ho1 _ _ _ _ rfl hrd (bv_one _) ?_ (by omega) ?_ ?_)
    · omega
    · exact hb1w.size
    intro A2 c2 w2 hown2 hg2 hl2
    have hb2w := hb1w.grown hg2 hb1w.size (fun j hj => (ho1.lt j hj).1)
    have HO2 := hide hown2
    clear hown2 hg2 hl2 hrd ho1
    go_wp2_with (fail)
    refine (kU.out _).mono ?_
    rintro e w3 ⟨A3, c3, rfl, hf⟩
    have ho3 := own_below HO2.out hf.below
    have hb3w := below_next hb2w hf.below
    have hlt3 := fun k hk => (HO2.out.lt k hk).2
    have hx3 := hf.1
    clear hf
    go_wp2_with (at_builtin; refine wpList_app _ rfl (.tmp 49) (.tmp 54) _ rfl w.heap.size 5 i0 (.int .u8 0) 1 Try.underlying26 hi hz0 hz1 hz2 rfl _ _ _ rfl (own_below ho3 ((Below.refl _ _).alloc (Nat.le_refl _) _)) _ _ _ _ rfl (Rd.one _ _ _) (one_int _ _) ?_ (by omega) ?_ ?_)
    · omega
    · have := hb3w.size
      simp
      omega
    · intro A4 c4' w4 hown4 hg4 hl4
      have hx4 := own_later (own_below hx3 ((Below.refl _ _).alloc (Nat.le_refl _) _)) hlt3 hg4
      have hb4 := (hb3w.alloc hb3w.size _).grown hg4 (by have := hb3w.size; simp; omega) (fun j hj => (ho3.lt j hj).1)
      have HO4 := hide hown4
      clear hown4 hg4 hl4 hx3 ho3
      go_wp2_with (at_builtin; refine wpList_app _ rfl (.tmp 56) (.tmp 57) _ rfl w.heap.size 5 i0 (.int .u8 0) 1 Try.underlying26 hi hz0 hz1 hz2 rfl _ _ _ rfl HO4.out _ _ _ _ rfl (Rd.of_own hx4) (bv_one _) ?_ (by omega) ?_ ?_)
      · omega
      · exact hb4.size
      · intro A5 c5 w5 hown5 hg5 hl5
        have hb5 := hb4.grown hg5 hb4.size (fun j hj => (HO4.out.lt j hj).1)
        have HO5 := hide hown5
        clear hown5 hg5 hl5 hx4 HO4
        go_wp2
        go_ret
        rw [show 1 + s3 + (1 + s2) = 1 + s3 + 1 + s2 by omega]
        exact ⟨A5, c5, rfl, by simpa using HO5.out, hb5⟩

theorem refHead_any (cl no len : Int) (made : Bool) (w : World) (n1 : no ≤ 9223372036854775807) (l1 : len ≤ 9223372036854775807) :
    Calls Try.prog 13 #[.agg #[.int .i64 cl, .int .i64 no], .bool made, .int .i64 len] w fun e w' => ∃ A c, e = .returned (.slice A (headL cl no made len).length c) ∧ Fresh w w' 5 A (headL cl no made len).length c (bv (headL cl no made len)) :=
  head_join _ _ cl no len made w _ _ (refHeadA cl no len made w n1 l1) (refHeadB cl no len made w n1 l1) (refHeadC cl no len made w n1 l1) (refHeadD cl no len made w n1 l1)

end Go.Proofs.Ytnbjkkhjphjdkaa
