import Derived.Test.YtnbjkkhjphjdkaaHeadPl
namespace Go.Proofs.Ytnbjkkhjphjdkaa
open Go.RowKit

theorem tmod4 (cl : Int) : cl.tmod 4 % 4 = cl % 4 := by
  rcases Int.le_total 0 cl with h | h
  · rw [Int.tmod_eq_emod_of_nonneg h]
    omega
  · have e : cl.tmod 4 = -((-cl) % 4) := by
      rw [show cl = -(-cl) by omega, Int.neg_tmod, Int.tmod_eq_emod_of_nonneg (by omega)]
      simp
    rw [e]
    omega

theorem own_second {w : World} {o : Obj} {u : Value} {t : TypeId} {B : Nat} (hB : B ≤ w.heap.size) : ((w.alloc o).alloc (.cells #[u] t)).ownsRow B t 1 (.slice (some ⟨w.heap.size + 1, 0, none⟩) 1 1) 1 [u] := by
  have := own_one (w.alloc o) u t B (by simp; omega)
  rwa [show (w.alloc o).heap.size = w.heap.size + 1 by simp] at this
theorem Rd.third (w : World) (u : Value) (t : TypeId) (o o' : Obj) : Rd (((w.alloc o).alloc o').alloc (.cells #[u] t)) (some ⟨w.heap.size + 1 + 1, 0, none⟩) 1 1 [u] := by
  have := Rd.one ((w.alloc o).alloc o') u t
  rwa [show ((w.alloc o).alloc o').heap.size = w.heap.size + 1 + 1 by simp] at this
theorem Rd.second' (w : World) (u : Value) (t : TypeId) (o : Obj) : Rd ((w.alloc o).alloc (.cells #[u] t)) (some ⟨w.heap.size + 1, 0, none⟩) 1 1 [u] := by
  have := Rd.one (w.alloc o) u t
  rwa [show (w.alloc o).heap.size = w.heap.size + 1 by simp] at this

theorem RdP.mk3s {w : World} {o : Obj} {A B C : Option Addr} {n c m d k e : Nat} {a b g : List UInt8} (t : TypeId) (h : Rd (w.alloc o) A n c (bv a)) (h2 : Rd (w.alloc o) B m d (bv b)) (h3 : Rd (w.alloc o) C k e (bv g)) :
    RdP ((w.alloc o).alloc (.cells #[.slice A n c, .slice B m d, .slice C k e] t)) (some ⟨w.heap.size + 1, 0, none⟩) 3 3 [a, b, g] := by
  have := RdP.mk3 t h h2 h3
  rwa [show (w.alloc o).heap.size = w.heap.size + 1 by simp] at this
theorem own_base {w : World} {base base' n : Nat} {e : TypeId} {v : Value} {xs : List Value} (h : w.ownsRow base e 1 v n xs) (hb : base' ≤ base) : w.ownsRow base' e 1 v n xs := by
  refine ⟨h.1, ?_⟩
  rcases h.2 with h0 | ⟨g, cap, cur, hv, hB, hr⟩
  · exact .inl h0
  · exact .inr ⟨g, cap, cur, hv, by omega, hr⟩

set_option maxHeartbeats 1600000 in
theorem headA (cl no len : Int) (made : Bool) (w : World) (n1 : no ≤ 9223372036854775807) (l1 : len ≤ 9223372036854775807) (gn : no < 31) (gl : len < 128) :
    Calls Try.prog 12 #[.agg #[.int .i64 cl, .int .i64 no], .bool made, .int .i64 len] w fun e w' => ∃ A c, e = .returned (.slice A (2) c) ∧ Fresh w w' 5 A (2) c (bv ([Pl.by8 (up3 cl made + max no 0)] ++ [Pl.by8 (max len 0)])) := by
  obtain ⟨i0, hi, hz0, hz1, hz2⟩ := info_parts Try.info_byte
  have q0 := Int.tmod_lt_of_pos cl (show (0 : Int) < 4 by omega)
  have q2 := Int.lt_tmod_of_pos cl (show (0 : Int) < 4 by omega)
  have q1 : IntKind.i64.wrap (cl.tmod 4 + 4) = cl.tmod 4 + 4 := IntWalk.i64_in _ ⟨by omega, by omega⟩
  have hc := tmod4 cl
  have hc0 : 0 ≤ cl % 4 ∧ cl % 4 < 4 := by omega
  have ho := or64_32 cl
  have hF : ∃ F, up3 cl made = F ∧ ((made = false ∧ F = cl % 4 * 64) ∨ (made = true ∧ F = cl % 4 * 64 + 32)) := ⟨_, rfl, by unfold up3; cases made <;> simp⟩
  obtain ⟨F, hF, hF2⟩ := hF
  rw [hF]
  clear hF
  have hF3 : 0 ≤ F ∧ F < 256 ∧ F % 32 = 0 := by omega
  generalize cl % 4 = c4 at *
  have hN : ∃ N, max no 0 = N ∧ ((no < 0 ∧ N = 0) ∨ (0 ≤ no ∧ N = no)) := ⟨_, rfl, by omega⟩
  obtain ⟨N, hN, hN2⟩ := hN
  rw [hN]
  clear hN
  obtain ⟨X, hoA, hX⟩ : ∃ X, bits BinOp.or IntKind.u8 F N = X ∧ X = F + N := ⟨_, rfl, or32 F N hF3.1 hF3.2.1 hF3.2.2 (by omega) (by omega)⟩
  rw [← hX]
  have hX2 : 0 ≤ X ∧ X < 256 := by omega
  have hb1 := bv_by8 X hX2.1 hX2.2
  have hO1 : Hid (∀ (w : World) (o : Obj) (t : TypeId), Rd ((w.alloc o).alloc (.cells #[.int .u8 X] t)) (some ⟨w.heap.size + 1, 0, none⟩) 1 1 (bv [Pl.by8 X])) := fun w o t => by rw [hb1]; exact Rd.second' w _ t o
  clear hX
  have hL : ∃ L, max len 0 = L ∧ ((len < 0 ∧ L = 0) ∨ (0 ≤ len ∧ L = len)) := ⟨_, rfl, by omega⟩
  obtain ⟨L, hL, hL2⟩ := hL
  rw [hL]
  clear hL
  have hL3 : 0 ≤ L ∧ L < 128 := by omega
  have hb2 := bv_by8 L (by omega) (by omega)
  rw [bv_append, hb1, hb2]
  rcases hF2 with ⟨rfl, rfl⟩ | ⟨rfl, rfl⟩ <;> rcases hN2 with ⟨g1, rfl⟩ | ⟨g1, rfl⟩ <;> rcases hL2 with ⟨g3, rfl⟩ | ⟨g3, rfl⟩
  all_goals
    go_enter Try.func12, Try.ntmps12
    go_wp2_with (at_builtin; refine wpList_app _ rfl (.tmp 43) (.tmp 46) _ rfl w.heap.size 5 i0 (.int .u8 0) 1 Try.underlying26 hi hz0 hz1 hz2 rfl _ _ _ rfl (own_below (own_second (Nat.le_refl _)) ((Below.refl _ _).alloc (Nat.le_refl _) _)) _ _ _ _ rfl (Rd.third _ _ _ _ _) (one_int _ _) ?_ (by omega) ?_ ?_)
    · omega
    · simp
      omega
    · intro A1 c1 w1 hown hg hl
      have hb := ((((Below.refl w.heap.size w).alloc (Nat.le_refl _) _).alloc (by simp) _).alloc (by simp; omega) _).grown hg (by simp; omega) (fun j hj => by simp [Value.ownBlock] at hj; omega)
      have HO := hide hown
      clear hown hg hl
      go_wp2
      go_ret
      exact ⟨A1, c1, rfl, HO.out, hb⟩
set_option maxHeartbeats 1600000 in
theorem headB (cl no len : Int) (made : Bool) (w : World) (n1 : no ≤ 9223372036854775807) (l1 : len ≤ 9223372036854775807) (gn : no < 31) (gl : 128 ≤ len) :
    Calls Try.prog 12 #[.agg #[.int .i64 cl, .int .i64 no], .bool made, .int .i64 len] w fun e w' => ∃ A c, e = .returned (.slice A (1 + (1 + Pl.dlenF 256 7 len)) c) ∧ Fresh w w' 5 A (1 + (1 + Pl.dlenF 256 7 len)) c (bv ([Pl.by8 (up3 cl made + max no 0)] ++ ([Pl.by8 (128 + (Pl.dlenF 256 7 len : Int))] ++ Pl.be (Pl.dlenF 256 7 len) len))) := by
  obtain ⟨i0, hi, hz0, hz1, hz2⟩ := info_parts Try.info_byte
  have q0 := Int.tmod_lt_of_pos cl (show (0 : Int) < 4 by omega)
  have q2 := Int.lt_tmod_of_pos cl (show (0 : Int) < 4 by omega)
  have q1 : IntKind.i64.wrap (cl.tmod 4 + 4) = cl.tmod 4 + 4 := IntWalk.i64_in _ ⟨by omega, by omega⟩
  have hc := tmod4 cl
  have hc0 : 0 ≤ cl % 4 ∧ cl % 4 < 4 := by omega
  have ho := or64_32 cl
  have hF : ∃ F, up3 cl made = F ∧ ((made = false ∧ F = cl % 4 * 64) ∨ (made = true ∧ F = cl % 4 * 64 + 32)) := ⟨_, rfl, by unfold up3; cases made <;> simp⟩
  obtain ⟨F, hF, hF2⟩ := hF
  rw [hF]
  clear hF
  have hF3 : 0 ≤ F ∧ F < 256 ∧ F % 32 = 0 := by omega
  generalize cl % 4 = c4 at *
  have hN : ∃ N, max no 0 = N ∧ ((no < 0 ∧ N = 0) ∨ (0 ≤ no ∧ N = no)) := ⟨_, rfl, by omega⟩
  obtain ⟨N, hN, hN2⟩ := hN
  rw [hN]
  clear hN
  obtain ⟨X, hoA, hX⟩ : ∃ X, bits BinOp.or IntKind.u8 F N = X ∧ X = F + N := ⟨_, rfl, or32 F N hF3.1 hF3.2.1 hF3.2.2 (by omega) (by omega)⟩
  rw [← hX]
  have hX2 : 0 ≤ X ∧ X < 256 := by omega
  have hb1 := bv_by8 X hX2.1 hX2.2
  have hO1 : Hid (∀ (w : World) (o : Obj) (t : TypeId), Rd ((w.alloc o).alloc (.cells #[.int .u8 X] t)) (some ⟨w.heap.size + 1, 0, none⟩) 1 1 (bv [Pl.by8 X])) := fun w o t => by rw [hb1]; exact Rd.second' w _ t o
  clear hX
  have k0 : 0 ≤ len := by omega
  have kU := hide (fun w => unsigned_any len k0 w)
  have hu := Pl.dlenF_bd 256 7 len
  have hul := hide (Pl.be_length (Pl.dlenF 256 7 len) len)
  generalize Pl.dlenF 256 7 len = s2 at *
  generalize Pl.be s2 len = x2 at *
  have or2 := or128l (s2 : Int) (by omega) (by omega)
  have hb3 := bv_by8 (128 + (s2 : Int)) (by omega) (by omega)
  have hO3 : Hid (∀ (w : World) (t : TypeId), Rd (w.alloc (.cells #[.int .u8 (128 + (s2 : Int))] t)) (some ⟨w.heap.size, 0, none⟩) 1 1 (bv [Pl.by8 (128 + (s2 : Int))])) := fun w t => by rw [hb3]; exact Rd.one w _ t
  have kJ := hide (fun A n c w h => join_any A n c [[Pl.by8 X], [Pl.by8 (128 + (s2 : Int))], x2] w h (by have := hul.out; simp; omega))
  have e1 : ([[Pl.by8 X], [Pl.by8 (128 + (s2 : Int))], x2] : List (List UInt8)).flatten = [Pl.by8 X] ++ ([Pl.by8 (128 + (s2 : Int))] ++ x2) := by simp
  rw [e1, show ([Pl.by8 X] ++ ([Pl.by8 (128 + (s2 : Int))] ++ x2)).length = 1 + (1 + s2) by simp [hul.out]; omega] at kJ
  clear e1
  generalize [Pl.by8 X] ++ ([Pl.by8 (128 + (s2 : Int))] ++ x2) = all at *
  rcases hF2 with ⟨rfl, rfl⟩ | ⟨rfl, rfl⟩ <;> rcases hN2 with ⟨g1, rfl⟩ | ⟨g1, rfl⟩
  all_goals
    go_enter Try.func12, Try.ntmps12
    go_wp2_with (fail)
    refine (kU.out _).mono ?_
    rintro e w1 ⟨A1, c1, rfl, hf⟩
    have hrd := hide hf.rd
    have hb1w := below_call2 hf.below
    have hx := hide ((hO1.out _ _ _).below hf.below (Nat.le_refl _))
    clear hf
    go_wp2_with (fail)
    refine (kJ.out _ _ _ _ (RdP.mk3s _ (hx.out.alloc _) (hO3.out _ _) (hrd.out.alloc _))).mono ?_
    rintro e w2 ⟨A2, c2, rfl, hf2⟩
    have hfin : Fresh w w2 5 A2 (1 + (1 + s2)) c2 (bv all) := ⟨own_base hf2.1 (by have := hb1w.size; simp; omega), hb1w.trans ((below_call2 hf2.below).mono hb1w.size)⟩
    clear hf2
    go_wp2
    go_ret
    exact ⟨A2, c2, rfl, hfin⟩
set_option maxHeartbeats 1600000 in
theorem headC (cl no len : Int) (made : Bool) (w : World) (n1 : no ≤ 9223372036854775807) (l1 : len ≤ 9223372036854775807) (gn : 31 ≤ no) (gl : len < 128) :
    Calls Try.prog 12 #[.agg #[.int .i64 cl, .int .i64 no], .bool made, .int .i64 len] w fun e w' => ∃ A c, e = .returned (.slice A (1 + Pl.dlenF 128 9 no + 1) c) ∧ Fresh w w' 5 A (1 + Pl.dlenF 128 9 no + 1) c (bv (([Pl.by8 (up3 cl made + 31)] ++ Pl.gr (Pl.dlenF 128 9 no) no) ++ [Pl.by8 (max len 0)])) := by
  obtain ⟨i0, hi, hz0, hz1, hz2⟩ := info_parts Try.info_byte
  have q0 := Int.tmod_lt_of_pos cl (show (0 : Int) < 4 by omega)
  have q2 := Int.lt_tmod_of_pos cl (show (0 : Int) < 4 by omega)
  have q1 : IntKind.i64.wrap (cl.tmod 4 + 4) = cl.tmod 4 + 4 := IntWalk.i64_in _ ⟨by omega, by omega⟩
  have hc := tmod4 cl
  have hc0 : 0 ≤ cl % 4 ∧ cl % 4 < 4 := by omega
  have ho := or64_32 cl
  have hF : ∃ F, up3 cl made = F ∧ ((made = false ∧ F = cl % 4 * 64) ∨ (made = true ∧ F = cl % 4 * 64 + 32)) := ⟨_, rfl, by unfold up3; cases made <;> simp⟩
  obtain ⟨F, hF, hF2⟩ := hF
  rw [hF]
  clear hF
  have hF3 : 0 ≤ F ∧ F < 256 ∧ F % 32 = 0 := by omega
  generalize cl % 4 = c4 at *
  obtain ⟨X, hoA, hX⟩ : ∃ X, bits BinOp.or IntKind.u8 F 31 = X ∧ X = F + 31 := ⟨_, rfl, or32 F 31 hF3.1 hF3.2.1 hF3.2.2 (by omega) (by omega)⟩
  rw [← hX]
  have hX2 : 0 ≤ X ∧ X < 256 := by omega
  have hb1 := bv_by8 X hX2.1 hX2.2
  have hO1 : Hid (∀ (w : World) (o : Obj) (t : TypeId), Rd ((w.alloc o).alloc (.cells #[.int .u8 X] t)) (some ⟨w.heap.size + 1, 0, none⟩) 1 1 (bv [Pl.by8 X])) := fun w o t => by rw [hb1]; exact Rd.second' w _ t o
  have n0 : 0 ≤ no := by omega
  have kG := hide (fun w => groups_any no n0 (by omega) w)
  have hg := Pl.dlenF_bd 128 9 no
  have hgl := hide (Pl.gr_length (Pl.dlenF 128 9 no) no)
  generalize Pl.dlenF 128 9 no = s3 at *
  generalize Pl.gr s3 no = x3 at *
  clear hX
  have hL : ∃ L, max len 0 = L ∧ ((len < 0 ∧ L = 0) ∨ (0 ≤ len ∧ L = len)) := ⟨_, rfl, by omega⟩
  obtain ⟨L, hL, hL2⟩ := hL
  rw [hL]
  clear hL
  have hL3 : 0 ≤ L ∧ L < 128 := by omega
  have hb2 := bv_by8 L (by omega) (by omega)
  have kJ := hide (fun A n c w h => join_any A n c [[Pl.by8 X], x3] w h (by have := hgl.out; simp; omega))
  have e1 : ([[Pl.by8 X], x3] : List (List UInt8)).flatten = [Pl.by8 X] ++ x3 := by simp
  have hhl := hide (show ([Pl.by8 X] ++ x3).length = 1 + s3 by simp [hgl.out]; omega)
  rw [e1, hhl.out] at kJ
  clear e1
  generalize [Pl.by8 X] ++ x3 = hdr at *
  rw [bv_append, hb2]
  rcases hF2 with ⟨rfl, rfl⟩ | ⟨rfl, rfl⟩ <;> rcases hL2 with ⟨g3, rfl⟩ | ⟨g3, rfl⟩
  all_goals
    go_enter Try.func12, Try.ntmps12
    go_wp2_with (fail)
    refine (kG.out _).mono ?_
    rintro e w1 ⟨A1, c1, rfl, hf⟩
    have hrd := hide hf.rd
    have hb1w := below_call2 hf.below
    have hx := hide ((hO1.out _ _ _).below hf.below (Nat.le_refl _))
    clear hf
    go_wp2_with (fail)
    refine (kJ.out _ _ _ _ (RdP.mk2 _ hx.out hrd.out)).mono ?_
    rintro e w2 ⟨A2, c2, rfl, hf2⟩
    have hfin : Fresh w w2 5 A2 (1 + s3) c2 (bv hdr) := ⟨own_base hf2.1 (by have := hb1w.size; simp; omega), hb1w.trans ((below_call hf2.below).mono hb1w.size)⟩
    clear hf2 hb1w hx hrd
    go_wp2_with (at_builtin; refine wpList_app _ rfl (.tmp 43) (.tmp 46) _ rfl w.heap.size 5 i0 (.int .u8 0) 1 Try.underlying26 hi hz0 hz1 hz2 rfl _ _ _ rfl (own_below hfin.1 ((Below.refl _ _).alloc (Nat.le_refl _) _)) _ _ _ _ rfl (Rd.one _ _ _) (one_int _ _) ?_ (by omega) ?_ ?_)
    · omega
    · have := hfin.2.size
      simp
      omega
    · intro A3 c3 w3 hown hg hl
      have hb := (hfin.2.alloc hfin.2.size _).grown hg (by have := hfin.2.size; simp; omega) (fun j hj => (hfin.1.lt j hj).1)
      have HO := hide hown
      clear hown hg hl hfin
      go_wp2
      go_ret
      exact ⟨A3, c3, rfl, HO.out, hb⟩
set_option maxHeartbeats 1600000 in
theorem headD (cl no len : Int) (made : Bool) (w : World) (n1 : no ≤ 9223372036854775807) (l1 : len ≤ 9223372036854775807) (gn : 31 ≤ no) (gl : 128 ≤ len) :
    Calls Try.prog 12 #[.agg #[.int .i64 cl, .int .i64 no], .bool made, .int .i64 len] w fun e w' => ∃ A c, e = .returned (.slice A (1 + Pl.dlenF 128 9 no + (1 + Pl.dlenF 256 7 len)) c) ∧ Fresh w w' 5 A (1 + Pl.dlenF 128 9 no + (1 + Pl.dlenF 256 7 len)) c (bv (([Pl.by8 (up3 cl made + 31)] ++ Pl.gr (Pl.dlenF 128 9 no) no) ++ ([Pl.by8 (128 + (Pl.dlenF 256 7 len : Int))] ++ Pl.be (Pl.dlenF 256 7 len) len))) := by
  obtain ⟨i0, hi, hz0, hz1, hz2⟩ := info_parts Try.info_byte
  have q0 := Int.tmod_lt_of_pos cl (show (0 : Int) < 4 by omega)
  have q2 := Int.lt_tmod_of_pos cl (show (0 : Int) < 4 by omega)
  have q1 : IntKind.i64.wrap (cl.tmod 4 + 4) = cl.tmod 4 + 4 := IntWalk.i64_in _ ⟨by omega, by omega⟩
  have hc := tmod4 cl
  have hc0 : 0 ≤ cl % 4 ∧ cl % 4 < 4 := by omega
  have ho := or64_32 cl
  have hF : ∃ F, up3 cl made = F ∧ ((made = false ∧ F = cl % 4 * 64) ∨ (made = true ∧ F = cl % 4 * 64 + 32)) := ⟨_, rfl, by unfold up3; cases made <;> simp⟩
  obtain ⟨F, hF, hF2⟩ := hF
  rw [hF]
  clear hF
  have hF3 : 0 ≤ F ∧ F < 256 ∧ F % 32 = 0 := by omega
  generalize cl % 4 = c4 at *
  obtain ⟨X, hoA, hX⟩ : ∃ X, bits BinOp.or IntKind.u8 F 31 = X ∧ X = F + 31 := ⟨_, rfl, or32 F 31 hF3.1 hF3.2.1 hF3.2.2 (by omega) (by omega)⟩
  rw [← hX]
  have hX2 : 0 ≤ X ∧ X < 256 := by omega
  have hb1 := bv_by8 X hX2.1 hX2.2
  have hO1 : Hid (∀ (w : World) (o : Obj) (t : TypeId), Rd ((w.alloc o).alloc (.cells #[.int .u8 X] t)) (some ⟨w.heap.size + 1, 0, none⟩) 1 1 (bv [Pl.by8 X])) := fun w o t => by rw [hb1]; exact Rd.second' w _ t o
  have n0 : 0 ≤ no := by omega
  have kG := hide (fun w => groups_any no n0 (by omega) w)
  have hg := Pl.dlenF_bd 128 9 no
  have hgl := hide (Pl.gr_length (Pl.dlenF 128 9 no) no)
  generalize Pl.dlenF 128 9 no = s3 at *
  generalize Pl.gr s3 no = x3 at *
  clear hX
  have k0 : 0 ≤ len := by omega
  have kU := hide (fun w => unsigned_any len k0 w)
  have hu := Pl.dlenF_bd 256 7 len
  have hul := hide (Pl.be_length (Pl.dlenF 256 7 len) len)
  generalize Pl.dlenF 256 7 len = s2 at *
  generalize Pl.be s2 len = x2 at *
  have or2 := or128l (s2 : Int) (by omega) (by omega)
  have hb3 := bv_by8 (128 + (s2 : Int)) (by omega) (by omega)
  have hO3 : Hid (∀ (w : World) (t : TypeId), Rd (w.alloc (.cells #[.int .u8 (128 + (s2 : Int))] t)) (some ⟨w.heap.size, 0, none⟩) 1 1 (bv [Pl.by8 (128 + (s2 : Int))])) := fun w t => by rw [hb3]; exact Rd.one w _ t
  have kJ := hide (fun A n c w h => join_any A n c [[Pl.by8 X], x3] w h (by have := hgl.out; simp; omega))
  have e1 : ([[Pl.by8 X], x3] : List (List UInt8)).flatten = [Pl.by8 X] ++ x3 := by simp
  have hhl := hide (show ([Pl.by8 X] ++ x3).length = 1 + s3 by simp [hgl.out]; omega)
  rw [e1, hhl.out] at kJ
  clear e1
  generalize [Pl.by8 X] ++ x3 = hdr at *
  have kJ2 := hide (fun A n c w h => join_any A n c [hdr, [Pl.by8 (128 + (s2 : Int))], x2] w h (by have := hul.out; have := hhl.out; simp; omega))
  have e1 : ([hdr, [Pl.by8 (128 + (s2 : Int))], x2] : List (List UInt8)).flatten = hdr ++ ([Pl.by8 (128 + (s2 : Int))] ++ x2) := by simp
  rw [e1, show (hdr ++ ([Pl.by8 (128 + (s2 : Int))] ++ x2)).length = 1 + s3 + (1 + s2) by simp [hhl.out, hul.out]; omega] at kJ2
  clear e1
  generalize hdr ++ ([Pl.by8 (128 + (s2 : Int))] ++ x2) = all at *
  rcases hF2 with ⟨rfl, rfl⟩ | ⟨rfl, rfl⟩
  all_goals
    go_enter Try.func12, Try.ntmps12
    go_wp2_with (fail)
    refine (kG.out _).mono ?_
    rintro e w1 ⟨A1, c1, rfl, hf⟩
    have hrd := hide hf.rd
    have hb1w := below_call2 hf.below
    have hx := hide ((hO1.out _ _ _).below hf.below (Nat.le_refl _))
    clear hf
    go_wp2_with (fail)
    refine (kJ.out _ _ _ _ (RdP.mk2 _ hx.out hrd.out)).mono ?_
    rintro e w2 ⟨A2, c2, rfl, hf2⟩
    have hfin : Fresh w w2 5 A2 (1 + s3) c2 (bv hdr) := ⟨own_base hf2.1 (by have := hb1w.size; simp; omega), hb1w.trans ((below_call hf2.below).mono hb1w.size)⟩
    clear hf2 hb1w hx hrd
    go_wp2_with (fail)
    refine (kU.out _).mono ?_
    rintro e w3 ⟨A3, c3, rfl, hf⟩
    have hrd := hide hf.rd
    have hx := hide (hfin.rd.below hf.below (Nat.le_refl _))
    have hb3w := below_next hfin.2 hf.below
    clear hf hfin
    go_wp2_with (fail)
    refine (kJ2.out _ _ _ _ (RdP.mk3s _ (hx.out.alloc _) (hO3.out _ _) (hrd.out.alloc _))).mono ?_
    rintro e w4 ⟨A4, c4, rfl, hf2⟩
    have hfin : Fresh w w4 5 A4 (1 + s3 + (1 + s2)) c4 (bv all) := ⟨own_base hf2.1 (by have := hb3w.size; simp; omega), hb3w.trans ((below_call2 hf2.below).mono hb3w.size)⟩
    clear hf2
    go_wp2
    go_ret
    exact ⟨A4, c4, rfl, hfin⟩

end Go.Proofs.Ytnbjkkhjphjdkaa
