import Derived.Test.YtnbjkkhjphjdkaaHead
namespace Go.Proofs.Ytnbjkkhjphjdkaa
open Go.RowKit

theorem hd1_small (f n : Int) (h : n < 31) : hd1 f n = [Pl.by8 (f + n)] := by unfold hd1; rw [if_pos h]
theorem hd1_big (f n : Int) (h : ¬ n < 31) : hd1 f n = [Pl.by8 (f + 31)] ++ Pl.gr (Pl.dlenF 128 9 n) n := by unfold hd1; rw [if_neg h]; rfl
theorem hd2_small (l : Int) (h : l < 128) : hd2 l = [Pl.by8 l] := by unfold hd2; rw [if_pos h]
theorem hd2_big (l : Int) (h : ¬ l < 128) : hd2 l = [Pl.by8 (128 + (Pl.dlenF 256 7 l : Int))] ++ Pl.be (Pl.dlenF 256 7 l) l := by unfold hd2; rw [if_neg h]; rfl

/-- The four forms of a head, as one. -/
theorem head_join (f : FuncId) (P : Program) (cl no len : Int) (made : Bool) (w : World) (T : TypeId) (K : Array Value)
    (hA : no < 31 → len < 128 → Calls P f K w fun e w' => ∃ A c, e = .returned (.slice A 2 c) ∧ Fresh w w' T A 2 c (bv ([Pl.by8 (up3 cl made + max no 0)] ++ [Pl.by8 (max len 0)])))
    (hB : no < 31 → 128 ≤ len → Calls P f K w fun e w' => ∃ A c, e = .returned (.slice A (1 + (1 + Pl.dlenF 256 7 len)) c) ∧ Fresh w w' T A (1 + (1 + Pl.dlenF 256 7 len)) c (bv ([Pl.by8 (up3 cl made + max no 0)] ++ ([Pl.by8 (128 + (Pl.dlenF 256 7 len : Int))] ++ Pl.be (Pl.dlenF 256 7 len) len))))
    (hC : 31 ≤ no → len < 128 → Calls P f K w fun e w' => ∃ A c, e = .returned (.slice A (1 + Pl.dlenF 128 9 no + 1) c) ∧ Fresh w w' T A (1 + Pl.dlenF 128 9 no + 1) c (bv (([Pl.by8 (up3 cl made + 31)] ++ Pl.gr (Pl.dlenF 128 9 no) no) ++ [Pl.by8 (max len 0)])))
    (hD : 31 ≤ no → 128 ≤ len → Calls P f K w fun e w' => ∃ A c, e = .returned (.slice A (1 + Pl.dlenF 128 9 no + (1 + Pl.dlenF 256 7 len)) c) ∧ Fresh w w' T A (1 + Pl.dlenF 128 9 no + (1 + Pl.dlenF 256 7 len)) c (bv (([Pl.by8 (up3 cl made + 31)] ++ Pl.gr (Pl.dlenF 128 9 no) no) ++ ([Pl.by8 (128 + (Pl.dlenF 256 7 len : Int))] ++ Pl.be (Pl.dlenF 256 7 len) len)))) :
    Calls P f K w fun e w' => ∃ A c, e = .returned (.slice A (headL cl no made len).length c) ∧ Fresh w w' T A (headL cl no made len).length c (bv (headL cl no made len)) := by
  unfold headL
  by_cases h1 : no < 31 <;> by_cases h2 : len < 128
  · have e1 := hd1_small (up3 cl made) (max no 0) (by omega)
    have e2 := hd2_small (max len 0) (by omega)
    rw [e1, e2]
    exact hA h1 h2
  · have e1 := hd1_small (up3 cl made) (max no 0) (by omega)
    have e2 := hd2_big (max len 0) (by omega)
    rw [show max len 0 = len by omega] at e2
    rw [e1, show max len 0 = len by omega, e2, show ([Pl.by8 (up3 cl made + max no 0)] ++ ([Pl.by8 (128 + (Pl.dlenF 256 7 len : Int))] ++ Pl.be (Pl.dlenF 256 7 len) len)).length = 1 + (1 + Pl.dlenF 256 7 len) by simp [Pl.be_length]; omega]
    exact hB h1 (by omega)
  · have e1 := hd1_big (up3 cl made) (max no 0) (by omega)
    have e2 := hd2_small (max len 0) (by omega)
    rw [show max no 0 = no by omega] at e1
    rw [show max no 0 = no by omega, e1, e2, show ([Pl.by8 (up3 cl made + 31)] ++ Pl.gr (Pl.dlenF 128 9 no) no ++ [Pl.by8 (max len 0)]).length = 1 + Pl.dlenF 128 9 no + 1 by simp [Pl.gr_length]; omega]
    exact hC (by omega) h2
  · have e1 := hd1_big (up3 cl made) (max no 0) (by omega)
    have e2 := hd2_big (max len 0) (by omega)
    rw [show max no 0 = no by omega] at e1
    rw [show max len 0 = len by omega] at e2
    rw [show max no 0 = no by omega, show max len 0 = len by omega, e1, e2, show ([Pl.by8 (up3 cl made + 31)] ++ Pl.gr (Pl.dlenF 128 9 no) no ++ ([Pl.by8 (128 + (Pl.dlenF 256 7 len : Int))] ++ Pl.be (Pl.dlenF 256 7 len) len)).length = 1 + Pl.dlenF 128 9 no + (1 + Pl.dlenF 256 7 len) by simp [Pl.gr_length, Pl.be_length]; omega]
    exact hD (by omega) (by omega)

theorem headL_length (cl no len : Int) (made : Bool) : 2 ≤ (headL cl no made len).length ∧ (headL cl no made len).length ≤ 20 := by
  unfold headL
  have h1 := hd1_length (up3 cl made) (max no 0)
  have h2 := hd2_length (max len 0)
  rw [List.length_append]
  omega

theorem head_any (cl no len : Int) (made : Bool) (w : World) (n1 : no ≤ 9223372036854775807) (l1 : len ≤ 9223372036854775807) :
    Calls Try.prog 12 #[.agg #[.int .i64 cl, .int .i64 no], .bool made, .int .i64 len] w fun e w' => ∃ A c, e = .returned (.slice A (headL cl no made len).length c) ∧ Fresh w w' 5 A (headL cl no made len).length c (bv (headL cl no made len)) :=
  head_join _ _ cl no len made w _ _ (headA cl no len made w n1 l1) (headB cl no len made w n1 l1) (headC cl no len made w n1 l1) (headD cl no len made w n1 l1)

theorem element_any (cl no : Int) (made : Bool) (A : Option Addr) (n c : Nat) (ls : List (List UInt8)) (w : World) (n1 : no ≤ 9223372036854775807) (h : RdP w A n c ls) (hn : ls.flatten.length ≤ 1000000) :
    Calls Try.prog 14 #[.agg #[.int .i64 cl, .int .i64 no], .bool made, .slice A n c] w fun e w' => ∃ A' n' c', e = .returned (.slice A' n' c') ∧ Fresh w w' 5 A' n' c' (bv (headL cl no made ls.flatten.length ++ ls.flatten)) := by
  have hh := headL_length cl no ls.flatten.length made
  have kJ := hide (fun w (h : RdP w A n c ls) => join_any A n c ls w h (by omega))
  have kH := hide (fun w => head_any cl no (ls.flatten.length : Int) made w n1 (by omega))
  have kJ2 := hide (fun A n c w h => join_any A n c [headL cl no made ls.flatten.length, ls.flatten] w h (by rw [show ([headL cl no made ls.flatten.length, ls.flatten] : List (List UInt8)).flatten = headL cl no made ls.flatten.length ++ ls.flatten by simp, List.length_append]; omega))
  rw [show ([headL cl no made ls.flatten.length, ls.flatten] : List (List UInt8)).flatten = headL cl no made ls.flatten.length ++ ls.flatten by simp] at kJ2
  have H := hide h
  clear h hh
  have hlen : (0 : Int) ≤ (ls.flatten.length : Int) := by omega
  have hcx := H.out.lenmax
  generalize headL cl no made ls.flatten.length = hl at *
  generalize ls.flatten = fl at *
  generalize hfl : fl.length = m at *
  go_enter Try.func14, Try.ntmps14
  go_wp2_with (fail)
  refine (kJ.out _ (H.out.alloc _)).mono ?_
  rintro e w1 ⟨A1, c1, rfl, hf1⟩
  have hb1 := below_call hf1.below
  have hr1 := hide hf1.rd
  have hcell0 := (hf1.below.cell (p := ⟨w.heap.size, 0, none⟩) (by simp)).trans (show _ = some (Value.int .i64 cl) by simp)
  have hcell1 := (hf1.below.cell (p := ⟨w.heap.size, 1, none⟩) (by simp)).trans (show _ = some (Value.int .i64 no) by simp)
  clear hf1
  go_wp2_with (fail)
  refine (kH.out _).mono ?_
  rintro e w2 ⟨A2, c2, rfl, hf2⟩
  have hb2 := below_next hb1 hf2.below
  have hr2 := hide hf2.rd
  have hr12 := hide (hr1.out.below hf2.below (Nat.le_refl _))
  clear hf2 hr1
  go_wp2_with (fail)
  refine (kJ2.out _ _ _ _ (RdP.mk2 _ hr2.out hr12.out)).mono ?_
  rintro e w3 ⟨A3, c3, rfl, hf3⟩
  have hfin : Fresh w w3 5 A3 _ c3 (bv (hl ++ fl)) := ⟨own_base hf3.1 (by have := hb2.size; simp; omega), hb2.trans ((below_call hf3.below).mono hb2.size)⟩
  clear hf3
  go_wp2
  go_ret
  rw [List.length_append, hfl] at hfin
  exact ⟨A3, _, c3, rfl, hfin⟩

end Go.Proofs.Ytnbjkkhjphjdkaa
