import Derived.Test.YtnbjkkhjphjdkaaHeadRef
import Derived.Test.YtnbjkkhjphjdkaaKept
namespace Go.Proofs.Ytnbjkkhjphjdkaa
open Go.RowKit

theorem refElement_any (cl no : Int) (made : Bool) (A : Option Addr) (n c : Nat) (l : List UInt8) (w : World) (n1 : no ≤ 9223372036854775807) (h : Rd w A n c (bv l)) (hn : n ≤ 1000000) :
    Calls Try.prog 15 #[.agg #[.int .i64 cl, .int .i64 no], .bool made, .slice A n c] w fun e w' => ∃ A' n' c', e = .returned (.slice A' n' c') ∧ Fresh w w' 5 A' n' c' (bv (headL cl no made n ++ l)) := by
  obtain ⟨i0, hi, hz0, hz1, hz2⟩ := info_parts Try.info_byte
  have hh := (headL_length cl no n made).2
  have kH := hide (fun w => refHead_any cl no (n : Int) made w n1 (by omega))
  have H := hide h
  clear h
  generalize headL cl no made n = hl at *
  generalize hl.length = m at *
  go_enter Try.func15, Try.ntmps15
  go_wp2_with (fail)
  refine (kH.out _).mono ?_
  rintro e w2 ⟨A2, c2, rfl, hf2⟩
  have hb2 := below_call hf2.below
  have ho2 := own_base hf2.1 (show w.heap.size ≤ _ by simp)
  have hr := (H.out.alloc (.cells #[.int .i64 cl, .int .i64 no] 23)).below hf2.below (Nat.le_refl _)
  clear hf2
  go_wp2_with (at_builtin; refine wpList_app _ rfl (.tmp 11) (.tmp 12) _ rfl w.heap.size 5 i0 (.int .u8 0) 1 Try.underlying26 hi hz0 hz1 hz2 rfl _ _ _ rfl ho2 _ _ _ _ rfl hr (bv_one _) ?_ (by omega) ?_ ?_)
  · omega
  · exact hb2.size
  · intro A3 c3 w3 hown hg hl3
    have hb := hb2.grown hg hb2.size (fun j hj => (ho2.lt j hj).1)
    have HO := hide hown
    clear hown hg hl3 ho2 hr
    go_wp2
    go_ret
    exact ⟨A3, _, c3, rfl, by rw [bv_append]; exact HO.out, hb⟩

theorem awake03_any (w : World) : Calls Try.prog 9 #[] w fun e w' => e = .returned (.bool true) ∧ Below w.heap.size w w' := by
  go_enter Try.func9, Try.ntmps9
  go_wp2_with (fail)
  refine (head_any 0 16 5 true _ (by omega) (by omega)).mono ?_
  rintro e w1 ⟨A, c, rfl, hf⟩
  have e1 : headL 0 16 true 5 = [48, 5] := by decide
  rw [e1] at hf ⊢
  have hb := hf.below
  obtain ⟨b, o, rfl, _, hc0⟩ := RdB.at_ (l := [48, 5]) hf.rd (k := 0) (by decide)
  obtain ⟨b', o', he, _, hc1⟩ := RdB.at_ (l := [48, 5]) hf.rd (k := 1) (by decide)
  cases he
  have v0 : ((([48, 5] : List UInt8)[0]'(by decide)).toNat : Int) = 48 := by decide
  have v1 : ((([48, 5] : List UInt8)[1]'(by decide)).toNat : Int) = 5 := by decide
  rw [v0] at hc0
  rw [v1] at hc1
  simp only [Nat.add_zero] at hc0
  clear hf e1 v0 v1
  simp only [List.length_cons, List.length_nil]
  go_wp2
  go_ret
  exact ⟨rfl, hb⟩

end Go.Proofs.Ytnbjkkhjphjdkaa
