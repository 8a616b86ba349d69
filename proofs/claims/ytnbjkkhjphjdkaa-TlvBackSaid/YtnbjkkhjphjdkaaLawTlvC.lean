import Derived.Test.YtnbjkkhjphjdkaaPlCut
import Derived.Test.YtnbjkkhjphjdkaaTakeShort
namespace Go.Proofs.Ytnbjkkhjphjdkaa
open Go.RowKit

theorem RdP.mk1s {w : World} {o : Obj} {A : Option Addr} {n c : Nat} {a : List UInt8} (t : TypeId) (h : Rd (w.alloc o) A n c (bv a)) :
    RdP ((w.alloc o).alloc (.cells #[.slice A n c] t)) (some ⟨w.heap.size + 1, 0, none⟩) 1 1 [a] := by
  have := RdP.mk1 t h
  rwa [show (w.alloc o).heap.size = w.heap.size + 1 by simp] at this

theorem mod_natN (x : Int) (m : Nat) (hm : 0 < m) : ∃ k : Nat, k < m ∧ (IntKind.u64.wrap x).tmod (m : Int) = (k : Int) := by
  have h0 : 0 ≤ IntKind.u64.wrap x := wrap_u64_nonneg x
  have h1 := Int.tmod_nonneg (m : Int) h0
  have h2 := Int.tmod_lt_of_pos (IntKind.u64.wrap x) (show (0 : Int) < (m : Int) by omega)
  exact ⟨((IntKind.u64.wrap x).tmod (m : Int)).toNat, by omega, by omega⟩

set_option maxHeartbeats 1600000 in
theorem tlvCut_main (cl no : Int) (made : Bool) (A1 : Option Addr) (n1 c1 : Nat) (content : List UInt8) (cut : Int) (w : World)
    (h1 : Rd w A1 n1 c1 (bv content)) (g1 : n1 ≤ 1000) (n0 : 0 ≤ no) (nm : no ≤ 268435456) :
    Calls Try.prog 7 #[.agg #[.int .i64 cl, .int .i64 no], .bool made, .slice A1 n1 c1, .int .i64 cut] w fun e w' => e = .returned (.bool true) ∧ Below w.heap.size w w' := by
  have hl := RdB.length h1
  have kE := hide (fun A n c w (h : RdP w A n c [content]) => element_any cl no made A n c [content] w (by omega) h (by simp; omega))
  rw [show ([content] : List (List UInt8)).flatten = content by simp] at kE
  have hcut := elem_cut cl no made content n0 nm (by omega)
  have hE2 : 2 ≤ (headL cl no made content.length ++ content).length ∧ (headL cl no made content.length ++ content).length ≤ 2000 := by
    have := headL_length cl no content.length made
    rw [List.length_append]
    omega
  generalize headL cl no made (content.length : Int) ++ content = E at *
  generalize (content.length : Int) = L at *
  have HC := hide hcut
  have H1 := hide (h1.alloc (.cells #[.int .i64 cl, .int .i64 no] 23))
  clear h1 hcut hl
  go_enter Try.func7, Try.ntmps7
  go_wp2_with (fail)
  refine (kE.out _ _ _ _ (RdP.mk1s _ H1.out)).mono ?_
  rintro e w1 ⟨A2, n2, c2, rfl, hf⟩
  have hl2 := RdB.length hf.rd
  have hb1 := below_call2 hf.below
  have hr1 := hf.rd
  rw [← hl2] at hE2
  obtain ⟨hE2a, hE2b⟩ := hE2
  have HL := hide hl2
  clear hf hl2
  go_wp2_with (fail)
  refine (awake03_any _).mono ?_
  rintro e w2 ⟨rfl, hb2⟩
  have hr2 := hide (hr1.below hb2 (Nat.le_refl _))
  have hb12 := below_next hb1 hb2
  have hc2 := hr1.cap
  have hx2 := hr1.max
  clear hr1 hb1 hb2
  obtain ⟨k, hk, hT⟩ := mod_natN cut n2 (by omega)
  have hk2 := HC.out k (by have := HL.out; omega)
  have htk := hide (bv_take E k ▸ hr2.out.take (Nat.le_of_lt hk))
  clear HC
  have kk : Hid (∀ w, Rd w A2 k c2 (bv (E.take k)) → Calls Try.prog 19 #[.slice A2 k c2] w fun e w' => e = .returned (.tuple #[.agg #[.int .i64 0, .int .i64 0], .bool false, .slice none 0 0, .int .i64 0, .int .i64 3]) ∧ Below w.heap.size w w') := by
    rcases hk2 with ht | ⟨m, ht, hm1, hm2⟩
    · exact fun w h => takeShort1_any A2 k c2 _ w h ht
    · exact fun w h => takeShort2_any A2 k c2 _ w h _ _ _ _ _ ht (by omega) (by omega) hm2
  clear hk2
  have hwr : IntKind.u64.wrap (n2 : Int) = (n2 : Int) := by rw [IntKind.wrap_u64]; omega
  go_wp2_with (fail)
  refine (kk.out _ htk.out).mono ?_
  rintro e w3 ⟨rfl, hb3⟩
  have hend := below_new (below_next hb12 hb3) (.cells #[.int .i64 0, .int .i64 0] 23)
  go_wp2
  go_ret
  exact ⟨rfl, hend⟩

theorem tlvCut_walk (cl no : Int) (made : Bool) (A1 : Option Addr) (n1 c1 : Nat) (content : List UInt8) (cut : Int) (w : World)
    (_hc : -9223372036854775808 ≤ cl ∧ cl ≤ 9223372036854775807) (_hn : -9223372036854775808 ≤ no ∧ no ≤ 9223372036854775807) (h1 : Rd w A1 n1 c1 (bv content)) (_hk : (Lit.int .i64 cut).wf = true) :
    Calls Try.prog 7 #[.agg #[.int .i64 cl, .int .i64 no], .bool made, .slice A1 n1 c1, .int .i64 cut] w fun e w' => e = .returned (.bool true) ∧ Below w.heap.size w w' := by
  have m1 := h1.lenmax
  by_cases g1 : n1 ≤ 1000
  · by_cases g2 : no < 0
    · clear h1 _hk _hc _hn
      go_enter Try.func7, Try.ntmps7
      go_wp2_with (fail)
      refine (awake03_any _).mono ?_
      rintro e w1 ⟨rfl, hb1⟩
      have hb := below_call hb1
      go_wp2
      go_ret
      exact ⟨rfl, hb⟩
    · by_cases g3 : 268435456 < no
      · clear h1 _hk _hc _hn
        go_enter Try.func7, Try.ntmps7
        go_wp2_with (fail)
        refine (awake03_any _).mono ?_
        rintro e w1 ⟨rfl, hb1⟩
        have hb := below_call hb1
        go_wp2
        go_ret
        exact ⟨rfl, hb⟩
      · exact tlvCut_main cl no made A1 n1 c1 content cut w h1 g1 (by omega) (by omega)
  · clear h1 _hk _hc _hn
    go_enter Try.func7, Try.ntmps7
    go_wp2_with (fail)
    refine (awake03_any _).mono ?_
    rintro e w1 ⟨rfl, hb1⟩
    have hb := below_call hb1
    go_wp2
    go_ret
    exact ⟨rfl, hb⟩

end Go.Proofs.Ytnbjkkhjphjdkaa
