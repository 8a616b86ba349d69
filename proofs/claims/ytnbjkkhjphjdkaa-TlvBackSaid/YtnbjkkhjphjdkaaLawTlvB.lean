import Derived.Test.YtnbjkkhjphjdkaaTakeOk
import Derived.Test.YtnbjkkhjphjdkaaPlHeadOwn
import Derived.Test.YtnbjkkhjphjdkaaLawTlvC
import Derived.Deep.RegionHeld3
namespace Go.Proofs.Ytnbjkkhjphjdkaa
open Go.RowKit

theorem below_drewB {B : Nat} {a : World} : ∀ (q : Nat) {w : World}, Below B a w → Below B a (w.drewN q)
  | 0, _, h => h
  | q + 1, w, h => by
    have := below_drewB q (w := w) h
    exact ⟨this.os, this.tape, this.output, this.size, this.block⟩
theorem keepBack {w wa wb : World} {p q : Addr} {u v : Value} {A : Option Addr} {n c : Nat} {xs : List Value} (h : wa.cell? p = some u ∧ wa.cell? q = some v ∧ Rd wa A n c xs ∧ Below w.heap.size w wa) (hb : Below wa.heap.size wa wb) :
    wb.cell? p = some u ∧ wb.cell? q = some v ∧ Rd wb A n c xs ∧ Below w.heap.size w wb :=
  ⟨(hb.cell (World.block_lt_of_cell? wa _ h.1)).trans h.1, (hb.cell (World.block_lt_of_cell? wa _ h.2.1)).trans h.2.1, h.2.2.1.below hb (Nat.le_refl _), below_next h.2.2.2 hb⟩

set_option maxHeartbeats 3200000 in
theorem tlvBack_main (cl no : Int) (made : Bool) (A1 : Option Addr) (n1 c1 : Nat) (content : List UInt8) (A2 : Option Addr) (n2 c2 : Nat) (more : List UInt8) (A3 : Option Addr) (n3 c3 : Nat) (raw : List UInt8) (w : World)
    (h1 : Rd w A1 n1 c1 (bv content)) (h2 : Rd w A2 n2 c2 (bv more)) (h3 : Rd w A3 n3 c3 (bv raw)) (g1 : n1 ≤ 1000) (g2 : n2 ≤ 300) (g3 : n3 ≤ 300) (no0 : 0 ≤ no) (no1 : no ≤ 268435456) :
    Calls Try.prog 6 #[.agg #[.int .i64 cl, .int .i64 no], .bool made, .slice A1 n1 c1, .slice A2 n2 c2, .slice A3 n3 c3] w fun e w' => e = .returned (.bool true) ∧ Below w.heap.size w w' := by
  obtain ⟨i0, hi, hy0, hy1, hy2⟩ := info_parts Try.info_byte
  have hl := RdB.length h1
  have ha3 := i64_and3 cl
  have hc4 : 0 ≤ cl % 4 ∧ cl % 4 < 4 := by omega
  generalize cl % 4 = cm at *
  have hcm : cm % 4 = cm := by omega
  have kE := hide (fun A n c w (h : RdP w A n c [content]) => element_any cm no made A n c [content] w (by omega) h (by simp; omega))
  rw [show ([content] : List (List UInt8)).flatten = content by simp] at kE
  have hE2 : (headL cm no made content.length ++ content).length ≤ 2000 := by
    have := headL_length cm no content.length made
    rw [List.length_append]
    omega
  have hth := thead_headL cm no made content.length (content ++ more) no0 no1 (by omega) (by omega)
  rw [hcm, ← List.append_assoc] at hth
  have hpart : (((headL cm no made content.length ++ content) ++ more).drop (headL cm no made content.length).length).take content.length = content := by
    rw [List.append_assoc, List.drop_left, List.take_left]
  have hkl : (headL cm no made content.length).length + content.length = (headL cm no made content.length ++ content).length := by rw [List.length_append]
  have hh2 := (headL_length cm no content.length made).1
  generalize (headL cm no made content.length).length = hk at *
  generalize headL cm no made (content.length : Int) ++ content = E at *
  have H1 := hide (h1.alloc (.cells #[.int .i64 cm, .int .i64 no] 23))
  have H2 := hide (h2.alloc (.cells #[.int .i64 cm, .int .i64 no] 23))
  have H3 := hide (h3.alloc (.cells #[.int .i64 cm, .int .i64 no] 23))
  have HL := hide hl
  have HK := hide hkl
  clear h1 h2 h3 hl hkl
  go_enter Try.func6, Try.ntmps6
  go_wp2_with (fail)
  refine (kE.out _ _ _ _ (RdP.mk1s _ H1.out)).mono ?_
  rintro e w1 ⟨A4, n4, c4, rfl, hf⟩
  have hl4 := RdB.length hf.rd
  rw [← hl4] at hE2
  have HK4 : Hid (hk + content.length = n4) := by rw [hl4]; exact HK.out
  have hb1 := below_call2 hf.below
  have hr4 := hf.rd
  have hba := (Below.refl (w.alloc (.cells #[.int .i64 cm, .int .i64 no] 23)).heap.size (w.alloc (.cells #[.int .i64 cm, .int .i64 no] 23))).alloc (Nat.le_refl _) (.cells #[.slice A1 n1 c1] 26)
  have hb1a := hba.trans (hf.below.mono hba.size)
  have hc0 := (hb1a.cell (p := ⟨w.heap.size, 0, none⟩) (by simp)).trans (show _ = some (Value.int .i64 cm) by simp)
  have hc1 := (hb1a.cell (p := ⟨w.heap.size, 1, none⟩) (by simp)).trans (show _ = some (Value.int .i64 no) by simp)
  have R1 := hide (And.intro (H1.out.below hb1a (Nat.le_refl _)) (And.intro (H2.out.below hb1a (Nat.le_refl _)) (And.intro (H3.out.below hb1a (Nat.le_refl _)) (And.intro hc0 (And.intro hc1 hb1)))))
  clear hf hl4 hba hb1a hc0 hc1 hb1 H1 H2 H3
  go_wp2_with (fail)
  refine (copyBytes_any _ _ _ E _ hr4 (by omega)).mono ?_
  rintro e w2 ⟨A5, c5, rfl, hf5⟩
  have hown := hf5.1
  have hb2 := hf5.below
  have hmore := R1.out.2.1.below hb2 (Nat.le_refl _)
  have hbs := hb2.size
  clear hf5 hr4
  go_wp2_with (at_builtin; refine wpList_app _ rfl (.tmp 57) (.tmp 58) _ rfl w1.heap.size 5 i0 (.int .u8 0) 1 Try.underlying26 hi hy0 hy1 hy2 rfl _ _ _ rfl hown _ _ _ _ rfl hmore (bv_one _) ?_ (by omega) hbs ?_)
  · omega
  intro A6 c6 w3 hown6 hg6 hl6
  have hb13 : Below w1.heap.size w1 w3 := hb2.grown hg6 hbs (fun j hj => (hown.lt j hj).1)
  obtain ⟨g, rfl⟩ : ∃ g, A6 = some ⟨g, 0, none⟩ := by
    rcases hown6.2 with ⟨hv, h0⟩ | ⟨g, cap, cur, hv, _⟩
    · exfalso
      have := HK4.out
      have h2l := hh2
      omega
    · cases hv
      exact ⟨g, rfl⟩
  have hrd6 := Rd.of_own hown6
  rw [← bv_append] at hrd6
  have kT := hide (fun h => takeOk_any g 0 (n4 + n2) c6 (E ++ more) w3 h _ _ _ _ _ hth (by have := HK4.out; omega) (by omega))
  rw [hpart] at kT
  have hsum : (((hk : Int) + (content.length : Int)) != (n4 : Int)) = false := by
    rw [show (hk : Int) + (content.length : Int) = (n4 : Int) by have := HK4.out; omega]
    simp
  rw [← HL.out] at kT hsum
  have R3 := hide (And.intro (R1.out.1.below hb13 (Nat.le_refl _)) (And.intro (R1.out.2.2.1.below hb13 (Nat.le_refl _)) (And.intro ((hb13.cell (World.block_lt_of_cell? w1 _ R1.out.2.2.2.1)).trans R1.out.2.2.2.1) (And.intro ((hb13.cell (World.block_lt_of_cell? w1 _ R1.out.2.2.2.2.1)).trans R1.out.2.2.2.2.1) (below_next R1.out.2.2.2.2.2 hb13)))))
  clear hown hown6 hg6 hl6 hb13 hb2 hbs hmore R1 hth hpart
  go_wp2_with (fail)
  refine (kT.out hrd6).mono ?_
  rintro e w4 ⟨A7, c7, rfl, hf7⟩
  have hb4 := hf7.below
  have hr7 := hf7.rd
  clear hf7 hrd6 kT
  go_wp2_with (fail)
  refine (awake03_any _).mono ?_
  rintro e w5 ⟨rfl, hb5⟩
  have hb35 := (hb4.alloc hb4.size (.cells #[.int .i64 cm, .int .i64 no] 23)).trans (hb5.mono (by have := hb4.size; simp; omega))
  have hd0 := (hb35.cell (World.block_lt_of_cell? w3 _ R3.out.2.2.1)).trans R3.out.2.2.1
  have hd1 := (hb35.cell (World.block_lt_of_cell? w3 _ R3.out.2.2.2.1)).trans R3.out.2.2.2.1
  have ht0 := (hb5.cell (p := ⟨w4.heap.size, 0, none⟩) (by simp)).trans (show _ = some (Value.int .i64 cm) by simp)
  have ht1 := (hb5.cell (p := ⟨w4.heap.size, 1, none⟩) (by simp)).trans (show _ = some (Value.int .i64 no) by simp)
  have hr7' := hide ((hr7.alloc (.cells #[.int .i64 cm, .int .i64 no] 23)).below hb5 (Nat.le_refl _))
  have R5 := hide (And.intro (R3.out.1.below hb35 (Nat.le_refl _)) (And.intro (R3.out.2.1.below hb35 (Nat.le_refl _)) (below_next R3.out.2.2.2.2 hb35)))
  clear hb35 hb5 hb4 hr7 R3
  go_wp2_with (fail)
  refine (sameBytes_any _ _ _ _ _ _ content content _ hr7'.out R5.out.1).mono ?_
  rintro e w6 ⟨rfl, rfl⟩
  rw [decide_eq_true (rfl : content = content)]
  have kR := hide (fun w h => takeHead_any A3 n3 c3 raw w h)
  have hown2 := hide (fun cl no L k md h => head_own raw cl no L k md h)
  have hcap3 := R5.out.2.1.cap
  have hl3 := hide (RdB.length R5.out.2.1)
  obtain ⟨rcl, rno, rmd, rL, rk, re, hthr⟩ : ∃ a b c d e f, thead raw = (a, b, c, d, e, f) := ⟨_, _, _, _, _, _, rfl⟩
  rw [hthr] at kR
  simp only at kR
  have HTHR := hide hthr
  clear hthr
  go_wp2_with (fail)
  refine (kR.out _ R5.out.2.1).mono ?_
  rintro e w7 ⟨rfl, hb7⟩
  have hbn := (Below.refl w7.heap.size w7).alloc (Nat.le_refl _) (.cells #[.int .i64 rcl, .int .i64 rno] 23)
  have R7 := hide (And.intro ((R5.out.2.1.below hb7 (Nat.le_refl _)).alloc (.cells #[.int .i64 rcl, .int .i64 rno] 23)) (below_new (below_next R5.out.2.2 hb7) (.cells #[.int .i64 rcl, .int .i64 rno] 23)))
  clear hbn hb7 R5
  by_cases hre : re = 0
  · subst hre
    obtain ⟨j, rfl, j2, jl, hhead, q0, q1, q2, q3⟩ := hown2.out _ _ _ _ _ HTHR.out
    have kH := hide (fun w => head_any rcl rno rL rmd w (by omega) (by omega))
    rw [hhead, show (raw.take j).length = j by rw [List.length_take]; omega] at kH
    have jn : j ≤ n3 := by have := hl3.out; omega
    have jn2 : (j : Int) ≤ (n3 : Int) := by omega
    have jn3 : (j : Int) ≤ (c3 : Int) := by omega
    have jn4 : (2 : Int) ≤ (j : Int) := by omega
    go_wp2
    have S1 := hide (show (w7.alloc (.cells #[.int .i64 rcl, .int .i64 rno] 23)).drew.cell? ⟨w7.heap.size, 0, none⟩ = some (.int .i64 rcl) ∧ (w7.alloc (.cells #[.int .i64 rcl, .int .i64 rno] 23)).drew.cell? ⟨w7.heap.size, 1, none⟩ = some (.int .i64 rno) ∧ Rd (w7.alloc (.cells #[.int .i64 rcl, .int .i64 rno] 23)).drew A3 n3 c3 (bv raw) ∧ Below w.heap.size w (w7.alloc (.cells #[.int .i64 rcl, .int .i64 rno] 23)).drew from
      ⟨show (w7.alloc _).cell? _ = _ by simp, show (w7.alloc _).cell? _ = _ by simp, R7.out.1.drew, R7.out.2.drew⟩)
    go_region_held3 (fun w' => w'.cell? ⟨w7.heap.size, 0, none⟩ = some (.int .i64 rcl) ∧ w'.cell? ⟨w7.heap.size, 1, none⟩ = some (.int .i64 rno) ∧ Rd w' A3 n3 c3 (bv raw) ∧ Below w.heap.size w w')
      (first | with_reducible exact S1.out | with_reducible assumption | with_reducible exact keepBack ‹_› ‹_›)
      (first
        | (go_at_call 12; with_reducible refine (kH.out _).mono ?_; rintro e w9 ⟨A9, c9, rfl, hf9⟩; have hr9 := hf9.rd; have hb9 := hf9.below; clear hf9)
        | (go_at_call 11; with_reducible refine (sameBytes_any _ _ _ _ _ _ (raw.take j) (raw.take j) _ hr9 ?_).mono ?_; exact bv_take raw j ▸ (And.left (And.right (And.right ‹_ ∧ _ ∧ Rd _ A3 n3 c3 (bv raw) ∧ _›))).take jn; rw [decide_eq_true (rfl : raw.take j = raw.take j)]; rintro e w9 ⟨rfl, rfl⟩))
    all_goals
      have hend := And.right (And.right (And.right ‹_ ∧ _ ∧ Rd _ A3 n3 c3 (bv raw) ∧ _›))
      go_wp2
      go_ret
      exact ⟨rfl, hend⟩
  · have hre2 : (re != 0) = true := by simp [hre]
    clear hre
    go_wp2
    go_quiet (fail)
    go_wp2
    go_ret
    exact ⟨rfl, below_drewB _ R7.out.2⟩

theorem tlvBack_walk (cl no : Int) (made : Bool) (A1 : Option Addr) (n1 c1 : Nat) (content : List UInt8) (A2 : Option Addr) (n2 c2 : Nat) (more : List UInt8) (A3 : Option Addr) (n3 c3 : Nat) (raw : List UInt8) (w : World)
    (_hc : -9223372036854775808 ≤ cl ∧ cl ≤ 9223372036854775807) (_hn : -9223372036854775808 ≤ no ∧ no ≤ 9223372036854775807) (h1 : Rd w A1 n1 c1 (bv content)) (h2 : Rd w A2 n2 c2 (bv more)) (h3 : Rd w A3 n3 c3 (bv raw)) :
    Calls Try.prog 6 #[.agg #[.int .i64 cl, .int .i64 no], .bool made, .slice A1 n1 c1, .slice A2 n2 c2, .slice A3 n3 c3] w fun e w' => e = .returned (.bool true) ∧ Below w.heap.size w w' := by
  have m1 := h1.lenmax
  have m2 := h2.lenmax
  have m3 := h3.lenmax
  by_cases g1 : n1 ≤ 1000
  · by_cases g2 : n2 ≤ 300
    · by_cases g3 : n3 ≤ 300
      · by_cases g4 : 0 ≤ no
        · by_cases g5 : no ≤ 268435456
          · exact tlvBack_main cl no made A1 n1 c1 content A2 n2 c2 more A3 n3 c3 raw w h1 h2 h3 g1 g2 g3 g4 g5
          · clear h1 h2 h3 _hc _hn
            go_enter Try.func6, Try.ntmps6
            go_wp2_with (fail)
            refine (awake03_any _).mono ?_
            rintro e w1 ⟨rfl, hb1⟩
            have hb := below_call hb1
            go_wp2
            go_ret
            exact ⟨rfl, hb⟩
        · clear h1 h2 h3 _hc _hn
          go_enter Try.func6, Try.ntmps6
          go_wp2_with (fail)
          refine (awake03_any _).mono ?_
          rintro e w1 ⟨rfl, hb1⟩
          have hb := below_call hb1
          go_wp2
          go_ret
          exact ⟨rfl, hb⟩
      · clear h1 h2 h3 _hc _hn
        go_enter Try.func6, Try.ntmps6
        go_wp2_with (fail)
        refine (awake03_any _).mono ?_
        rintro e w1 ⟨rfl, hb1⟩
        have hb := below_call hb1
        go_wp2
        go_ret
        exact ⟨rfl, hb⟩
    · clear h1 h2 h3 _hc _hn
      go_enter Try.func6, Try.ntmps6
      go_wp2_with (fail)
      refine (awake03_any _).mono ?_
      rintro e w1 ⟨rfl, hb1⟩
      have hb := below_call hb1
      go_wp2
      go_ret
      exact ⟨rfl, hb⟩
  · clear h1 h2 h3 _hc _hn
    go_enter Try.func6, Try.ntmps6
    go_wp2_with (fail)
    refine (awake03_any _).mono ?_
    rintro e w1 ⟨rfl, hb1⟩
    have hb := below_call hb1
    go_wp2
    go_ret
    exact ⟨rfl, hb⟩

end Go.Proofs.Ytnbjkkhjphjdkaa
