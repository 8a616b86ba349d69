import Derived.Test.YtnbjkkhjphjdkaaTakeShort
import Derived.Deep.RegionLaw
namespace Go.Proofs.Ytnbjkkhjphjdkaa
open Go.RowKit

section
variable {P : Program}
/-- append, as one step of a region that draws: whatever the source is. -/
theorem step_app {ops : Array Oper} {o : Oper} {a : Act} {w : World} {K : Act → World → Prop} {Q : Exit → Act → World → Prop} {E : Prop}
    (hg : o.guard = none) (s x : Operand) (t : TypeId) (ho : o.op = Op.call { callee := Callee.builtin Builtin.append, args := #[s, x], argTypes := #[t, t] })
    (base : Nat) (e : TypeId) (i : TypeInfo) (z : Value) (bytes : Nat) (ht : P.underlying t = some (.slice e)) (hi : P.info? e = some i) (hz : i.zero = some z)
    (hsize : i.size = 1) (hby : i.bytes = bytes) (hzs : z.cells.size = 1)
    (v : Value) (n : Nat) (xs : List Value) (hs : a.eval s = v) (hown : w.ownsRow base e 1 v n xs)
    (A : Option Addr) (m c : Nat) (news : List Value) (hx : a.eval x = .slice A m c) (hr : Rd w A m c news) (h1 : ∀ u ∈ news, u.oneCell' = true)
    (hn : n + m ≤ 1099511627776) (hb : bytes ≤ 64) (hbase : base ≤ w.heap.size)
    (hK : ∀ A' c' w', w'.ownsRow base e 1 (.slice A' (n + m) c') (n + m) (xs ++ news) → w.grownBy w' v.ownBlock → ((Value.slice A' (n + m) c').ownBlock = v.ownBlock ∨ (Value.slice A' (n + m) c').ownBlock = some w.heap.size) →
      K (a.put o.dst (.slice A' (n + m) c')) w') :
    if Region.wanted o (yielded ops a.tmps) = true then Oper.wp P o a w K Q else E := by
  have hw : Region.wanted o (yielded ops a.tmps) = true := by simp [Region.wanted, hg]
  rw [if_pos hw]
  obtain ⟨A', c', w', hr, h2, h3, h4⟩ := run_app (P := P) w base t o.type e i z bytes ht hi hz hsize hby hzs v n xs hown A m c news hr h1 hn hb hbase
  unfold Oper.wp execOp
  simp only [ho, resolve, invoke, builtin, Sem.run_bind, Sem.run_pure, Result.andThen_ok, List.map_toArray, List.map_cons, List.map_nil, hs, hx, hr]
  exact hK _ _ _ h2 h3 h4
end

set_option maxHeartbeats 1600000 in
theorem takeOk_any (b o n c : Nat) (l : List UInt8) (w : World) (h : Rd w (some ⟨b, o, none⟩) n c (bv l)) (cl no : Int) (md : Bool) (L k : Nat) (ht : thead l = (cl, no, md, (L : Int), (k : Int), 0)) (hk : k + L ≤ n) (hn : n ≤ 1000000) :
    Calls Try.prog 19 #[.slice (some ⟨b, o, none⟩) n c] w fun e w' => ∃ A' c', e = .returned (.tuple #[.agg #[.int .i64 cl, .int .i64 no], .bool md, .slice A' L c', .int .i64 ((k : Int) + (L : Int)), .int .i64 0]) ∧ Fresh w w' 5 A' L c' (bv ((l.drop k).take L)) := by
  obtain ⟨i0, hi, hy0, hy1, hy2⟩ := info_parts Try.info_byte
  have hm := h.lenmax
  have hcap := h.cap
  have hcx := h.max
  have hbb : Hid (0 < n → b < w.heap.size) := fun hn => by
    obtain ⟨b', o', u, e, hb, _⟩ := h.at_ hn
    cases e
    exact hb
  have kT := hide (fun w h => takeHead_any (some ⟨b, o, none⟩) n c l w h)
  rw [ht] at kT
  simp only at kT
  have HD := h.dropIf (k := k) (by omega)
  have HD2 := HD.take (k := L) (by omega)
  rw [bv_drop, bv_take] at HD2
  have H := hide (h.alloc (.cells #[.int .i64 0, .int .i64 0] 23))
  have HT := hide HD2
  clear h ht HD HD2
  generalize (l.drop k).take L = part at *
  have hsub : IntKind.i64.wrap ((n : Int) - (k : Int)) = (n : Int) - (k : Int) := IntWalk.i64_in _ ⟨by omega, by omega⟩
  have hadd : IntKind.i64.wrap ((k : Int) + (L : Int)) = (k : Int) + (L : Int) := IntWalk.i64_in _ ⟨by omega, by omega⟩
  have hcmp : ¬ ((n : Int) - (k : Int) < (L : Int)) := by omega
  have hwn : IntKind.i64.wrap (n : Int) = (n : Int) := IntWalk.i64_in _ ⟨by omega, by omega⟩
  have hA1 : 0 ≤ (k : Int) + (L : Int) := by omega
  have hA2 : (k : Int) + (L : Int) ≤ (c : Int) := by omega
  obtain ⟨q, hq⟩ : ∃ q, k + L = q := ⟨_, rfl⟩
  have hA3 : ((k : Int) + (L : Int)).toNat = q := by omega
  have hA4 : q - k = L := by omega
  have hA5 : k ≤ q := by omega
  have hqh := hide hq
  clear hq
  have hcs : c = k ∨ ¬ c = k := by omega
  rcases hcs with rfl | hcs
  · skip
    clear hA3 hA4 hA5
    rw [if_pos rfl] at HT
    obtain rfl : n = c := by omega
    obtain rfl : L = 0 := by omega
    simp only [Nat.sub_self] at HT
    go_enter Try.func19, Try.ntmps19
    go_wp2_with (fail)
    refine (kT.out _ H.out).mono ?_
    rintro e w1 ⟨rfl, hb⟩
    have hc0 := (hb.cell (p := ⟨w.heap.size, 0, none⟩) (by simp)).trans (show _ = some (Value.int .i64 0) by simp)
    have hc1 := (hb.cell (p := ⟨w.heap.size, 1, none⟩) (by simp)).trans (show _ = some (Value.int .i64 0) by simp)
    have hf0 := (hb.frozen (p := ⟨w.heap.size, 0, none⟩) (by simp)).trans (show _ = false by simp)
    have hf1 := (hb.frozen (p := ⟨w.heap.size, 1, none⟩) (by simp)).trans (show _ = false by simp)
    have hz : w.heap.size < w1.heap.size := by have := hb.size; simp at this; omega
    have hb1 := below_call hb
    have hrd1 := HT.out.below hb1 (Nat.le_refl _)
    clear hb
    have hz2 : w1.heap.size ≠ w.heap.size := by omega
    have hal := (Below.refl w1.heap.size w1).alloc (Nat.le_refl _) (.cells #[.int .i64 cl, .int .i64 no] 23)
    obtain ⟨W, hW, F0, F1, F2, F3, F4, F5, Z0, Z1, HB, HR⟩ : ∃ W, W = w1.alloc (.cells #[.int .i64 cl, .int .i64 no] 23) ∧ W.cell? ⟨w.heap.size, 0, none⟩ = some (.int .i64 0) ∧ W.cell? ⟨w.heap.size, 1, none⟩ = some (.int .i64 0) ∧ W.frozen? ⟨w.heap.size, 0, none⟩ = false ∧ W.frozen? ⟨w.heap.size, 1, none⟩ = false ∧
        W.cell? ⟨w1.heap.size, 0, none⟩ = some (.int .i64 cl) ∧ W.cell? ⟨w1.heap.size, 1, none⟩ = some (.int .i64 no) ∧ w.heap.size < W.heap.size ∧ w1.heap.size < W.heap.size ∧ Below w.heap.size w W ∧ Rd W _ _ _ (bv part) :=
      ⟨_, rfl, (hal.cell (p := ⟨w.heap.size, 0, none⟩) hz).trans hc0, (hal.cell (p := ⟨w.heap.size, 1, none⟩) hz).trans hc1, (hal.frozen (p := ⟨w.heap.size, 0, none⟩) hz).trans hf0, (hal.frozen (p := ⟨w.heap.size, 1, none⟩) hz).trans hf1, by simp, by simp, by simp; omega, by simp, hb1.alloc hb1.size _, hrd1.alloc _⟩
    go_wp2
    rw [← hW]
    clear hW hal hc0 hc1 hf0 hf1 hb1 hrd1
    generalize w1.heap.size = D at *
    have hz3 : w.heap.size ≠ D := by omega
    go_region_law (refine step_app rfl (.const (.slice none 0 0)) (.tmp 41) _ rfl W.heap.size 5 i0 (.int .u8 0) 1 Try.underlying26 hi hy0 hy1 hy2 rfl _ _ _ rfl (World.ownsRow_nil W.drew _ _ _) (some ⟨b, o, none⟩) 0 0 (bv part) (by go_simp) HR.drew (bv_one _) (by omega) (by omega) (Nat.le_refl _) ?_; intro A9 c9 w9 hown9 hg9 hl9; have hb9 : Below W.heap.size W w9 := (Below.refl _ _).drew.grown hg9 (Nat.le_refl _) (fun j hj => by cases hj); have G0 := (hb9.cell (p := ⟨w.heap.size, 0, none⟩) Z0).trans F0; have G1 := (hb9.cell (p := ⟨w.heap.size, 1, none⟩) Z0).trans F1; have G2 := (hb9.frozen (p := ⟨w.heap.size, 0, none⟩) Z0).trans F2; have G3 := (hb9.frozen (p := ⟨w.heap.size, 1, none⟩) Z0).trans F3; have G4 := (hb9.cell (p := ⟨D, 0, none⟩) Z1).trans F4; have G5 := (hb9.cell (p := ⟨D, 1, none⟩) Z1).trans F5)
    all_goals
      simp only [Nat.zero_add, List.nil_append] at hown9
      have ho := own_base hown9 (show w.heap.size ≤ W.drew.heap.size from Nat.le_of_lt Z0)
      have hne : ∀ j, (Value.slice A9 0 c9).ownBlock ≠ some (⟨w.heap.size, j, none⟩ : Addr).block := fun j he => by
        have h1 : W.heap.size ≤ w.heap.size := (hown9.lt _ he).1
        omega
      have hbel := HB.trans (hb9.mono HB.size)
      go_wp2
      refine bodyPost_ret (v := .tuple #[.agg #[.int .i64 cl, .int .i64 no], .bool md, .slice A9 0 c9, .int .i64 (n : Int), .int .i64 0]) ?_ rfl ⟨A9, c9, by simp, ?_, ?_⟩
      · rw [results_cell4 rfl]
        go_simp
      · exact ownsRow_setCell_other (ownsRow_setCell_other ho (hne 0) _) (hne 1) _
      · exact (hbel.setCell (Nat.le_refl _) _).setCell (Nat.le_refl _) _
  · skip
    rw [if_neg hcs] at HT
    go_enter Try.func19, Try.ntmps19
    go_wp2_with (fail)
    refine (kT.out _ H.out).mono ?_
    rintro e w1 ⟨rfl, hb⟩
    have hc0 := (hb.cell (p := ⟨w.heap.size, 0, none⟩) (by simp)).trans (show _ = some (Value.int .i64 0) by simp)
    have hc1 := (hb.cell (p := ⟨w.heap.size, 1, none⟩) (by simp)).trans (show _ = some (Value.int .i64 0) by simp)
    have hf0 := (hb.frozen (p := ⟨w.heap.size, 0, none⟩) (by simp)).trans (show _ = false by simp)
    have hf1 := (hb.frozen (p := ⟨w.heap.size, 1, none⟩) (by simp)).trans (show _ = false by simp)
    have hz : w.heap.size < w1.heap.size := by have := hb.size; simp at this; omega
    have hb1 := below_call hb
    have hrd1 := HT.out.below hb1 (Nat.le_refl _)
    clear hb
    have hz2 : w1.heap.size ≠ w.heap.size := by omega
    have hal := (Below.refl w1.heap.size w1).alloc (Nat.le_refl _) (.cells #[.int .i64 cl, .int .i64 no] 23)
    obtain ⟨W, hW, F0, F1, F2, F3, F4, F5, Z0, Z1, HB, HR⟩ : ∃ W, W = w1.alloc (.cells #[.int .i64 cl, .int .i64 no] 23) ∧ W.cell? ⟨w.heap.size, 0, none⟩ = some (.int .i64 0) ∧ W.cell? ⟨w.heap.size, 1, none⟩ = some (.int .i64 0) ∧ W.frozen? ⟨w.heap.size, 0, none⟩ = false ∧ W.frozen? ⟨w.heap.size, 1, none⟩ = false ∧
        W.cell? ⟨w1.heap.size, 0, none⟩ = some (.int .i64 cl) ∧ W.cell? ⟨w1.heap.size, 1, none⟩ = some (.int .i64 no) ∧ w.heap.size < W.heap.size ∧ w1.heap.size < W.heap.size ∧ Below w.heap.size w W ∧ Rd W _ _ _ (bv part) :=
      ⟨_, rfl, (hal.cell (p := ⟨w.heap.size, 0, none⟩) hz).trans hc0, (hal.cell (p := ⟨w.heap.size, 1, none⟩) hz).trans hc1, (hal.frozen (p := ⟨w.heap.size, 0, none⟩) hz).trans hf0, (hal.frozen (p := ⟨w.heap.size, 1, none⟩) hz).trans hf1, by simp, by simp, by simp; omega, by simp, hb1.alloc hb1.size _, hrd1.alloc _⟩
    go_wp2
    rw [← hW]
    clear hW hal hc0 hc1 hf0 hf1 hb1 hrd1
    generalize w1.heap.size = D at *
    have hz3 : w.heap.size ≠ D := by omega
    go_region_law (refine step_app rfl (.const (.slice none 0 0)) (.tmp 41) _ rfl W.heap.size 5 i0 (.int .u8 0) 1 Try.underlying26 hi hy0 hy1 hy2 rfl _ _ _ rfl (World.ownsRow_nil W.drew _ _ _) (some ⟨b, o + k, none⟩) L (c - k) (bv part) (by go_simp) HR.drew (bv_one _) (by omega) (by omega) (Nat.le_refl _) ?_; intro A9 c9 w9 hown9 hg9 hl9; have hb9 : Below W.heap.size W w9 := (Below.refl _ _).drew.grown hg9 (Nat.le_refl _) (fun j hj => by cases hj); have G0 := (hb9.cell (p := ⟨w.heap.size, 0, none⟩) Z0).trans F0; have G1 := (hb9.cell (p := ⟨w.heap.size, 1, none⟩) Z0).trans F1; have G2 := (hb9.frozen (p := ⟨w.heap.size, 0, none⟩) Z0).trans F2; have G3 := (hb9.frozen (p := ⟨w.heap.size, 1, none⟩) Z0).trans F3; have G4 := (hb9.cell (p := ⟨D, 0, none⟩) Z1).trans F4; have G5 := (hb9.cell (p := ⟨D, 1, none⟩) Z1).trans F5)
    all_goals
      simp only [Nat.zero_add, List.nil_append] at hown9
      have ho := own_base hown9 (show w.heap.size ≤ W.drew.heap.size from Nat.le_of_lt Z0)
      have hne : ∀ j, (Value.slice A9 L c9).ownBlock ≠ some (⟨w.heap.size, j, none⟩ : Addr).block := fun j he => by
        have h1 : W.heap.size ≤ w.heap.size := (hown9.lt _ he).1
        omega
      have hbel := HB.trans (hb9.mono HB.size)
      go_wp2
      refine bodyPost_ret (v := .tuple #[.agg #[.int .i64 cl, .int .i64 no], .bool md, .slice A9 L c9, .int .i64 ((k : Int) + (L : Int)), .int .i64 0]) ?_ rfl ⟨A9, c9, rfl, ?_, ?_⟩
      · rw [results_cell4 rfl]
        go_simp
      · exact ownsRow_setCell_other (ownsRow_setCell_other ho (hne 0) _) (hne 1) _
      · exact (hbel.setCell (Nat.le_refl _) _).setCell (Nat.le_refl _) _

end Go.Proofs.Ytnbjkkhjphjdkaa
