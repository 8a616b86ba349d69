import Derived.Test.YtnbjkkhjphjdkaaTakeLen
import Derived.Test.YtnbjkkhjphjdkaaPlBack
import Derived.BigRegion
import Derived.Laws.ResultCell
namespace Go.Proofs.Ytnbjkkhjphjdkaa
open Go.RowKit

theorem numT_own (x : UInt8) (t : List UInt8) (h : (numT (x :: t)).2.2 = 0) : ∃ j : Nat, (numT (x :: t)).2.1 = (j : Int) ∧ j ≤ t.length ∧ 0 ≤ (numT (x :: t)).1 ∧ (numT (x :: t)).1 ≤ 268435456 := by
  rw [numT_cons] at h ⊢
  by_cases h1 : (x.toNat : Int) % 32 < 31
  · rw [if_pos h1]
    exact ⟨0, rfl, by omega, by simp; omega, by simp; omega⟩
  · rw [if_neg h1] at h ⊢
    by_cases h2 : (tg 0 0 t).2.2 = 0
    · rw [if_neg (by simpa using h2)] at h ⊢
      by_cases h3 : (tg 0 0 t).1 < 31 ∨ 268435456 < (tg 0 0 t).1
      · rw [if_pos h3] at h
        simp at h
      · rw [if_neg h3]
        obtain ⟨_, _, j, j1, j2, hm, _, _⟩ := tg_own t (tg 0 0 t).1 (tg 0 0 t).2.1 (Prod.ext rfl (Prod.ext rfl h2))
        exact ⟨j, hm, j2, by simp; omega, by simp; omega⟩
    · rw [if_pos h2] at h
      exact absurd h h2

/-- What is read of a head: class, number, whether it is made of elements, length, how many octets, the fault. -/
def thead : List UInt8 → Int × Int × Bool × Int × Int × Int
  | [] => (0, 0, false, 0, 0, 3)
  | c :: t =>
    if (numT (c :: t)).2.2 ≠ 0 then (0, 0, false, 0, 0, (numT (c :: t)).2.2)
    else if (lenT (t.drop (numT (c :: t)).2.1.toNat)).2.2 ≠ 0 then (0, 0, false, 0, 0, (lenT (t.drop (numT (c :: t)).2.1.toNat)).2.2)
    else ((c.toNat : Int) / 64, (numT (c :: t)).1, decide ((c.toNat : Int) / 32 % 2 = 1), (lenT (t.drop (numT (c :: t)).2.1.toNat)).1, 1 + (numT (c :: t)).2.1 + (lenT (t.drop (numT (c :: t)).2.1.toNat)).2.1, 0)
theorem thead_cons (c : UInt8) (t : List UInt8) : thead (c :: t) =
    if (numT (c :: t)).2.2 ≠ 0 then (0, 0, false, 0, 0, (numT (c :: t)).2.2)
    else if (lenT (t.drop (numT (c :: t)).2.1.toNat)).2.2 ≠ 0 then (0, 0, false, 0, 0, (lenT (t.drop (numT (c :: t)).2.1.toNat)).2.2)
    else ((c.toNat : Int) / 64, (numT (c :: t)).1, decide ((c.toNat : Int) / 32 % 2 = 1), (lenT (t.drop (numT (c :: t)).2.1.toNat)).1, 1 + (numT (c :: t)).2.1 + (lenT (t.drop (numT (c :: t)).2.1.toNat)).2.1, 0) := rfl

theorem and32_fin : ∀ n : Fin 256, bits BinOp.and IntKind.u8 (n.val : Int) 32 = ((n.val / 32 % 2 * 32 : Nat) : Int) := by decide +kernel
theorem and32 (c : Int) (h0 : 0 ≤ c) (h1 : c < 256) : bits BinOp.and IntKind.u8 c 32 = c / 32 % 2 * 32 := by
  have h := and32_fin ⟨c.toNat, by omega⟩
  simp only at h
  have e1 : ((c.toNat : Nat) : Int) = c := by omega
  have e2 : ((c.toNat / 32 % 2 * 32 : Nat) : Int) = c / 32 % 2 * 32 := by omega
  rw [e1, e2] at h
  exact h

theorem results_cell4 {fn : Func} {p t u v x : Tmp} {ty : TypeId} (h : fn.results = #[.cell p ty, .tmp t, .tmp u, .tmp v, .tmp x]) (tmps : Array Value) (P : Program) (w : World) :
    (results fn tmps).run P w =
      ((asAddr (tmps.getD p undef)).run P w).andThen fun a w₁ => ((loadVar ty a).run P w₁).andThen fun y w₂ => .ok (.tuple #[y, tmps.getD t undef, tmps.getD u undef, tmps.getD v undef, tmps.getD x undef]) w₂ := by
  simp only [results, h]
  simp [Sem.run_bind, Result.andThen]

theorem lenT_bd (l : List UInt8) : 0 ≤ (lenT l).1 ∧ (lenT l).1 ≤ 2147483647 ∧ 0 ≤ (lenT l).2.1 ∧ (lenT l).2.1 ≤ 9 := by
  match l with
  | [] =>
    show (0 : Int) ≤ 0 ∧ (0 : Int) ≤ 2147483647 ∧ (0 : Int) ≤ 0 ∧ (0 : Int) ≤ 9
    omega
  | c :: t =>
    have hc := c.toNat_lt
    rw [lenT_cons]
    by_cases h1 : (c.toNat : Int) < 128
    · rw [if_pos h1]
      simp
      omega
    · rw [if_neg h1]
      by_cases h2 : c.toNat - 128 = 0 ∨ 8 < c.toNat - 128
      · rw [if_pos h2]
        simp
      · rw [if_neg h2]
        by_cases h3 : t.length < c.toNat - 128
        · rw [if_pos h3]
          simp
        · rw [if_neg h3]
          by_cases h4 : takeUE (t.take (c.toNat - 128)) ≠ 0 ∨ takeUV (t.take (c.toNat - 128)) < 128 ∨ 2147483647 < takeUV (t.take (c.toNat - 128))
          · rw [if_pos h4]
            simp
          · rw [if_neg h4]
            simp only
            omega

theorem lenT_nil : lenT [] = (0, 0, 3) := rfl
theorem lenT_in (l : List UInt8) (h : (lenT l).2.2 = 0) : (lenT l).2.1 ≤ (l.length : Int) := by
  cases l with
  | nil =>
    rw [lenT_nil]
    simp
  | cons c t =>
    have hc := c.toNat_lt
    rw [lenT_cons] at h ⊢
    rw [List.length_cons]
    by_cases h1 : (c.toNat : Int) < 128
    · rw [if_pos h1]
      show (1 : Int) ≤ _
      omega
    · rw [if_neg h1] at h ⊢
      by_cases h2 : c.toNat - 128 = 0 ∨ 8 < c.toNat - 128
      · rw [if_pos h2]
        show (0 : Int) ≤ _
        omega
      · rw [if_neg h2] at h ⊢
        by_cases h3 : t.length < c.toNat - 128
        · rw [if_pos h3]
          show (0 : Int) ≤ _
          omega
        · rw [if_neg h3] at h ⊢
          by_cases h4 : takeUE (t.take (c.toNat - 128)) ≠ 0 ∨ takeUV (t.take (c.toNat - 128)) < 128 ∨ 2147483647 < takeUV (t.take (c.toNat - 128))
          · rw [if_pos h4]
            show (0 : Int) ≤ _
            omega
          · rw [if_neg h4]
            show 1 + ((c.toNat - 128 : Nat) : Int) ≤ _
            omega

set_option maxHeartbeats 1600000 in
theorem takeHeadCons_any (A : Option Addr) (n c : Nat) (x : UInt8) (t : List UInt8) (w : World) (h : Rd w A n c (bv (x :: t))) :
    Calls Try.prog 17 #[.slice A n c] w fun e w' => e = .returned (.tuple #[.agg #[.int .i64 (thead (x :: t)).1, .int .i64 (thead (x :: t)).2.1], .bool (thead (x :: t)).2.2.1, .int .i64 (thead (x :: t)).2.2.2.1, .int .i64 (thead (x :: t)).2.2.2.2.1, .int .i64 (thead (x :: t)).2.2.2.2.2]) ∧ Below w.heap.size w w' := by
  have hl := RdB.length h
  have hm := h.lenmax
  have hcap := h.cap
  have hcx := h.max
  rw [List.length_cons] at hl
  have kN := hide (fun w h => number_any A n c x t w h)
  have H := hide h
  have hx := x.toNat_lt
  have hx2 : 0 ≤ (x.toNat : Int) ∧ (x.toNat : Int) < 256 := by omega
  have hand := and32 (x.toNat : Int) hx2.1 hx2.2
  obtain ⟨b, o, rfl, hb, hcell⟩ := RdB.at_ h (k := 0) (by simp)
  simp only [Nat.add_zero, List.getElem_cons_zero] at hcell
  have hn2 : 0 < n := by omega
  have HL := hide hl
  clear hl
  rw [thead_cons]
  have hown := numT_own x t
  by_cases he : (numT (x :: t)).2.2 = 0
  · obtain ⟨j, hj, hj2, hv0, hv1⟩ := hown he
    rw [if_neg (by simpa using he)]
    rw [he, hj] at kN
    rw [hj]
    simp only [Int.toNat_natCast]
    have hnj : 1 + j ≤ n := by have := HL.out; omega
    have htl := h.dropIf (k := 1 + j) hnj
    rw [bv_drop, show (x :: t).drop (1 + j) = t.drop j by rw [Nat.add_comm]; rfl] at htl
    have kL := hide (fun A n c h => length_any A n c (t.drop j) (w.alloc (.cells #[.int .i64 0, .int .i64 0] 23)) h)
    have HT := hide (htl.alloc (.cells #[.int .i64 0, .int .i64 0] 23))
    have hlb := lenT_bd (t.drop j)
    have hlin := lenT_in (t.drop j)
    rw [List.length_drop] at hlin
    clear htl h he hown hj
    generalize (numT (x :: t)).1 = nv at *
    generalize (lenT (t.drop j)).1 = lv at *
    generalize (lenT (t.drop j)).2.1 = ln at *
    generalize (lenT (t.drop j)).2.2 = le at *
    have hc2 : (w.alloc (.cells #[.int .i64 0, .int .i64 0] 23)).cell? ⟨b, o, none⟩ = some (.int .u8 (x.toNat : Int)) := (World.cell?_alloc_lt w _ _ hb).trans hcell
    generalize (x.toNat : Int) = cc at *
    have hj4 : (1 : Int) + (j : Int) ≤ 9223372036854775807 := by omega
    have hcs : c = 1 + j ∨ ¬ c = 1 + j := by omega
    rcases hcs with rfl | hcs
    all_goals
      first
        | (rw [if_pos rfl] at HT; obtain rfl : n = 1 + j := (by omega); simp only [Nat.sub_self] at HT)
        | rw [if_neg hcs] at HT
      by_cases hle : le = 0
      · have hsum0 := hlin hle
        have hsum1 : (1 : Int) + (j : Int) + ln ≤ 9223372036854775807 := by have := HL.out; omega
        have hsum2 : IntKind.i64.wrap (1 + (j : Int) + ln) = 1 + (j : Int) + ln := IntWalk.i64_in _ ⟨by omega, hsum1⟩
        clear hlin hsum0
        subst hle
        rw [if_neg (by simp)]
        go_enter Try.func17, Try.ntmps17
        go_wp2_with (fail)
        refine (kN.out _ (H.out.alloc _)).mono ?_
        rintro e w1 ⟨rfl, rfl⟩
        go_wp2_with (fail)
        refine (kL.out _ _ _ HT.out).mono ?_
        rintro e w1 ⟨rfl, rfl⟩
        go_wp2
        go_region
        all_goals
          go_wp2
          refine bodyPost_ret (v := .tuple #[.agg #[.int .i64 (cc / 64), .int .i64 nv], .bool (cc / 32 % 2 * 32 != 0), .int .i64 lv, .int .i64 (1 + (j : Int) + ln), .int .i64 0]) ?_ rfl ⟨?_, ((Below.refl _ _).alloc (Nat.le_refl _) _).drew⟩
          · rw [results_cell4 rfl]
            go_simp
          · have e32 : (cc / 32 % 2 * 32 != 0) = decide (cc / 32 % 2 = 1) := by
              have h3 : cc / 32 % 2 = 0 ∨ cc / 32 % 2 = 1 := by omega
              rcases h3 with h3 | h3 <;> rw [h3] <;> decide
            rw [e32]
      · clear hlin
        rw [if_pos hle]
        have hle2 : (le != 0) = true := by simp [hle]
        clear hle
        go_enter Try.func17, Try.ntmps17
        go_wp2_with (fail)
        refine (kN.out _ (H.out.alloc _)).mono ?_
        rintro e w1 ⟨rfl, rfl⟩
        go_wp2_with (fail)
        refine (kL.out _ _ _ HT.out).mono ?_
        rintro e w1 ⟨rfl, rfl⟩
        go_wp2
        refine bodyPost_ret (v := .tuple #[.agg #[.int .i64 0, .int .i64 0], .bool false, .int .i64 0, .int .i64 0, .int .i64 le]) ?_ rfl ⟨rfl, (Below.refl _ _).alloc (Nat.le_refl _) _⟩
        rw [results_cell4 rfl]
        go_simp
  · rw [if_pos he]
    generalize (numT (x :: t)).2.2 = ee at *
    generalize (numT (x :: t)).1 = nv at *
    generalize (numT (x :: t)).2.1 = nn at *
    have he2 : (ee != 0) = true := by simp [he]
    clear he hown
    have hc2 : (w.alloc (.cells #[.int .i64 0, .int .i64 0] 23)).cell? ⟨b, o, none⟩ = some (.int .u8 (x.toNat : Int)) := (World.cell?_alloc_lt w _ _ hb).trans hcell
    go_enter Try.func17, Try.ntmps17
    go_wp2_with (fail)
    refine (kN.out _ (H.out.alloc _)).mono ?_
    rintro e w1 ⟨rfl, rfl⟩
    go_wp2
    refine bodyPost_ret (v := .tuple #[.agg #[.int .i64 0, .int .i64 0], .bool false, .int .i64 0, .int .i64 0, .int .i64 ee]) ?_ rfl ⟨rfl, (Below.refl _ _).alloc (Nat.le_refl _) _⟩
    rw [results_cell4 rfl]
    go_simp

theorem takeHead_any (A : Option Addr) (n c : Nat) (l : List UInt8) (w : World) (h : Rd w A n c (bv l)) :
    Calls Try.prog 17 #[.slice A n c] w fun e w' => e = .returned (.tuple #[.agg #[.int .i64 (thead l).1, .int .i64 (thead l).2.1], .bool (thead l).2.2.1, .int .i64 (thead l).2.2.2.1, .int .i64 (thead l).2.2.2.2.1, .int .i64 (thead l).2.2.2.2.2]) ∧ Below w.heap.size w w' := by
  match l, h with
  | [], h =>
    obtain rfl : n = 0 := by have := RdB.length h; simpa using this
    clear h
    go_enter Try.func17, Try.ntmps17
    go_wp2
    refine bodyPost_ret (v := .tuple #[.agg #[.int .i64 0, .int .i64 0], .bool false, .int .i64 0, .int .i64 0, .int .i64 3]) ?_ rfl ⟨rfl, (Below.refl _ _).alloc (Nat.le_refl _) _⟩
    rw [results_cell4 rfl]
    go_simp
  | x :: t, h => exact takeHeadCons_any A n c x t w h

end Go.Proofs.Ytnbjkkhjphjdkaa
