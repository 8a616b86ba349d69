import Derived.Test.YtnbjkkhjphjdkaaRefHead2
import Derived.Test.YtnbjkkhjphjdkaaTakeOk
namespace Go.Proofs.Ytnbjkkhjphjdkaa
open Go.RowKit

theorem thead_err (x : UInt8) (t : List UInt8) (h : (numT (x :: t)).2.2 ≠ 0) : thead (x :: t) = (0, 0, false, 0, 0, (numT (x :: t)).2.2) := by
  rw [thead_cons, if_pos h]
theorem thead_len (x : UInt8) (t : List UInt8) (nv : Int) (j : Nat) (h : numT (x :: t) = (nv, (j : Int), 0)) (lv ln le : Int) (hl : lenT (t.drop j) = (lv, ln, le)) :
    thead (x :: t) = if le ≠ 0 then (0, 0, false, 0, 0, le) else ((x.toNat : Int) / 64, nv, decide ((x.toNat : Int) / 32 % 2 = 1), lv, 1 + (j : Int) + ln, 0) := by
  rw [thead_cons, h]
  simp only [Int.toNat_natCast, hl, ne_eq, not_true_eq_false, if_false]
theorem lenT_T1 (y : UInt8) (s : List UInt8) (h : (y.toNat : Int) < 128) : lenT (y :: s) = ((y.toNat : Int), 1, 0) := by rw [lenT_cons, if_pos h]
theorem lenT_T2 (y : UInt8) (s : List UInt8) (k : Nat) (h : y.toNat = 128 + k) (h2 : k = 0 ∨ 8 < k) : lenT (y :: s) = (0, 0, 4) := by
  rw [lenT_cons, if_neg (by omega), if_pos (by omega)]
theorem lenT_T3 (y : UInt8) (s : List UInt8) (k : Nat) (h : y.toNat = 128 + k) (h1 : 1 ≤ k) (h8 : k ≤ 8) (hs : s.length < k) : lenT (y :: s) = (0, 0, 3) := by
  rw [lenT_cons, if_neg (by omega), if_neg (by omega), if_pos (by omega)]
theorem lenT_T4 (y : UInt8) (s : List UInt8) (k : Nat) (h : y.toNat = 128 + k) (h1 : 1 ≤ k) (h8 : k ≤ 8) (hs : k ≤ s.length) (hv : takeUE (s.take k) ≠ 0 ∨ takeUV (s.take k) < 128 ∨ 2147483647 < takeUV (s.take k)) : lenT (y :: s) = (0, 0, 4) := by
  rw [lenT_cons, if_neg (by omega), if_neg (by omega), if_neg (by omega), show y.toNat - 128 = k by omega, if_pos hv]
theorem lenT_T5 (y : UInt8) (s : List UInt8) (k : Nat) (h : y.toNat = 128 + k) (h1 : 1 ≤ k) (h8 : k ≤ 8) (hs : k ≤ s.length) (he : takeUE (s.take k) = 0) (hv0 : 128 ≤ takeUV (s.take k)) (hv1 : takeUV (s.take k) ≤ 2147483647) : lenT (y :: s) = (takeUV (s.take k), 1 + (k : Int), 0) := by
  rw [lenT_cons, if_neg (by omega), if_neg (by omega), if_neg (by omega), show y.toNat - 128 = k by omega, if_neg (by omega)]

/-- What the reference hands back, as a tuple. -/
def HeadOut (r : Int × Int × Bool × Int × Int × Int) : Value := .tuple #[.agg #[.int .i64 r.1, .int .i64 r.2.1], .bool r.2.2.1, .int .i64 r.2.2.2.1, .int .i64 r.2.2.2.2.1, .int .i64 r.2.2.2.2.2]

theorem rhead_any (A : Option Addr) (n c : Nat) (l : List UInt8) (w : World) (h : Rd w A n c (bv l)) :
    Calls Try.prog 18 #[.slice A n c] w fun e w' => e = .returned (HeadOut (thead l)) ∧ Below w.heap.size w w' := by
  match l, h with
  | [], h =>
    obtain rfl : n = 0 := by have := RdB.length h; simpa using this
    clear h
    go_enter Try.func18, Try.ntmps18
    go_wp2
    refine bodyPost_ret (v := .tuple #[.agg #[.int .i64 0, .int .i64 0], .bool false, .int .i64 0, .int .i64 0, .int .i64 3]) ?_ rfl ⟨rfl, ?_⟩
    · rw [results_cell4 rfl]
      go_simp
    · exact (Below.refl _ _).alloc (Nat.le_refl _) _
  | x :: t, h =>
    obtain ⟨b, o, rfl, _, _⟩ := RdB.at_ h (k := 0) (by simp)
    by_cases hs : (x.toNat : Int) % 32 < 31
    · have hn : numT (x :: t) = ((x.toNat : Int) % 32, ((0 : Nat) : Int), 0) := by rw [numT_cons, if_pos hs]; rfl
      match t, h, hn with
      | [], h, hn =>
        rw [thead_len x [] _ 0 hn 0 0 3 rfl]
        exact rheadST0_any b o n c x [] w h hs rfl
      | y :: s, h, hn =>
        by_cases h1 : (y.toNat : Int) < 128
        · rw [thead_len x (y :: s) _ 0 hn _ _ _ (lenT_T1 y s h1)]
          exact rheadST1_any b o n c x (y :: s) w h hs y s rfl h1
        · obtain ⟨k, hk⟩ : ∃ k, y.toNat = 128 + k := ⟨y.toNat - 128, by omega⟩
          by_cases h2 : k = 0 ∨ 8 < k
          · rw [thead_len x (y :: s) _ 0 hn _ _ _ (lenT_T2 y s k hk h2)]
            exact rheadST2_any b o n c x (y :: s) w h hs y s rfl k hk h2
          · by_cases h3 : s.length < k
            · rw [thead_len x (y :: s) _ 0 hn _ _ _ (lenT_T3 y s k hk (by omega) (by omega) h3)]
              exact rheadST3_any b o n c x (y :: s) w h hs y s rfl k hk (by omega) (by omega) h3
            · by_cases h4 : takeUE (s.take k) ≠ 0 ∨ takeUV (s.take k) < 128 ∨ 2147483647 < takeUV (s.take k)
              · rw [thead_len x (y :: s) _ 0 hn _ _ _ (lenT_T4 y s k hk (by omega) (by omega) (by omega) h4)]
                exact rheadST4_any b o n c x (y :: s) w h hs y s rfl k hk (by omega) (by omega) (by omega) h4
              · rw [thead_len x (y :: s) _ 0 hn _ _ _ (lenT_T5 y s k hk (by omega) (by omega) (by omega) (by omega) (by omega) (by omega))]
                have := rheadST5_any b o n c x (y :: s) w h hs y s rfl k hk (by omega) (by omega) (by omega) (by omega) (by omega) (by omega)
                rw [Int.add_assoc] at this
                exact this
    · by_cases he : (tg 0 0 t).2.2 = 0
      · by_cases hf : (tg 0 0 t).1 < 31 ∨ 268435456 < (tg 0 0 t).1
        · have hn : numT (x :: t) = (0, 0, 4) := by rw [numT_cons, if_neg hs, if_neg (by simpa using he), if_pos hf]
          rw [thead_err x t (by rw [hn]; simp), hn]
          exact rheadGF_any b o n c x t w h hs he hf
        · obtain ⟨_, _, j, j1, j2, hm, _, _⟩ := tg_own t (tg 0 0 t).1 (tg 0 0 t).2.1 (Prod.ext rfl (Prod.ext rfl he))
          have hn : numT (x :: t) = ((tg 0 0 t).1, (j : Int), 0) := by rw [numT_cons, if_neg hs, if_neg (by simpa using he), if_neg hf, hm]
          obtain ⟨r, hr⟩ : ∃ r, (tg 0 0 t).1 = r := ⟨_, rfl⟩
          rw [hr] at hn hf
          have hg : tg 0 0 t = (r, (j : Int), 0) := Prod.ext hr (Prod.ext hm he)
          obtain ⟨rest, hd⟩ : ∃ rest, t.drop j = rest := ⟨_, rfl⟩
          have hl : ∀ lv ln le : Int, lenT rest = (lv, ln, le) → thead (x :: t) = if le ≠ 0 then (0, 0, false, 0, 0, le) else ((x.toNat : Int) / 64, r, decide ((x.toNat : Int) / 32 % 2 = 1), lv, 1 + (j : Int) + ln, 0) := fun lv ln le hh => thead_len x t r j hn lv ln le (hd ▸ hh)
          rcases rest with _ | ⟨y, s⟩
          · rw [hl 0 0 3 rfl]
            exact rheadGT0_any b o n c x t w h hs r j hg (by omega) (by omega) hd
          · by_cases h1 : (y.toNat : Int) < 128
            · rw [hl _ _ _ (lenT_T1 y s h1)]
              exact rheadGT1_any b o n c x t w h hs r j hg (by omega) (by omega) y s hd h1
            · obtain ⟨k, hk⟩ : ∃ k, y.toNat = 128 + k := ⟨y.toNat - 128, by omega⟩
              by_cases h2 : k = 0 ∨ 8 < k
              · rw [hl _ _ _ (lenT_T2 y s k hk h2)]
                exact rheadGT2_any b o n c x t w h hs r j hg (by omega) (by omega) y s hd k hk h2
              · by_cases h3 : s.length < k
                · rw [hl _ _ _ (lenT_T3 y s k hk (by omega) (by omega) h3)]
                  exact rheadGT3_any b o n c x t w h hs r j hg (by omega) (by omega) y s hd k hk (by omega) (by omega) h3
                · by_cases h4 : takeUE (s.take k) ≠ 0 ∨ takeUV (s.take k) < 128 ∨ 2147483647 < takeUV (s.take k)
                  · rw [hl _ _ _ (lenT_T4 y s k hk (by omega) (by omega) (by omega) h4)]
                    exact rheadGT4_any b o n c x t w h hs r j hg (by omega) (by omega) y s hd k hk (by omega) (by omega) (by omega) h4
                  · rw [hl _ _ _ (lenT_T5 y s k hk (by omega) (by omega) (by omega) (by omega) (by omega) (by omega))]
                    have := rheadGT5_any b o n c x t w h hs r j hg (by omega) (by omega) y s hd k hk (by omega) (by omega) (by omega) (by omega) (by omega) (by omega)
                    rw [Int.add_assoc] at this
                    exact this
      · have hn : (numT (x :: t)).2.2 = (tg 0 0 t).2.2 := by rw [numT_cons, if_neg hs, if_pos he]
        rw [thead_err x t (by rw [hn]; exact he), hn]
        exact rheadGE_any b o n c x t w h hs he

theorem thead_cases (l : List UInt8) : (∃ e : Int, e ≠ 0 ∧ thead l = (0, 0, false, 0, 0, e)) ∨ ∃ (cl no : Int) (md : Bool) (L k : Nat), thead l = (cl, no, md, (L : Int), (k : Int), 0) ∧ k ≤ l.length ∧ L ≤ 2147483647 ∧ l ≠ [] := by
  match l with
  | [] => exact .inl ⟨3, by decide, rfl⟩
  | x :: t =>
    by_cases h1 : (numT (x :: t)).2.2 = 0
    · obtain ⟨j, hj, hj2, _, _⟩ := numT_own x t h1
      have hn : numT (x :: t) = ((numT (x :: t)).1, (j : Int), 0) := Prod.ext rfl (Prod.ext hj h1)
      have hT := thead_len x t _ j hn (lenT (t.drop j)).1 (lenT (t.drop j)).2.1 (lenT (t.drop j)).2.2 rfl
      obtain ⟨b1, b2, b3, b4⟩ := lenT_bd (t.drop j)
      have hin := lenT_in (t.drop j)
      rw [List.length_drop] at hin
      by_cases h2 : (lenT (t.drop j)).2.2 = 0
      · have hin := hin h2
        rw [if_neg (by simpa using h2)] at hT
        refine .inr ⟨(x.toNat : Int) / 64, (numT (x :: t)).1, decide ((x.toNat : Int) / 32 % 2 = 1), (lenT (t.drop j)).1.toNat, 1 + j + (lenT (t.drop j)).2.1.toNat, ?_, ?_, by omega, by simp⟩
        · rw [hT, Int.toNat_of_nonneg b1, show ((1 + j + (lenT (t.drop j)).2.1.toNat : Nat) : Int) = 1 + (j : Int) + (lenT (t.drop j)).2.1 by omega]
        · rw [List.length_cons]
          omega
      · rw [if_pos h2] at hT
        exact .inl ⟨_, h2, hT⟩
    · exact .inl ⟨_, h1, thead_err x t h1⟩

/-- What is taken: class, number, whether it is made of elements, the content, how many octets, the fault. -/
def tkOut (l : List UInt8) : Int × Int × Bool × List UInt8 × Int × Int :=
  if (thead l).2.2.2.2.2 ≠ 0 then (0, 0, false, [], 0, (thead l).2.2.2.2.2)
  else if (l.length : Int) - (thead l).2.2.2.2.1 < (thead l).2.2.2.1 then (0, 0, false, [], 0, 3)
  else ((thead l).1, (thead l).2.1, (thead l).2.2.1, (l.drop (thead l).2.2.2.2.1.toNat).take (thead l).2.2.2.1.toNat, (thead l).2.2.2.2.1 + (thead l).2.2.2.1, 0)
def TkOut (w : World) (v : Int × Int × Bool × List UInt8 × Int × Int) (e : Ending) (w' : World) : Prop :=
  ∃ A' c', e = .returned (.tuple #[.agg #[.int .i64 v.1, .int .i64 v.2.1], .bool v.2.2.1, .slice A' v.2.2.2.1.length c', .int .i64 v.2.2.2.2.1, .int .i64 v.2.2.2.2.2]) ∧ Fresh w w' 5 A' v.2.2.2.1.length c' (bv v.2.2.2.1)
theorem tkOut_err {l : List UInt8} {e : Int} (he : e ≠ 0) (h : thead l = (0, 0, false, 0, 0, e)) : tkOut l = (0, 0, false, [], 0, e) := by
  unfold tkOut
  rw [h]
  simp only
  rw [if_pos he]
theorem tkOut_short {l : List UInt8} {cl no : Int} {md : Bool} {L k : Nat} (h : thead l = (cl, no, md, (L : Int), (k : Int), 0)) (hs : (l.length : Int) - (k : Int) < (L : Int)) : tkOut l = (0, 0, false, [], 0, 3) := by
  unfold tkOut
  rw [h]
  simp only
  rw [if_neg (by simp), if_pos hs]
theorem tkOut_ok {l : List UInt8} {cl no : Int} {md : Bool} {L k : Nat} (h : thead l = (cl, no, md, (L : Int), (k : Int), 0)) (hs : ¬ (l.length : Int) - (k : Int) < (L : Int)) : tkOut l = (cl, no, md, (l.drop k).take L, (k : Int) + (L : Int), 0) := by
  unfold tkOut
  rw [h]
  simp only
  rw [if_neg (by simp), if_neg hs]
  simp
theorem TkOut.err {w w' : World} {e : Int} (h : Below w.heap.size w w') : TkOut w (0, 0, false, [], 0, e) (.returned (.tuple #[.agg #[.int .i64 0, .int .i64 0], .bool false, .slice none 0 0, .int .i64 0, .int .i64 e])) w' :=
  ⟨none, 0, rfl, World.ownsRow_nil _ _ _ _, h⟩

set_option maxHeartbeats 800000 in
theorem takeErr_any (A : Option Addr) (n c : Nat) (l : List UInt8) (w : World) (h : Rd w A n c (bv l)) (ee : Int) (he : ee ≠ 0) (ht : thead l = (0, 0, false, 0, 0, ee)) :
    Calls Try.prog 19 #[.slice A n c] w fun e w' => e = .returned (.tuple #[.agg #[.int .i64 0, .int .i64 0], .bool false, .slice none 0 0, .int .i64 0, .int .i64 ee]) ∧ Below w.heap.size w w' := by
  have hm := h.lenmax
  have kT := hide (fun w h => takeHead_any A n c l w h)
  rw [ht] at kT
  simp only at kT
  have H := hide (h.alloc (.cells #[.int .i64 0, .int .i64 0] 23))
  have he1 : (ee == 0) = false := by simp [he]
  have he2 : (ee != 0) = true := by simp [he]
  clear h ht he
  go_enter Try.func19, Try.ntmps19
  go_wp2_with (fail)
  refine (kT.out _ H.out).mono ?_
  rintro e w1 ⟨rfl, hb⟩
  have hc0 := (hb.cell (p := ⟨w.heap.size, 0, none⟩) (by simp)).trans (show _ = some (Value.int .i64 0) by simp)
  have hc1 := (hb.cell (p := ⟨w.heap.size, 1, none⟩) (by simp)).trans (show _ = some (Value.int .i64 0) by simp)
  have hf0 := (hb.frozen (p := ⟨w.heap.size, 0, none⟩) (by simp)).trans (show _ = false by simp)
  have hf1 := (hb.frozen (p := ⟨w.heap.size, 1, none⟩) (by simp)).trans (show _ = false by simp)
  have hz : w.heap.size < w1.heap.size := by have := hb.size; simp at this; omega
  have hb1 := below_call hb
  clear hb
  go_wp2
  refine bodyPost_ret (v := .tuple #[.agg #[.int .i64 0, .int .i64 0], .bool false, .slice none 0 0, .int .i64 0, .int .i64 ee]) ?_ rfl ⟨rfl, ?_⟩
  · rw [results_cell4 rfl]
    go_simp
  · refine ((hb1.setCell (Nat.le_refl _) _).setCell (Nat.le_refl _) _).alloc ?_ _
    simp
    omega

theorem take_any (A : Option Addr) (n c : Nat) (l : List UInt8) (w : World) (h : Rd w A n c (bv l)) (hn : n ≤ 1000000) : Calls Try.prog 19 #[.slice A n c] w (TkOut w (tkOut l)) := by
  have hl := RdB.length h
  rcases thead_cases l with ⟨ee, he, ht⟩ | ⟨cl, no, md, L, k, ht, hk, hL, hne⟩
  · rw [tkOut_err he ht]
    refine (takeErr_any A n c l w h ee he ht).mono ?_
    rintro e w' ⟨rfl, hb⟩
    exact .err hb
  · by_cases hs : (l.length : Int) - (k : Int) < (L : Int)
    · rw [tkOut_short ht hs]
      refine (takeShort2_any A n c l w h cl no md _ _ ht (by omega) (by omega) (by omega)).mono ?_
      rintro e w' ⟨rfl, hb⟩
      exact .err hb
    · rw [tkOut_ok ht hs]
      obtain ⟨b, o, rfl, _, _⟩ := RdB.at_ h (k := 0) (List.length_pos_iff.2 hne)
      refine (takeOk_any b o n c l w h cl no md L k ht (by omega) hn).mono ?_
      rintro e w' ⟨A', c', rfl, hf⟩
      have hlen : ((l.drop k).take L).length = L := by rw [List.length_take, List.length_drop]; omega
      refine ⟨A', c', ?_, ?_⟩
      · rw [hlen]
      · rw [hlen]
        exact hf

set_option maxHeartbeats 1600000 in
theorem rtakeErr_any (A : Option Addr) (n c : Nat) (l : List UInt8) (w : World) (h : Rd w A n c (bv l)) (ee : Int) (he : ee ≠ 0) (ht : thead l = (0, 0, false, 0, 0, ee)) :
    Calls Try.prog 20 #[.slice A n c] w fun e w' => e = .returned (.tuple #[.agg #[.int .i64 0, .int .i64 0], .bool false, .slice none 0 0, .int .i64 0, .int .i64 ee]) ∧ Below w.heap.size w w' := by
  have hm := h.lenmax
  have kT := hide (fun w h => rhead_any A n c l w h)
  rw [ht] at kT
  unfold HeadOut at kT
  simp only at kT
  have H := hide (h.alloc (.cells #[.int .i64 0, .int .i64 0] 23))
  have he1 : (ee == 0) = false := by simp [he]
  have he2 : (ee != 0) = true := by simp [he]
  clear h ht he
  go_enter Try.func20, Try.ntmps20
  go_wp2_with (fail)
  refine (kT.out _ H.out).mono ?_
  rintro e w1 ⟨rfl, hb⟩
  have hc0 := (hb.cell (p := ⟨w.heap.size, 0, none⟩) (by simp)).trans (show _ = some (Value.int .i64 0) by simp)
  have hc1 := (hb.cell (p := ⟨w.heap.size, 1, none⟩) (by simp)).trans (show _ = some (Value.int .i64 0) by simp)
  have hf0 := (hb.frozen (p := ⟨w.heap.size, 0, none⟩) (by simp)).trans (show _ = false by simp)
  have hf1 := (hb.frozen (p := ⟨w.heap.size, 1, none⟩) (by simp)).trans (show _ = false by simp)
  have hz : w.heap.size < w1.heap.size := by have := hb.size; simp at this; omega
  have hb1 := below_call hb
  clear hb
  go_wp2
  refine bodyPost_ret (v := .tuple #[.agg #[.int .i64 0, .int .i64 0], .bool false, .slice none 0 0, .int .i64 0, .int .i64 ee]) ?_ rfl ⟨rfl, ?_⟩
  · rw [results_cell4 rfl]
    go_simp
  · refine ((hb1.setCell (Nat.le_refl _) _).setCell (Nat.le_refl _) _).alloc ?_ _
    simp
    omega

set_option maxHeartbeats 1600000 in
theorem rtakeShort_any (A : Option Addr) (n c : Nat) (l : List UInt8) (w : World) (h : Rd w A n c (bv l)) (cl no : Int) (md : Bool) (L hn : Int) (ht : thead l = (cl, no, md, L, hn, 0)) (h0 : 0 ≤ hn) (h1 : hn ≤ (n : Int)) (hL : (n : Int) - hn < L) :
    Calls Try.prog 20 #[.slice A n c] w fun e w' => e = .returned (.tuple #[.agg #[.int .i64 0, .int .i64 0], .bool false, .slice none 0 0, .int .i64 0, .int .i64 3]) ∧ Below w.heap.size w w' := by
  have hm := h.lenmax
  have kT := hide (fun w h => rhead_any A n c l w h)
  rw [ht] at kT
  unfold HeadOut at kT
  simp only at kT
  have H := hide (h.alloc (.cells #[.int .i64 0, .int .i64 0] 23))
  clear h ht
  go_enter Try.func20, Try.ntmps20
  go_wp2_with (fail)
  refine (kT.out _ H.out).mono ?_
  rintro e w1 ⟨rfl, hb⟩
  have hc0 := (hb.cell (p := ⟨w.heap.size, 0, none⟩) (by simp)).trans (show _ = some (Value.int .i64 0) by simp)
  have hc1 := (hb.cell (p := ⟨w.heap.size, 1, none⟩) (by simp)).trans (show _ = some (Value.int .i64 0) by simp)
  have hf0 := (hb.frozen (p := ⟨w.heap.size, 0, none⟩) (by simp)).trans (show _ = false by simp)
  have hf1 := (hb.frozen (p := ⟨w.heap.size, 1, none⟩) (by simp)).trans (show _ = false by simp)
  have hsub : IntKind.i64.wrap ((n : Int) - hn) = (n : Int) - hn := IntWalk.i64_in _ ⟨by omega, by omega⟩
  have hz : w.heap.size < w1.heap.size := by have := hb.size; simp at this; omega
  have hb1 := below_call hb
  clear hb
  go_wp2
  refine bodyPost_ret (v := .tuple #[.agg #[.int .i64 0, .int .i64 0], .bool false, .slice none 0 0, .int .i64 0, .int .i64 3]) ?_ rfl ⟨rfl, ?_⟩
  · rw [results_cell4 rfl]
    go_simp
  · refine ((hb1.setCell (Nat.le_refl _) _).setCell (Nat.le_refl _) _).alloc ?_ _
    simp
    omega

set_option maxHeartbeats 1600000 in
theorem rtakeOk_any (b o n c : Nat) (l : List UInt8) (w : World) (h : Rd w (some ⟨b, o, none⟩) n c (bv l)) (cl no : Int) (md : Bool) (L k : Nat) (ht : thead l = (cl, no, md, (L : Int), (k : Int), 0)) (hk : k + L ≤ n) (hn : n ≤ 1000000) :
    Calls Try.prog 20 #[.slice (some ⟨b, o, none⟩) n c] w fun e w' => ∃ A' c', e = .returned (.tuple #[.agg #[.int .i64 cl, .int .i64 no], .bool md, .slice A' L c', .int .i64 ((k : Int) + (L : Int)), .int .i64 0]) ∧ Fresh w w' 5 A' L c' (bv ((l.drop k).take L)) := by
  obtain ⟨i0, hi, hy0, hy1, hy2⟩ := info_parts Try.info_byte
  have hm := h.lenmax
  have hcap := h.cap
  have hcx := h.max
  have hbb : Hid (0 < n → b < w.heap.size) := fun hn => by
    obtain ⟨b', o', u, e, hb, _⟩ := h.at_ hn
    cases e
    exact hb
  have kT := hide (fun w h => rhead_any (some ⟨b, o, none⟩) n c l w h)
  rw [ht] at kT
  unfold HeadOut at kT
  simp only at kT
  have HD := h.dropIf (k := k) (by omega)
  have HD2 := HD.take (k := L) (by omega)
  rw [bv_drop, bv_take] at HD2
  have H := hide (h.alloc (.cells #[.int .i64 0, .int .i64 0] 23))
  have HT := hide HD2
  clear h ht HD HD2
  generalize (l.drop k).take L = part at *
  have kC := hide (fun A c W (h : Rd W A L c (bv part)) => copyBytes_any A L c part W h (by omega))
  have hsub : IntKind.i64.wrap ((n : Int) - (k : Int)) = (n : Int) - (k : Int) := IntWalk.i64_in _ ⟨by omega, by omega⟩
  have hadd : IntKind.i64.wrap ((k : Int) + (L : Int)) = (k : Int) + (L : Int) := IntWalk.i64_in _ ⟨by omega, by omega⟩
  have hcmp : ¬ ((n : Int) - (k : Int) < (L : Int)) := by omega
  have hwn : IntKind.i64.wrap (n : Int) = (n : Int) := IntWalk.i64_in _ ⟨by omega, by omega⟩
  have hA1 : 0 ≤ (k : Int) + (L : Int) := by omega
  have hA2 : (k : Int) + (L : Int) ≤ (c : Int) := by omega
  obtain ⟨q, hq⟩ : ∃ q, k + L = q := ⟨_, rfl⟩
  have hA3 : ((k : Int) + (L : Int)).toNat = q := by omega
  have hA4 : q - k = L := by omega
  have hA5 : k ≤ q := by omega
  have hqh := hide hq
  clear hq
  have hcs : c = k ∨ ¬ c = k := by omega
  rcases hcs with rfl | hcs
  · skip
    clear hA3 hA4 hA5
    rw [if_pos rfl] at HT
    obtain rfl : n = c := by omega
    obtain rfl : L = 0 := by omega
    simp only [Nat.sub_self] at HT
    go_enter Try.func20, Try.ntmps20
    go_wp2_with (fail)
    refine (kT.out _ H.out).mono ?_
    rintro e w1 ⟨rfl, hb⟩
    have hc0 := (hb.cell (p := ⟨w.heap.size, 0, none⟩) (by simp)).trans (show _ = some (Value.int .i64 0) by simp)
    have hc1 := (hb.cell (p := ⟨w.heap.size, 1, none⟩) (by simp)).trans (show _ = some (Value.int .i64 0) by simp)
    have hf0 := (hb.frozen (p := ⟨w.heap.size, 0, none⟩) (by simp)).trans (show _ = false by simp)
    have hf1 := (hb.frozen (p := ⟨w.heap.size, 1, none⟩) (by simp)).trans (show _ = false by simp)
    have hz : w.heap.size < w1.heap.size := by have := hb.size; simp at this; omega
    have hb1 := below_call hb
    have hrd1 := HT.out.below hb1 (Nat.le_refl _)
    clear hb
    have hz2 : w1.heap.size ≠ w.heap.size := by omega
    have hal := (Below.refl w1.heap.size w1).alloc (Nat.le_refl _) (.cells #[.int .i64 cl, .int .i64 no] 23)
    obtain ⟨W, hW, F0, F1, F2, F3, F4, F5, Z0, Z1, HB, HR⟩ : ∃ W, W = w1.alloc (.cells #[.int .i64 cl, .int .i64 no] 23) ∧ W.cell? ⟨w.heap.size, 0, none⟩ = some (.int .i64 0) ∧ W.cell? ⟨w.heap.size, 1, none⟩ = some (.int .i64 0) ∧ W.frozen? ⟨w.heap.size, 0, none⟩ = false ∧ W.frozen? ⟨w.heap.size, 1, none⟩ = false ∧
        W.cell? ⟨w1.heap.size, 0, none⟩ = some (.int .i64 cl) ∧ W.cell? ⟨w1.heap.size, 1, none⟩ = some (.int .i64 no) ∧ w.heap.size < W.heap.size ∧ w1.heap.size < W.heap.size ∧ Below w.heap.size w W ∧ Rd W _ _ _ (bv part) :=
      ⟨_, rfl, (hal.cell (p := ⟨w.heap.size, 0, none⟩) hz).trans hc0, (hal.cell (p := ⟨w.heap.size, 1, none⟩) hz).trans hc1, (hal.frozen (p := ⟨w.heap.size, 0, none⟩) hz).trans hf0, (hal.frozen (p := ⟨w.heap.size, 1, none⟩) hz).trans hf1, by simp, by simp, by simp; omega, by simp, hb1.alloc hb1.size _, hrd1.alloc _⟩
    go_wp2
    rw [← hW]
    clear hW hal hc0 hc1 hf0 hf1 hb1 hrd1
    generalize w1.heap.size = D at *
    have hz3 : w.heap.size ≠ D := by omega
    go_region_law (go_simp; go_at_call 22; (with_reducible refine (kC.out _ _ _ HR.drew).mono ?_); rintro en w9 ⟨A9, c9, rfl, hf9⟩; have hb9 : Below W.heap.size W w9 := (Below.refl W.heap.size W).drew.trans hf9.below; have hown9 := hf9.1; have G0 := (hb9.cell (p := ⟨w.heap.size, 0, none⟩) Z0).trans F0; have G1 := (hb9.cell (p := ⟨w.heap.size, 1, none⟩) Z0).trans F1; have G2 := (hb9.frozen (p := ⟨w.heap.size, 0, none⟩) Z0).trans F2; have G3 := (hb9.frozen (p := ⟨w.heap.size, 1, none⟩) Z0).trans F3; have G4 := (hb9.cell (p := ⟨D, 0, none⟩) Z1).trans F4; have G5 := (hb9.cell (p := ⟨D, 1, none⟩) Z1).trans F5)
    all_goals
      have ho := own_base hown9 (show w.heap.size ≤ W.drew.heap.size from Nat.le_of_lt Z0)
      have hne : ∀ j, (Value.slice A9 0 c9).ownBlock ≠ some (⟨w.heap.size, j, none⟩ : Addr).block := fun j he => by
        have h1 : W.heap.size ≤ w.heap.size := (hown9.lt _ he).1
        omega
      have hbel := HB.trans (hb9.mono HB.size)
      go_wp2
      refine bodyPost_ret (v := .tuple #[.agg #[.int .i64 cl, .int .i64 no], .bool md, .slice A9 0 c9, .int .i64 (n : Int), .int .i64 0]) ?_ rfl ⟨A9, c9, by simp, ?_, ?_⟩
      · rw [results_cell4 rfl]
        go_simp
      · exact ownsRow_setCell_other (ownsRow_setCell_other ho (hne 0) _) (hne 1) _
      · exact (hbel.setCell (Nat.le_refl _) _).setCell (Nat.le_refl _) _
  · skip
    rw [if_neg hcs] at HT
    go_enter Try.func20, Try.ntmps20
    go_wp2_with (fail)
    refine (kT.out _ H.out).mono ?_
    rintro e w1 ⟨rfl, hb⟩
    have hc0 := (hb.cell (p := ⟨w.heap.size, 0, none⟩) (by simp)).trans (show _ = some (Value.int .i64 0) by simp)
    have hc1 := (hb.cell (p := ⟨w.heap.size, 1, none⟩) (by simp)).trans (show _ = some (Value.int .i64 0) by simp)
    have hf0 := (hb.frozen (p := ⟨w.heap.size, 0, none⟩) (by simp)).trans (show _ = false by simp)
    have hf1 := (hb.frozen (p := ⟨w.heap.size, 1, none⟩) (by simp)).trans (show _ = false by simp)
    have hz : w.heap.size < w1.heap.size := by have := hb.size; simp at this; omega
    have hb1 := below_call hb
    have hrd1 := HT.out.below hb1 (Nat.le_refl _)
    clear hb
    have hz2 : w1.heap.size ≠ w.heap.size := by omega
    have hal := (Below.refl w1.heap.size w1).alloc (Nat.le_refl _) (.cells #[.int .i64 cl, .int .i64 no] 23)
    obtain ⟨W, hW, F0, F1, F2, F3, F4, F5, Z0, Z1, HB, HR⟩ : ∃ W, W = w1.alloc (.cells #[.int .i64 cl, .int .i64 no] 23) ∧ W.cell? ⟨w.heap.size, 0, none⟩ = some (.int .i64 0) ∧ W.cell? ⟨w.heap.size, 1, none⟩ = some (.int .i64 0) ∧ W.frozen? ⟨w.heap.size, 0, none⟩ = false ∧ W.frozen? ⟨w.heap.size, 1, none⟩ = false ∧
        W.cell? ⟨w1.heap.size, 0, none⟩ = some (.int .i64 cl) ∧ W.cell? ⟨w1.heap.size, 1, none⟩ = some (.int .i64 no) ∧ w.heap.size < W.heap.size ∧ w1.heap.size < W.heap.size ∧ Below w.heap.size w W ∧ Rd W _ _ _ (bv part) :=
      ⟨_, rfl, (hal.cell (p := ⟨w.heap.size, 0, none⟩) hz).trans hc0, (hal.cell (p := ⟨w.heap.size, 1, none⟩) hz).trans hc1, (hal.frozen (p := ⟨w.heap.size, 0, none⟩) hz).trans hf0, (hal.frozen (p := ⟨w.heap.size, 1, none⟩) hz).trans hf1, by simp, by simp, by simp; omega, by simp, hb1.alloc hb1.size _, hrd1.alloc _⟩
    go_wp2
    rw [← hW]
    clear hW hal hc0 hc1 hf0 hf1 hb1 hrd1
    generalize w1.heap.size = D at *
    have hz3 : w.heap.size ≠ D := by omega
    go_region_law (go_simp; go_at_call 22; (with_reducible refine (kC.out _ _ _ HR.drew).mono ?_); rintro en w9 ⟨A9, c9, rfl, hf9⟩; have hb9 : Below W.heap.size W w9 := (Below.refl W.heap.size W).drew.trans hf9.below; have hown9 := hf9.1; have G0 := (hb9.cell (p := ⟨w.heap.size, 0, none⟩) Z0).trans F0; have G1 := (hb9.cell (p := ⟨w.heap.size, 1, none⟩) Z0).trans F1; have G2 := (hb9.frozen (p := ⟨w.heap.size, 0, none⟩) Z0).trans F2; have G3 := (hb9.frozen (p := ⟨w.heap.size, 1, none⟩) Z0).trans F3; have G4 := (hb9.cell (p := ⟨D, 0, none⟩) Z1).trans F4; have G5 := (hb9.cell (p := ⟨D, 1, none⟩) Z1).trans F5)
    all_goals
      have ho := own_base hown9 (show w.heap.size ≤ W.drew.heap.size from Nat.le_of_lt Z0)
      have hne : ∀ j, (Value.slice A9 L c9).ownBlock ≠ some (⟨w.heap.size, j, none⟩ : Addr).block := fun j he => by
        have h1 : W.heap.size ≤ w.heap.size := (hown9.lt _ he).1
        omega
      have hbel := HB.trans (hb9.mono HB.size)
      go_wp2
      refine bodyPost_ret (v := .tuple #[.agg #[.int .i64 cl, .int .i64 no], .bool md, .slice A9 L c9, .int .i64 ((k : Int) + (L : Int)), .int .i64 0]) ?_ rfl ⟨A9, c9, rfl, ?_, ?_⟩
      · rw [results_cell4 rfl]
        go_simp
      · exact ownsRow_setCell_other (ownsRow_setCell_other ho (hne 0) _) (hne 1) _
      · exact (hbel.setCell (Nat.le_refl _) _).setCell (Nat.le_refl _) _

theorem rtake_any (A : Option Addr) (n c : Nat) (l : List UInt8) (w : World) (h : Rd w A n c (bv l)) (hn : n ≤ 1000000) : Calls Try.prog 20 #[.slice A n c] w (TkOut w (tkOut l)) := by
  have hl := RdB.length h
  rcases thead_cases l with ⟨ee, he, ht⟩ | ⟨cl, no, md, L, k, ht, hk, hL, hne⟩
  · rw [tkOut_err he ht]
    refine (rtakeErr_any A n c l w h ee he ht).mono ?_
    rintro e w' ⟨rfl, hb⟩
    exact .err hb
  · by_cases hs : (l.length : Int) - (k : Int) < (L : Int)
    · rw [tkOut_short ht hs]
      refine (rtakeShort_any A n c l w h cl no md _ _ ht (by omega) (by omega) (by omega)).mono ?_
      rintro e w' ⟨rfl, hb⟩
      exact .err hb
    · rw [tkOut_ok ht hs]
      obtain ⟨b, o, rfl, _, _⟩ := RdB.at_ h (k := 0) (List.length_pos_iff.2 hne)
      refine (rtakeOk_any b o n c l w h cl no md L k ht (by omega) hn).mono ?_
      rintro e w' ⟨A', c', rfl, hf⟩
      have hlen : ((l.drop k).take L).length = L := by rw [List.length_take, List.length_drop]; omega
      refine ⟨A', c', ?_, ?_⟩
      · rw [hlen]
      · rw [hlen]
        exact hf
end Go.Proofs.Ytnbjkkhjphjdkaa
