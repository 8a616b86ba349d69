import Derived.Test.YtnbjkkhjphjdkaaTakeNum
namespace Go.Proofs.Ytnbjkkhjphjdkaa
open Go.RowKit

/-- A length: the length, how many octets it has, the fault. -/
def lenT : List UInt8 → Int × Int × Int
  | [] => (0, 0, 3)
  | c :: t =>
    if (c.toNat : Int) < 128 then ((c.toNat : Int), 1, 0)
    else if c.toNat - 128 = 0 ∨ 8 < c.toNat - 128 then (0, 0, 4)
    else if t.length < c.toNat - 128 then (0, 0, 3)
    else if takeUE (t.take (c.toNat - 128)) ≠ 0 ∨ takeUV (t.take (c.toNat - 128)) < 128 ∨ 2147483647 < takeUV (t.take (c.toNat - 128)) then (0, 0, 4)
    else (takeUV (t.take (c.toNat - 128)), 1 + ((c.toNat - 128 : Nat) : Int), 0)
theorem lenT_cons (c : UInt8) (t : List UInt8) : lenT (c :: t) =
    if (c.toNat : Int) < 128 then ((c.toNat : Int), 1, 0)
    else if c.toNat - 128 = 0 ∨ 8 < c.toNat - 128 then (0, 0, 4)
    else if t.length < c.toNat - 128 then (0, 0, 3)
    else if takeUE (t.take (c.toNat - 128)) ≠ 0 ∨ takeUV (t.take (c.toNat - 128)) < 128 ∨ 2147483647 < takeUV (t.take (c.toNat - 128)) then (0, 0, 4)
    else (takeUV (t.take (c.toNat - 128)), 1 + ((c.toNat - 128 : Nat) : Int), 0) := rfl

theorem lengthNil_any (A : Option Addr) (c : Nat) (w : World) :
    Calls Try.prog 30 #[.slice A 0 c] w fun e w' => e = .returned (.tuple #[.int .i64 0, .int .i64 0, .int .i64 3]) ∧ w = w' := by
  go_enter Try.func30, Try.ntmps30
  go_wp2
  go_ret3
  exact ⟨rfl, rfl⟩

set_option maxHeartbeats 800000 in
theorem lengthCons_any (A : Option Addr) (n c : Nat) (x : UInt8) (t : List UInt8) (w : World) (h : Rd w A n c (bv (x :: t))) :
    Calls Try.prog 30 #[.slice A n c] w fun e w' => e = .returned (.tuple #[.int .i64 (lenT (x :: t)).1, .int .i64 (lenT (x :: t)).2.1, .int .i64 (lenT (x :: t)).2.2]) ∧ w = w' := by
  have hl := RdB.length h
  have hm := h.lenmax
  have hcap := h.cap
  have hcx := h.max
  rw [List.length_cons] at hl
  obtain ⟨b, o, rfl, hb, hcell⟩ := RdB.at_ h (k := 0) (by simp)
  simp only [Nat.add_zero, List.getElem_cons_zero] at hcell
  have htl := h.drop (k := 1) (by omega)
  rw [bv_drop, List.drop_succ_cons, List.drop_zero] at htl
  have hx := x.toNat_lt
  have hx2 : 0 ≤ (x.toNat : Int) ∧ (x.toNat : Int) < 256 := by omega
  have ha := andNot128 (x.toNat : Int) hx2.1 hx2.2
  rw [lenT_cons]
  clear h
  have hn2 : 0 < n := by omega
  by_cases h128 : (x.toNat : Int) < 128
  · rw [if_pos h128]
    generalize (x.toNat : Int) = cc at *
    clear htl hl
    go_enter Try.func30, Try.ntmps30
    go_wp2
    go_ret3
    exact ⟨rfl, rfl⟩
  · rw [if_neg h128]
    obtain ⟨k, hk⟩ : ∃ k, x.toNat - 128 = k := ⟨_, rfl⟩
    rw [hk]
    have hk2 : (x.toNat : Int) % 128 = (k : Int) := by omega
    rw [hk2] at ha
    have hk3 : k < 128 := by omega
    generalize (x.toNat : Int) = cc at *
    clear hk hk2 hx
    by_cases hz : k = 0 ∨ 8 < k
    · rw [if_pos hz]
      clear htl hl
      have hz2 : ((k : Int) == 0) = true ∨ (((k : Int) == 0) = false ∧ 8 < k) := by
        rcases hz with h | h
        · left
          simp [h]
        · right
          exact ⟨by simp; omega, h⟩
      clear hz
      rcases hz2 with hz2 | ⟨hz2, hz3⟩
      all_goals
        go_enter Try.func30, Try.ntmps30
        go_wp2
        go_ret3
        exact ⟨rfl, rfl⟩
    · rw [if_neg hz]
      have hz2 : ((k : Int) == 0) = false := by simp; omega
      have hz3 : k ≤ 8 := by omega
      have hz4 : 1 ≤ k := by omega
      clear hz
      by_cases hs : t.length < k
      · rw [if_pos hs]
        have hs2 : n ≤ k := by omega
        clear htl hl hs
        go_enter Try.func30, Try.ntmps30
        go_wp2
        go_ret3
        exact ⟨rfl, rfl⟩
      · rw [if_neg hs]
        have hs2 : ¬ n ≤ k := by omega
        have hc1 : ¬ c = 1 := by omega
        have hs3 : 1 + k ≤ n := by omega
        have hs4 : 1 + k ≤ c := by omega
        have htk := htl.take (k := k) (by omega)
        rw [bv_take] at htk
        have k1 := hide (takeUnsigned_any _ _ _ (t.take k) w htk)
        clear htl htk hl hs
        generalize takeUV (t.take k) = v at *
        generalize takeUE (t.take k) = te at *
        by_cases hte : te = 0
        · subst hte
          by_cases hv : v < 128
          · rw [if_pos (.inr (.inl hv))]
            go_enter Try.func30, Try.ntmps30
            go_wp2_with (fail)
            refine k1.out.mono ?_
            rintro e w1 ⟨rfl, rfl⟩
            go_wp2
            go_ret3
            exact ⟨rfl, rfl⟩
          · by_cases hv2 : 2147483647 < v
            · rw [if_pos (.inr (.inr hv2))]
              go_enter Try.func30, Try.ntmps30
              go_wp2_with (fail)
              refine k1.out.mono ?_
              rintro e w1 ⟨rfl, rfl⟩
              go_wp2
              go_ret3
              exact ⟨rfl, rfl⟩
            · rw [if_neg (by simp; omega)]
              go_enter Try.func30, Try.ntmps30
              go_wp2_with (fail)
              refine k1.out.mono ?_
              rintro e w1 ⟨rfl, rfl⟩
              go_wp2
              go_ret3
              exact ⟨rfl, rfl⟩
        · rw [if_pos (.inl hte)]
          have hte2 : (te != 0) = true := by simp [hte]
          clear hte
          go_enter Try.func30, Try.ntmps30
          go_wp2_with (fail)
          refine k1.out.mono ?_
          rintro e w1 ⟨rfl, rfl⟩
          go_wp2
          go_ret3
          exact ⟨rfl, rfl⟩

theorem length_any (A : Option Addr) (n c : Nat) (l : List UInt8) (w : World) (h : Rd w A n c (bv l)) :
    Calls Try.prog 30 #[.slice A n c] w fun e w' => e = .returned (.tuple #[.int .i64 (lenT l).1, .int .i64 (lenT l).2.1, .int .i64 (lenT l).2.2]) ∧ w = w' := by
  match l, h with
  | [], h =>
    obtain rfl : n = 0 := by have := RdB.length h; simpa using this
    exact lengthNil_any A c w
  | x :: t, h => exact lengthCons_any A n c x t w h

end Go.Proofs.Ytnbjkkhjphjdkaa
