import Derived.Test.YtnbjkkhjphjdkaaElem
namespace Go.Proofs.Ytnbjkkhjphjdkaa
open Go.RowKit

theorem and31_fin : ∀ n : Fin 256, bits BinOp.and IntKind.u8 (n.val : Int) 31 = ((n.val % 32 : Nat) : Int) := by decide +kernel
theorem and31 (c : Int) (h0 : 0 ≤ c) (h1 : c < 256) : bits BinOp.and IntKind.u8 c 31 = c % 32 := by
  have h := and31_fin ⟨c.toNat, by omega⟩
  simp only at h
  rw [show ((c.toNat : Nat) : Int) = c by omega] at h
  rw [h]
  omega
theorem andNot128_fin : ∀ n : Fin 256, bits BinOp.andNot IntKind.u8 (n.val : Int) 128 = ((n.val % 128 : Nat) : Int) := by decide +kernel
theorem andNot128 (c : Int) (h0 : 0 ≤ c) (h1 : c < 256) : bits BinOp.andNot IntKind.u8 c 128 = c % 128 := by
  have h := andNot128_fin ⟨c.toNat, by omega⟩
  simp only at h
  rw [show ((c.toNat : Nat) : Int) = c by omega] at h
  rw [h]
  omega

theorem Rd.drop {w : World} {b o n c : Nat} {xs : List Value} (h : Rd w (some ⟨b, o, none⟩) n c xs) {k : Nat} (hk : k ≤ n) : Rd w (some ⟨b, o + k, none⟩) (n - k) (c - k) (xs.drop k) := by
  refine ⟨by have := h.1; simp; omega, by have := h.cap; omega, by have := h.2.2.1; omega, fun hn => ⟨b, o + k, rfl, fun i u hu => ?_⟩⟩
  obtain ⟨b', o', e, hc⟩ := h.2.2.2 (by omega)
  cases e
  rw [List.getElem?_drop] at hu
  have := hc (k + i) u hu
  rwa [← Nat.add_assoc] at this
theorem Rd.dropIf {w : World} {b o n c : Nat} {xs : List Value} (h : Rd w (some ⟨b, o, none⟩) n c xs) {k : Nat} (hk : k ≤ n) : Rd w (if c = k then some ⟨b, o, none⟩ else some ⟨b, o + k, none⟩) (n - k) (c - k) (xs.drop k) := by
  split
  · rename_i e
    have := h.cap
    have h1 := h.1
    rw [show n - k = 0 by omega, List.drop_eq_nil_of_le (by omega)]
    exact Rd.nil _ _ _ (by have := h.2.2.1; omega)
  · exact h.drop hk

/-- The number of a tag: the number, how many octets it has behind the first one, the fault. -/
def numT : List UInt8 → Int × Int × Int
  | [] => (0, 0, 0)
  | c :: t =>
    if (c.toNat : Int) % 32 < 31 then ((c.toNat : Int) % 32, 0, 0)
    else if (tg 0 0 t).2.2 ≠ 0 then (0, 0, (tg 0 0 t).2.2)
    else if (tg 0 0 t).1 < 31 ∨ 268435456 < (tg 0 0 t).1 then (0, 0, 4)
    else ((tg 0 0 t).1, (tg 0 0 t).2.1, 0)

theorem numT_cons (c : UInt8) (t : List UInt8) : numT (c :: t) =
    if (c.toNat : Int) % 32 < 31 then ((c.toNat : Int) % 32, 0, 0)
    else if (tg 0 0 t).2.2 ≠ 0 then (0, 0, (tg 0 0 t).2.2)
    else if (tg 0 0 t).1 < 31 ∨ 268435456 < (tg 0 0 t).1 then (0, 0, 4)
    else ((tg 0 0 t).1, (tg 0 0 t).2.1, 0) := rfl

set_option maxHeartbeats 800000 in
theorem number_any (A : Option Addr) (n c : Nat) (x : UInt8) (t : List UInt8) (w : World) (h : Rd w A n c (bv (x :: t))) :
    Calls Try.prog 29 #[.slice A n c] w fun e w' => e = .returned (.tuple #[.int .i64 (numT (x :: t)).1, .int .i64 (numT (x :: t)).2.1, .int .i64 (numT (x :: t)).2.2]) ∧ w = w' := by
  have hl := RdB.length h
  have hm := h.lenmax
  have hcap := h.cap
  have hcx := h.max
  rw [List.length_cons] at hl
  obtain ⟨b, o, rfl, hb, hcell⟩ := RdB.at_ h (k := 0) (by simp)
  simp only [Nat.add_zero, List.getElem_cons_zero] at hcell
  have htl := h.dropIf (k := 1) (by omega)
  rw [bv_drop, List.drop_succ_cons, List.drop_zero] at htl
  have k1 := hide (fun A n c (h : Rd w A n c (bv t)) => takeGroups_any A n c t w h)
  have HT := hide htl
  have hx := x.toNat_lt
  have hx2 : 0 ≤ (x.toNat : Int) ∧ (x.toNat : Int) < 256 := by omega
  have ha := and31 (x.toNat : Int) hx2.1 hx2.2
  clear h htl hx
  rw [numT_cons]
  generalize (x.toNat : Int) = cc at *
  generalize (tg 0 0 t).1 = v at *
  generalize (tg 0 0 t).2.1 = m at *
  generalize (tg 0 0 t).2.2 = te at *
  have hn1 : (1 : Int) ≤ (n : Int) := by omega
  have hn2 : 0 < n := by omega
  have HL := hide hl
  clear hl
  rcases (show (c = 1) ∨ ¬ c = 1 by omega) with rfl | hc1
  all_goals
    first
      | (rw [if_pos rfl] at HT; obtain rfl : n = 1 := (by omega); simp only [Nat.sub_self] at HT)
      | rw [if_neg hc1] at HT
    by_cases h31 : cc % 32 < 31
    · rw [if_pos h31]
      go_enter Try.func29, Try.ntmps29
      go_wp2
      go_ret3
      exact ⟨rfl, rfl⟩
    · rw [if_neg h31]
      by_cases hte : te = 0
      · subst hte
        rw [if_neg (by simp)]
        by_cases hv : v < 31
        · rw [if_pos (.inl hv)]
          go_enter Try.func29, Try.ntmps29
          go_wp2_with (fail)
          refine (k1.out _ _ _ HT.out).mono ?_
          rintro e w1 ⟨rfl, rfl⟩
          go_wp2
          go_ret3
          exact ⟨rfl, rfl⟩
        · by_cases hv2 : 268435456 < v
          · rw [if_pos (.inr hv2)]
            go_enter Try.func29, Try.ntmps29
            go_wp2_with (fail)
            refine (k1.out _ _ _ HT.out).mono ?_
            rintro e w1 ⟨rfl, rfl⟩
            go_wp2
            go_ret3
            exact ⟨rfl, rfl⟩
          · rw [if_neg (by omega)]
            go_enter Try.func29, Try.ntmps29
            go_wp2_with (fail)
            refine (k1.out _ _ _ HT.out).mono ?_
            rintro e w1 ⟨rfl, rfl⟩
            go_wp2
            go_ret3
            exact ⟨rfl, rfl⟩
      · rw [if_pos hte]
        have hte2 : (te != 0) = true := by simp [hte]
        clear hte
        go_enter Try.func29, Try.ntmps29
        go_wp2_with (fail)
        refine (k1.out _ _ _ HT.out).mono ?_
        rintro e w1 ⟨rfl, rfl⟩
        go_wp2
        go_ret3
        exact ⟨rfl, rfl⟩

end Go.Proofs.Ytnbjkkhjphjdkaa
