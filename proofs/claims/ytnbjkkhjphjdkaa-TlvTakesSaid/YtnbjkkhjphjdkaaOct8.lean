import Derived.Test.YtnbjkkhjphjdkaaOct7
namespace Go.Proofs.Ytnbjkkhjphjdkaa
open Go.RowKit

/-- What is read of groups of seven bits: the number, how many groups, the fault. -/
def tg : Nat → Int → List UInt8 → Int × Int × Int
  | _, _, [] => (0, 0, 3)
  | k, v, c :: l =>
    if (k = 0 ∧ (c.toNat : Int) = 128) ∨ 144115188075855872 ≤ v then (0, 0, 4)
    else if (c.toNat : Int) < 128 then (v * 128 + (c.toNat : Int) % 128, (k : Int) + 1, 0)
    else tg (k + 1) (v * 128 + (c.toNat : Int) % 128) l

theorem tg_nil (k : Nat) (v : Int) : tg k v [] = (0, 0, 3) := rfl
theorem tg_form (k : Nat) (v : Int) (c : UInt8) (l : List UInt8) (h : (k = 0 ∧ (c.toNat : Int) = 128) ∨ 144115188075855872 ≤ v) : tg k v (c :: l) = (0, 0, 4) := by
  unfold tg
  rw [if_pos h]
theorem tg_end (k : Nat) (v : Int) (c : UInt8) (l : List UInt8) (h : ¬ ((k = 0 ∧ (c.toNat : Int) = 128) ∨ 144115188075855872 ≤ v)) (h1 : (c.toNat : Int) < 128) : tg k v (c :: l) = (v * 128 + (c.toNat : Int) % 128, (k : Int) + 1, 0) := by
  unfold tg
  rw [if_neg h, if_pos h1]
theorem tg_next (k : Nat) (v : Int) (c : UInt8) (l : List UInt8) (h : ¬ ((k = 0 ∧ (c.toNat : Int) = 128) ∨ 144115188075855872 ≤ v)) (h1 : ¬ (c.toNat : Int) < 128) : tg k v (c :: l) = tg (k + 1) (v * 128 + (c.toNat : Int) % 128) l := by
  conv => lhs; unfold tg
  rw [if_neg h, if_neg h1]

theorem or_low7 (z : Int) (c : Int) (h0 : 0 ≤ z) (h1 : z * 128 < 18446744073709551616) (hc0 : 0 ≤ c) (hc : c < 128) : bits BinOp.or IntKind.u64 (z * 128) c = z * 128 + c := by
  have h := bits_or_u64_nat (z * 128).toNat c.toNat (by omega) (by omega)
  rw [Int.toNat_of_nonneg (by omega), Int.toNat_of_nonneg hc0] at h
  rw [h]
  have e : (z * 128).toNat = 2 ^ 7 * z.toNat := by omega
  rw [e, ← Nat.two_pow_add_eq_or_of_lt (by omega)]
  omega
theorem and127_u8 (c : Int) (h0 : 0 ≤ c) (h1 : c < 256) : bits BinOp.and IntKind.u8 c 127 = c % 128 := by
  have h := and127 c
  rwa [show c % 256 = c from by omega] at h

def TgRel (n : Nat) (l : List UInt8) (i v : Value) : Prop :=
  ∃ (k : Nat) (z : Int), k ≤ n ∧ i = .int .i64 (k : Int) ∧ v = .int .u64 z ∧ 0 ≤ z ∧ Hid (z < 18446744073709551616 ∧ tg 0 0 l = tg k z (l.drop k))

theorem takeGroups_any (A : Option Addr) (n c : Nat) (l : List UInt8) (w : World) (h : Rd w A n c (bv l)) :
    Calls Try.prog 36 #[.slice A n c] w fun e w' => e = .returned (.tuple #[.int .u64 (tg 0 0 l).1, .int .i64 (tg 0 0 l).2.1, .int .i64 (tg 0 0 l).2.2]) ∧ w = w' := by
  have hl := RdB.length h
  have hm := h.lenmax
  have H := hide h
  have HL := hide hl
  clear h hl
  go_enter Try.func36, Try.ntmps36
  go_wp2
  go_loop [10, 5] (TgRel n l) (fun i _ => n - (intOf i).toNat)
  case atStart => exact ⟨0, 0, Nat.zero_le _, rfl, rfl, by omega, by omega, by simp⟩
  case round =>
    obtain ⟨k, z, hk, rfl, rfl, hz0, hz⟩ := hrel
    by_cases hlt : k < n
    · have hkl : k < l.length := by have := HL.out; omega
      obtain ⟨b, o, rfl, hb, hcell⟩ := RdB.at_ H.out hkl
      have hdrop : l.drop k = l[k] :: l.drop (k + 1) := List.drop_eq_getElem_cons hkl
      have T1 := hide (tg_form k z l[k] (l.drop (k + 1)))
      have T2 := hide (tg_end k z l[k] (l.drop (k + 1)))
      have T3 := hide (tg_next k z l[k] (l.drop (k + 1)))
      have T0 := hide (show tg 0 0 l = tg k z (l[k] :: l.drop (k + 1)) by rw [hz.out.2, hdrop])
      have hz1 := hz.out.1
      clear hz hdrop
      have hc1 := l[k].toNat_lt
      have hc0 : 0 ≤ (l[k].toNat : Int) ∧ (l[k].toNat : Int) < 256 := by omega
      clear hc1
      generalize (l[k].toNat : Int) = cc at *
      have han := and127_u8 cc hc0.1 hc0.2
      have hwr : IntKind.u64.wrap (cc % 128) = cc % 128 := by rw [IntKind.wrap_u64]; omega
      have hcs : (((k : Int) == 0) = true ∧ (cc == 128) = true) ∨ (((k : Int) == 0) = true ∧ (cc == 128) = false) ∨ ((k : Int) == 0) = false := by
        cases ((k : Int) == 0) <;> cases (cc == 128) <;> simp
      rcases hcs with ⟨hkk, hcc⟩ | ⟨hkk, hcc⟩ | hkk
      · have E := hide (T0.out.trans (T1.out (.inl ⟨by have := eq_of_beq hkk; omega, by have := eq_of_beq hcc; omega⟩)))
        clear T0 T1 T2 T3
        go_wp2
        go_ret3
        rw [E.out]
        exact ⟨rfl, rfl⟩
      all_goals
        by_cases hbig : 144115188075855872 ≤ z
        · have E := hide (T0.out.trans (T1.out (.inr hbig)))
          clear T0 T1 T2 T3
          have hq : (z / 144115188075855872 != 0) = true := by simp; omega
          go_wp2
          go_ret3
          rw [E.out]
          exact ⟨rfl, rfl⟩
        · have hq : (z / 144115188075855872 != 0) = false := by simp; omega
          have hz128 : z * 128 < 18446744073709551616 := by omega
          have hor := or_low7 z (cc % 128) hz0 hz128 (by omega) (by omega)
          have hneg : ¬ ((k = 0 ∧ cc = 128) ∨ 144115188075855872 ≤ z) := by
            rintro (⟨h1, h2⟩ | h)
            · first
                | (simp at hcc; exact hcc h2)
                | (simp at hkk; omega)
            · exact hbig h
          by_cases hend : cc < 128
          · have E := hide (T0.out.trans (T2.out hneg hend))
            clear T0 T1 T2 T3 hneg
            go_wp2
            go_ret3
            rw [E.out]
            exact ⟨rfl, rfl⟩
          · have E := hide (T0.out.trans (T3.out hneg hend))
            clear T0 T1 T2 T3 hneg
            go_wp2
            go_round
            case rel => exact ⟨_, z * 128 + cc % 128, by omega, by go_num, rfl, by omega, by omega, E.out⟩
            case measure => simp [intOf]; omega
    · have e : tg 0 0 l = (0, 0, 3) := by rw [hz.out.2, List.drop_eq_nil_of_le (by have := HL.out; omega)]; rfl
      have E := hide e
      clear e
      go_wp2
      go_ret3
      rw [E.out]
      exact ⟨rfl, rfl⟩

end Go.Proofs.Ytnbjkkhjphjdkaa
