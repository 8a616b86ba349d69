import Derived.Test.YtnbjkkhjphjdkaaOct8
namespace Go.Proofs.Ytnbjkkhjphjdkaa
open Go.RowKit

theorem refTakeGroups_any (A : Option Addr) (n c : Nat) (l : List UInt8) (w : World) (h : Rd w A n c (bv l)) :
    Calls Try.prog 31 #[.slice A n c] w fun e w' => e = .returned (.tuple #[.int .u64 (tg 0 0 l).1, .int .i64 (tg 0 0 l).2.1, .int .i64 (tg 0 0 l).2.2]) ∧ w = w' := by
  have hl := RdB.length h
  have hm := h.lenmax
  have H := hide h
  have HL := hide hl
  clear h hl
  go_enter Try.func31, Try.ntmps31
  go_wp2
  go_loop [6, 5] (TgRel n l) (fun i _ => n - (intOf i).toNat)
  case atStart => exact ⟨0, 0, Nat.zero_le _, rfl, rfl, by omega, by omega, by simp⟩
  case round =>
    obtain ⟨k, z, hk, rfl, rfl, hz0, hz⟩ := hrel
    by_cases hlt : k < n
    · have hkl : k < l.length := by have := HL.out; omega
      have hk0 : 0 < l.length := by omega
      obtain ⟨b, o, rfl, hb, hcell⟩ := RdB.at_ H.out hkl
      obtain ⟨b0, o0, hbo, hb0, hcell0⟩ := RdB.at_ H.out hk0
      cases hbo
      rw [Nat.add_zero] at hcell0
      have hcc0 := hide (show k = 0 → (l[0].toNat : Int) = (l[k].toNat : Int) by intro e; subst e; rfl)
      have hdrop : l.drop k = l[k] :: l.drop (k + 1) := List.drop_eq_getElem_cons hkl
      have T1 := hide (tg_form k z l[k] (l.drop (k + 1)))
      have T2 := hide (tg_end k z l[k] (l.drop (k + 1)))
      have T3 := hide (tg_next k z l[k] (l.drop (k + 1)))
      have T0 := hide (show tg 0 0 l = tg k z (l[k] :: l.drop (k + 1)) by rw [hz.out.2, hdrop])
      have hz1 := hz.out.1
      clear hz hdrop
      have hc1 := l[k].toNat_lt
      have hc0 : 0 ≤ (l[k].toNat : Int) ∧ (l[k].toNat : Int) < 256 := by omega
      clear hc1
      generalize (l[k].toNat : Int) = cc at *
      generalize (l[0].toNat : Int) = d0 at *
      have han := and127_u8 cc hc0.1 hc0.2
      have hwr : IntKind.u64.wrap (cc % 128) = cc % 128 := by rw [IntKind.wrap_u64]; omega
      have hcs : (((k : Int) == 0) = true ∧ (d0 == 128) = true) ∨ (((k : Int) == 0) = true ∧ (d0 == 128) = false) ∨ ((k : Int) == 0) = false := by
        cases ((k : Int) == 0) <;> cases (d0 == 128) <;> simp
      rcases hcs with ⟨hkk, hcc⟩ | ⟨hkk, hcc⟩ | hkk
      · have E := hide (T0.out.trans (T1.out (.inl ⟨by have := eq_of_beq hkk; omega, by have := eq_of_beq hcc; have := hcc0.out (by have := eq_of_beq hkk; omega); omega⟩)))
        clear T0 T1 T2 T3
        go_wp2
        go_ret3
        rw [E.out]
        exact ⟨rfl, rfl⟩
      all_goals
        by_cases hbig : 144115188075855872 ≤ z
        · have E := hide (T0.out.trans (T1.out (.inr hbig)))
          clear T0 T1 T2 T3
          go_wp2
          go_ret3
          rw [E.out]
          exact ⟨rfl, rfl⟩
        · have hz128 : z * 128 < 18446744073709551616 := by omega
          have hor := or_low7 z (cc % 128) hz0 hz128 (by omega) (by omega)
          have hneg : ¬ ((k = 0 ∧ cc = 128) ∨ 144115188075855872 ≤ z) := by
            rintro (⟨h1, h2⟩ | h)
            · first
                | (simp at hcc; have := hcc0.out h1; omega)
                | (simp at hkk; omega)
            · exact hbig h
          by_cases hend : cc < 128
          · have E := hide (T0.out.trans (T2.out hneg hend))
            clear T0 T1 T2 T3 hneg
            go_wp2
            go_ret3
            rw [E.out]
            exact ⟨rfl, rfl⟩
          · have E := hide (T0.out.trans (T3.out hneg hend))
            clear T0 T1 T2 T3 hneg
            go_wp2
            go_round
            case rel => exact ⟨_, z * 128 + cc % 128, by omega, by go_num, rfl, by omega, by omega, E.out⟩
            case measure => simp [intOf]; omega
    · have e : tg 0 0 l = (0, 0, 3) := by rw [hz.out.2, List.drop_eq_nil_of_le (by have := HL.out; omega)]; rfl
      have E := hide e
      clear e
      go_wp2
      go_ret3
      rw [E.out]
      exact ⟨rfl, rfl⟩

end Go.Proofs.Ytnbjkkhjphjdkaa
