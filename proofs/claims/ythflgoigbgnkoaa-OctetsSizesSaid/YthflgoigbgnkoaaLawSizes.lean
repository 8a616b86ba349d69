import Derived.Test.YthflgoigbgnkoaaAwake02
import Derived.Test.YthflgoigbgnkoaaOpen
namespace Go.Proofs.Ythflgoigbgnkoaa
open Go.RowKit

def SzS (v : Int) (w0 : World) (a k : Value) (wr : World) : Prop :=
  ∃ (j : Nat) (z : Int), j ≤ 7 ∧ a = .int .i64 ((j : Int) + 1) ∧ k = .int .i64 z ∧ wr = w0 ∧ Hid (z = v / 256 ^ j ∧ Pl.slenF 7 v = j + Pl.slenF (7 - j) (v / 256 ^ j))
def SzU (B : Int) (F : Nat) (u : Int) (w0 : World) (a k : Value) (wr : World) : Prop :=
  ∃ (j : Nat) (z : Int), j ≤ F ∧ a = .int .i64 ((j : Int) + 1) ∧ k = .int .u64 z ∧ 0 ≤ z ∧ z < 18446744073709551616 ∧ wr = w0 ∧ Hid (z = u / B ^ j / B ∧ Pl.dlenF B F u = j + Pl.dlenF B (F - j) (u / B ^ j))

theorem szU_step {B : Int} {F : Nat} {u : Int} {w0 wr : World} {j : Nat} {z : Int} (hB : 2 ≤ B) (h0 : 0 ≤ u) (hF : u < B ^ (F + 1)) (hj : j ≤ F) (hz : 0 < z) (hw : wr = w0) (hz1 : z < 18446744073709551616)
    (hs : z = u / B ^ j / B ∧ Pl.dlenF B F u = j + Pl.dlenF B (F - j) (u / B ^ j)) : SzU B F u w0 (.int .i64 ((j : Int) + 1 + 1)) (.int .u64 (z / B)) wr := by
  obtain ⟨h1, h2⟩ := hs
  have hp : 0 ≤ u / B ^ j := Int.ediv_nonneg h0 (Int.pow_nonneg (by omega))
  have e1 : u / B ^ j / B = u / B ^ (j + 1) := Pl.div_next u B (by omega) j
  have hlt : j < F := by
    by_cases h : j < F
    · exact h
    · obtain rfl : j = F := by omega
      rw [e1, Int.ediv_eq_zero_of_lt h0 hF] at h1
      omega
  have hge : ¬ u / B ^ j < B := by
    intro h
    rw [Int.ediv_eq_zero_of_lt hp h] at h1
    omega
  refine ⟨j + 1, z / B, by omega, by simp, rfl, Int.ediv_nonneg (by omega) (by omega), ?_, hw, ?_, ?_⟩
  · have := Int.ediv_le_self B (show 0 ≤ z by omega)
    omega
  · rw [h1, e1]
  · rw [h2, show F - j = (F - (j + 1)) + 1 from by omega, Pl.dlenF_ge B (F - (j + 1)) (u / B ^ j) hge, e1]
    omega
theorem szU_end {B : Int} {F : Nat} {u : Int} {j : Nat} {z : Int} (hB : 2 ≤ B) (h0 : 0 ≤ u) (hz : z = 0)
    (hs : z = u / B ^ j / B ∧ Pl.dlenF B F u = j + Pl.dlenF B (F - j) (u / B ^ j)) : Pl.dlenF B F u = j + 1 := by
  obtain ⟨h1, h2⟩ := hs
  have hp : 0 ≤ u / B ^ j := Int.ediv_nonneg h0 (Int.pow_nonneg (by omega))
  have hlt : u / B ^ j < B := by
    have hm := Int.emod_add_mul_ediv (u / B ^ j) B
    have hl := Int.emod_lt_of_pos (u / B ^ j) (show 0 < B by omega)
    rw [← h1, hz, Int.mul_zero] at hm
    omega
  rw [h2, Pl.dlenF_lt B (F - j) (u / B ^ j) hlt]

set_option maxHeartbeats 1600000 in
theorem octetsSizes_walk (v u : Int) (w : World) (hv : (Lit.int .i64 v).wf = true) (hu : (Lit.int .u64 u).wf = true) :
    Calls Try.prog 5 #[.int .i64 v, .int .u64 u] w fun e w' => e = .returned (.bool true) ∧ Below w.heap.size w w' := by
  have HV := hide (bd_i64 hv)
  obtain ⟨u0, u1⟩ := bd_u64 hu
  clear hv hu
  go_enter Try.func5, Try.ntmps5
  go_wp2
  go_loopw [5, 8] (SzS v w) (fun a _ _ => 8 - (intOf a).toNat)
  case atStart => exact ⟨0, v, by omega, rfl, rfl, rfl, by simp, by simp⟩
  case round =>
    obtain ⟨j, z, hj, rfl, rfl, rfl, hs⟩ := hrel
    by_cases hf : -128 ≤ z ∧ z ≤ 127
    · have hl : Hid (Pl.slenF 7 v = j + 1) := by
        obtain ⟨h1, h2⟩ := hs.out
        rw [h1] at hf
        rw [Pl.slenF_fit (7 - j) (v / 256 ^ j) hf] at h2
        exact h2
      obtain ⟨hf1, hf2⟩ := hf
      go_wp2
      obtain ⟨wo, rfl⟩ : ∃ wo : World, wo = wr := ⟨_, rfl⟩
      go_loopw [6, 9] (SzU 256 7 u wo) (fun _ z _ => (intOf z).toNat)
      case atStart => exact ⟨0, u / 256, by omega, rfl, rfl, by omega, by omega, rfl, by simp, by simp⟩
      case round =>
        obtain ⟨j2, z2, hj2, rfl, rfl, hz20, hz21, hw2, hs2⟩ := hrel
        have HW2 := hide hw2
        clear hw2
        by_cases hp2 : 0 < z2
        · go_wp2
          go_roundw
          case measure => simp [intOf]; omega
          case rel => exact szU_step (by omega) u0 (by omega) hj2 hp2 HW2.out hz21 hs2.out
        · have hl2 : Hid (Pl.dlenF 256 7 u = j2 + 1) := szU_end (by omega) u0 (by omega) hs2.out
          go_wp2
          obtain ⟨w3, rfl⟩ : ∃ w3 : World, w3 = wr := ⟨_, rfl⟩
          go_loopw [7, 10] (SzU 128 9 u w3) (fun _ z _ => (intOf z).toNat)
          case atStart => exact ⟨0, u / 128, by omega, rfl, rfl, by omega, by omega, rfl, by simp, by simp⟩
          case round =>
            obtain ⟨j3, z3, hj3, rfl, rfl, hz30, hz31, hw3, hs3⟩ := hrel
            have HW3 := hide hw3
            clear hw3
            by_cases hp3 : 0 < z3
            · go_wp2
              go_roundw
              case measure => simp [intOf]; omega
              case rel => exact szU_step (by omega) u0 (by omega) hj3 hp3 HW3.out hz31 hs3.out
            · have hl3 : Hid (Pl.dlenF 128 9 u = j3 + 1) := szU_end (by omega) u0 (by omega) hs3.out
              have hw : wr = wo := HW3.out.trans HW2.out
              go_wp2_with (fail)
              refine (signed_any v _).mono ?_
              rintro e w4 ⟨A1, c1, rfl, hf1'⟩
              rw [hl.out] at hf1' ⊢
              have hb1 := hf1'.below
              obtain ⟨b, o, rfl, hbl, hc0⟩ := RdB.at_ (l := Pl.be (j + 1) v) hf1'.rd (k := 0) (by rw [Pl.be_length]; omega)
              obtain ⟨X, hX, hXs⟩ : ∃ X : Int, (((Pl.be (j + 1) v)[0]'(by rw [Pl.be_length]; omega)).toNat : Int) = X ∧ (decide (128 ≤ X) = decide (v < 0)) := by
                refine ⟨_, rfl, ?_⟩
                have e0 : (Pl.be (j + 1) v)[0]'(by rw [Pl.be_length]; omega) = Pl.by8 (v / 256 ^ j) := by
                  have := Pl.be_cons j v
                  simp only [this, List.getElem_cons_zero]
                rw [e0, Pl.by8_val, ← hs.out.1]
                have hsg : z < 0 ↔ v < 0 := by
                  rw [hs.out.1]
                  constructor
                  · intro h
                    by_cases h0 : v < 0
                    · exact h0
                    · have := Int.ediv_nonneg (show 0 ≤ v by omega) (Int.le_of_lt (Int.pow_pos (show (0 : Int) < 256 by omega) : 0 < (256 : Int) ^ j))
                      omega
                  · intro h
                    exact Int.ediv_neg_of_neg_of_pos h (Int.pow_pos (by omega))
                rw [decide_eq_decide]
                constructor
                · intro h
                  exact hsg.1 (by omega)
                · intro h
                  have := hsg.2 h
                  omega
              rw [hX] at hc0
              clear hf1' hX
              have HXS := hide hXs
              clear hXs
              simp only [Nat.add_zero] at hc0
              go_wp2_with (fail)
              refine (awake02_any _).mono ?_
              rintro e w5 ⟨rfl, hb5⟩
              have hc5 := (hb5.cell (p := ⟨b, o, none⟩) hbl).trans hc0
              have hz5 : b < w5.heap.size := Nat.lt_of_lt_of_le hbl hb5.size
              clear hc0 hbl
              go_wp2_with (fail)
              refine (unsigned_any u u0 _).mono ?_
              rintro e w6 ⟨A2, c2, rfl, hf2'⟩
              rw [hl2.out] at hf2' ⊢
              have hb6 := hf2'.below
              have hc6 := (hb6.cell (p := ⟨b, o, none⟩) hz5).trans hc5
              have hz6 : b < w6.heap.size := Nat.lt_of_lt_of_le hz5 hb6.size
              clear hc5 hz5 hf2'
              go_wp2_with (fail)
              refine (groups_any u u0 u1 _).mono ?_
              rintro e w7 ⟨A3, c3, rfl, hf3'⟩
              rw [hl3.out] at hf3' ⊢
              have hb7 := hf3'.below
              have hc7 := (hb7.cell (p := ⟨b, o, none⟩) hz6).trans hc6
              clear hc6 hz6 hf3'
              have hbel := below_next (below_next (below_next hb1 hb5) hb6) hb7
              clear hb1 hb5 hb6 hb7
              go_wp2
              go_ret
              exact ⟨ret_bool (by rw [HXS.out]; simp), hw ▸ hbel⟩
    · have hj7 : j < 7 := by
        by_cases h : j < 7
        · exact h
        · obtain rfl : j = 7 := by omega
          obtain ⟨h1, _⟩ := hs.out
          obtain ⟨h3, h4⟩ := HV.out
          have e : (256 : Int) ^ 7 = 72057594037927936 := by decide
          rw [e] at h1
          omega
      by_cases hlo : z < -128
      all_goals
        go_wp2
        go_roundw
        case measure => simp [intOf]; omega
        case rel =>
          obtain ⟨h1, h2⟩ := hs.out
          refine ⟨j + 1, z / 256, by omega, by simp, rfl, rfl, ?_, ?_⟩
          · rw [h1, Pl.div_next v 256 (by omega)]
          · rw [h1] at hf
            rw [h2, show 7 - j = (7 - (j + 1)) + 1 from by omega, Pl.slenF_not (7 - (j + 1)) (v / 256 ^ j) (by omega), Pl.div_next v 256 (by omega)]
            omega

end Go.Proofs.Ythflgoigbgnkoaa
