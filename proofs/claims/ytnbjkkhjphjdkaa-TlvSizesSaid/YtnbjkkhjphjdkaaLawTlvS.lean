import Derived.Test.YtnbjkkhjphjdkaaPlHead
namespace Go.Proofs.Ytnbjkkhjphjdkaa
open Go.RowKit

theorem mod_nat (x : Int) (M : Int) (hM : 0 < M) : ∃ k : Int, 0 ≤ k ∧ k < M ∧ (IntKind.u64.wrap x).tmod M = k := by
  have h0 : 0 ≤ IntKind.u64.wrap x := wrap_u64_nonneg x
  exact ⟨_, Int.tmod_nonneg M h0, Int.tmod_lt_of_pos _ hM, rfl⟩

def Sz2 (B : Int) (F : Nat) (u c : Int) (w0 : World) (a k : Value) (wr : World) : Prop :=
  ∃ (j : Nat) (z : Int), j ≤ F + 1 ∧ a = .int .i64 (c + (j : Int)) ∧ k = .int .i64 z ∧ 0 ≤ z ∧ z ≤ 2147483648 ∧ wr = w0 ∧ Hid (z = u / B ^ j ∧ (0 < z → Pl.dlenF B F u = j + Pl.dlenF B (F - j) z) ∧ (z = 0 → Pl.dlenF B F u = j))

theorem sz2_step {B : Int} {F : Nat} {u c : Int} {w0 wr : World} {j : Nat} {z : Int} (hB : 2 ≤ B) (h0 : 0 ≤ u) (hF : u < B ^ (F + 1)) (_hj : j ≤ F + 1) (hz : 0 < z) (hz1 : z ≤ 2147483648) (hw : wr = w0)
    (hs : z = u / B ^ j ∧ (0 < z → Pl.dlenF B F u = j + Pl.dlenF B (F - j) z) ∧ (z = 0 → Pl.dlenF B F u = j)) : Sz2 B F u c w0 (.int .i64 (c + (j : Int) + 1)) (.int .i64 (z / B)) wr := by
  obtain ⟨h1, h2, _⟩ := hs
  have h3 := h2 hz
  have hp : (0 : Int) < B ^ j := Int.pow_pos (by omega)
  have e1 : z / B = u / B ^ (j + 1) := by rw [h1]; exact Pl.div_next u B (by omega) j
  have hjF : j ≤ F := by
    by_cases h : j ≤ F
    · exact h
    · obtain rfl : j = F + 1 := by omega
      rw [Int.ediv_eq_zero_of_lt h0 hF] at h1
      omega
  have hd0 : 0 ≤ z / B := Int.ediv_nonneg (by omega) (by omega)
  have hd1 : z / B ≤ z := Int.ediv_le_self B (by omega)
  refine ⟨j + 1, z / B, by omega, by rw [show ((j + 1 : Nat) : Int) = (j : Int) + 1 by omega, Int.add_assoc], rfl, hd0, by omega, hw, e1, fun hpos => ?_, fun hzero => ?_⟩
  · have hge : ¬ z < B := fun h => by
      rw [Int.ediv_eq_zero_of_lt (by omega) h] at hpos
      omega
    have hlt : j < F := by
      by_cases h : j < F
      · exact h
      · obtain rfl : j = F := by omega
        have : z < B := by
          rw [h1, Int.ediv_lt_iff_lt_mul hp, Int.mul_comm, ← Int.pow_succ]
          exact hF
        omega
    rw [show F - j = (F - (j + 1)) + 1 by omega, Pl.dlenF_ge B (F - (j + 1)) z hge] at h3
    omega
  · have hlt : z < B := by
      by_cases h : z < B
      · exact h
      · have : 1 ≤ z / B := (Int.le_ediv_iff_mul_le (by omega)).2 (by omega)
        omega
    rw [Pl.dlenF_lt B (F - j) z hlt] at h3
    omega

theorem headL_len (cl no : Int) (made : Bool) (len : Int) (n0 : 0 ≤ no) (l0 : 0 ≤ len) : (headL cl no made len).length = (if no < 31 then 1 else 1 + Pl.dlenF 128 9 no) + (if len < 128 then 1 else 1 + Pl.dlenF 256 7 len) := by
  unfold headL
  rw [show max no 0 = no by omega, show max len 0 = len by omega, List.length_append]
  congr 1
  · by_cases h : no < 31
    · rw [hd1_small _ _ h, if_pos h]
      rfl
    · rw [hd1_big _ _ h, if_neg h]
      simp [Pl.gr_length]
      omega
  · by_cases h : len < 128
    · rw [hd2_small _ h, if_pos h]
      rfl
    · rw [hd2_big _ h, if_neg h]
      simp [Pl.be_length]
      omega

set_option maxHeartbeats 3200000 in
theorem tlvSizes_walk (cl no len : Int) (made : Bool) (w : World) (_hc : (Lit.int .i64 cl).wf = true) (_hn : (Lit.int .i64 no).wf = true) (_hl : (Lit.int .i64 len).wf = true) :
    Calls Try.prog 4 #[.int .i64 cl, .int .i64 no, .int .i64 len, .bool made] w fun e w' => e = .returned (.bool true) ∧ Below w.heap.size w w' := by
  clear _hc _hn _hl
  obtain ⟨N, N0, N1, hT1⟩ := mod_nat no 268435457 (by omega)
  obtain ⟨L, L0, L1, hT2⟩ := mod_nat len 2147483648 (by omega)
  have ha3 := i64_and3 cl
  have kH := hide (fun w => head_any cl N L made w (by omega) (by omega))
  have kT := hide (fun A n c w h => takeHead_any A n c (headL cl N made L) w h)
  have hth := thead_headL cl N made L [] N0 (by omega) L0 (by omega)
  rw [List.append_nil] at hth
  rw [hth] at kT
  simp only at kT
  have hlen := hide (headL_len cl N made L N0 L0)
  clear hth
  generalize (headL cl N made L).length = m at *
  generalize headL cl N made L = hl at *
  by_cases hN : N < 31
  · by_cases hL : L < 128
    · go_enter Try.func4, Try.ntmps4
      have hm : ((m : Int) == 2) = true := by have := hlen.out; rw [if_pos (show N < 31 by omega), if_pos (show L < 128 by omega)] at this; simp; omega
      go_wp2_with (fail)
      refine (kH.out _).mono ?_
      rintro e w1 ⟨A1, c1, rfl, hf1⟩
      have hb1 := hf1.below
      have hr1 := hf1.rd
      clear hf1
      go_wp2_with (fail)
      refine (kT.out _ _ _ _ hr1).mono ?_
      rintro e w2 ⟨rfl, hb2⟩
      have hb12 := below_next hb1 hb2
      clear hb1 hb2 hr1
      go_wp2_with (fail)
      refine (awake03_any _).mono ?_
      rintro e w3 ⟨rfl, hb3⟩
      have hcell0 := (hb3.cell (p := ⟨w2.heap.size, 0, none⟩) (by simp)).trans (show _ = some (Value.int .i64 (cl % 4)) by simp)
      have hcell1 := (hb3.cell (p := ⟨w2.heap.size, 1, none⟩) (by simp)).trans (show _ = some (Value.int .i64 N) by simp)
      have hend := below_next hb12 (below_call hb3)
      clear hb12 hb3
      go_wp2
      go_ret
      exact ⟨ret_bool (by simp), hend⟩
    · go_enter Try.func4, Try.ntmps4
      go_wp2
      go_loopw [9, 11] (Sz2 256 7 L 2 w) (fun _ z _ => (intOf z).toNat)
      case atStart => exact ⟨0, L, by omega, by simp, rfl, by omega, by omega, rfl, by simp, fun _ => by simp, fun h => by omega⟩
      case round =>
        obtain ⟨i, y, hi, rfl, rfl, hy0, hy1, hw2, hs2⟩ := hrel
        have HW2 := hide hw2
        clear hw2
        by_cases hp2 : 0 < y
        · go_wp2
          go_roundw
          case measure => simp [intOf]; omega
          case rel => exact sz2_step (by omega) L0 (by have e : (256 : Int) ^ (7 + 1) = 18446744073709551616 := by decide
                                                       omega) hi hp2 hy1 HW2.out hs2.out
        · have hl2 : Hid (Pl.dlenF 256 7 L = i) := hs2.out.2.2 (by omega)
          obtain rfl : w = wr := HW2.out.symm
          clear HW2
          have hm : ((m : Int) == 2 + (i : Int)) = true := by have := hlen.out; rw [if_pos (show N < 31 by omega), if_neg (show ¬ L < 128 by omega), hl2.out] at this; simp; omega
          go_wp2_with (fail)
          refine (kH.out _).mono ?_
          rintro e w1 ⟨A1, c1, rfl, hf1⟩
          have hb1 := hf1.below
          have hr1 := hf1.rd
          clear hf1
          go_wp2_with (fail)
          refine (kT.out _ _ _ _ hr1).mono ?_
          rintro e w2 ⟨rfl, hb2⟩
          have hb12 := below_next hb1 hb2
          clear hb1 hb2 hr1
          go_wp2_with (fail)
          refine (awake03_any _).mono ?_
          rintro e w3 ⟨rfl, hb3⟩
          have hcell0 := (hb3.cell (p := ⟨w2.heap.size, 0, none⟩) (by simp)).trans (show _ = some (Value.int .i64 (cl % 4)) by simp)
          have hcell1 := (hb3.cell (p := ⟨w2.heap.size, 1, none⟩) (by simp)).trans (show _ = some (Value.int .i64 N) by simp)
          have hend := below_next hb12 (below_call hb3)
          clear hb12 hb3
          go_wp2
          go_ret
          exact ⟨ret_bool (by simp), hend⟩
  · by_cases hL : L < 128
    all_goals
      go_enter Try.func4, Try.ntmps4
      go_wp2
      go_loopw [9, 10] (Sz2 128 9 N 2 w) (fun _ z _ => (intOf z).toNat)
      case atStart => exact ⟨0, N, by omega, by simp, rfl, by omega, by omega, rfl, by simp, fun _ => by simp, fun h => by omega⟩
      case round =>
        obtain ⟨j, z, hj, rfl, rfl, hz0, hz1, hw1, hs1⟩ := hrel
        have HW1 := hide hw1
        clear hw1
        by_cases hp1 : 0 < z
        · go_wp2
          go_roundw
          case measure => simp [intOf]; omega
          case rel => exact sz2_step (by omega) N0 (by have e : (128 : Int) ^ (9 + 1) = 1180591620717411303424 := by decide
                                                       omega) hj hp1 hz1 HW1.out hs1.out
        · have hl1 : Hid (Pl.dlenF 128 9 N = j) := hs1.out.2.2 (by omega)
          obtain rfl : w = wr := HW1.out.symm
          clear HW1
          first
            | (have hL0 : L < 128 := (by omega)
               have hm : ((m : Int) == 2 + (j : Int)) = true := by have := hlen.out; rw [if_neg (show ¬ N < 31 by omega), if_pos (show L < 128 by omega), hl1.out] at this; simp; omega
               go_wp2_with (fail)
               refine (kH.out _).mono ?_
               rintro e w1 ⟨A1, c1, rfl, hf1⟩
               have hb1 := hf1.below
               have hr1 := hf1.rd
               clear hf1
               go_wp2_with (fail)
               refine (kT.out _ _ _ _ hr1).mono ?_
               rintro e w2 ⟨rfl, hb2⟩
               have hb12 := below_next hb1 hb2
               clear hb1 hb2 hr1
               go_wp2_with (fail)
               refine (awake03_any _).mono ?_
               rintro e w3 ⟨rfl, hb3⟩
               have hcell0 := (hb3.cell (p := ⟨w2.heap.size, 0, none⟩) (by simp)).trans (show _ = some (Value.int .i64 (cl % 4)) by simp)
               have hcell1 := (hb3.cell (p := ⟨w2.heap.size, 1, none⟩) (by simp)).trans (show _ = some (Value.int .i64 N) by simp)
               have hend := below_next hb12 (below_call hb3)
               clear hb12 hb3
               go_wp2
               go_ret
               exact ⟨ret_bool (by simp), hend⟩)
            | (have hL0 : ¬ L < 128 := (by omega)
               go_wp2
               go_loopw [9, 11] (Sz2 256 7 L (2 + (j : Int)) w) (fun _ z _ => (intOf z).toNat)
               case atStart => exact ⟨0, L, by omega, by simp, rfl, by omega, by omega, rfl, by simp, fun _ => by simp, fun h => by omega⟩
               case round =>
                 obtain ⟨i, y, hi, rfl, rfl, hy0, hy1, hw2, hs2⟩ := hrel
                 have HW2 := hide hw2
                 clear hw2
                 by_cases hp2 : 0 < y
                 · go_wp2
                   go_roundw
                   case measure => simp [intOf]; omega
                   case rel => exact sz2_step (by omega) L0 (by have e : (256 : Int) ^ (7 + 1) = 18446744073709551616 := by decide
                                                                omega) hi hp2 hy1 HW2.out hs2.out
                 · have hl2 : Hid (Pl.dlenF 256 7 L = i) := hs2.out.2.2 (by omega)
                   obtain rfl : w = wr := HW2.out.symm
                   clear HW2
                   have hm : ((m : Int) == 2 + (j : Int) + (i : Int)) = true := by have := hlen.out; rw [if_neg (show ¬ N < 31 by omega), if_neg (show ¬ L < 128 by omega), hl1.out, hl2.out] at this; simp; omega
                   go_wp2_with (fail)
                   refine (kH.out _).mono ?_
                   rintro e w1 ⟨A1, c1, rfl, hf1⟩
                   have hb1 := hf1.below
                   have hr1 := hf1.rd
                   clear hf1
                   go_wp2_with (fail)
                   refine (kT.out _ _ _ _ hr1).mono ?_
                   rintro e w2 ⟨rfl, hb2⟩
                   have hb12 := below_next hb1 hb2
                   clear hb1 hb2 hr1
                   go_wp2_with (fail)
                   refine (awake03_any _).mono ?_
                   rintro e w3 ⟨rfl, hb3⟩
                   have hcell0 := (hb3.cell (p := ⟨w2.heap.size, 0, none⟩) (by simp)).trans (show _ = some (Value.int .i64 (cl % 4)) by simp)
                   have hcell1 := (hb3.cell (p := ⟨w2.heap.size, 1, none⟩) (by simp)).trans (show _ = some (Value.int .i64 N) by simp)
                   have hend := below_next hb12 (below_call hb3)
                   clear hb12 hb3
                   go_wp2
                   go_ret
                   exact ⟨ret_bool (by simp), hend⟩)

end Go.Proofs.Ytnbjkkhjphjdkaa
