import Derived.Test.YtikfogepdmpfaaaRed7
namespace Go.Proofs.Ytikfogepdmpfaaa
open Go.RowKit

set_option maxHeartbeats 800000 in
theorem bits_nil (v n : Int) (w : World) :
    Calls Try.prog 18 #[.pointer none, .int .u32 v, .int .i64 n] w fun e w' => e = .returned (.tuple #[]) ∧ w = w' := by
  have hm := cl32_le n
  have kB := hide (fun w => bounded_any n w)
  have kN := hide (fun v w => bit_nil v w)
  generalize cl32 n = m at *
  go_enter Try.func18, Try.ntmps18
  go_wp2_with (fail)
  refine (kB.out _).mono ?_
  rintro e w' ⟨rfl, rfl⟩
  go_wp2_with (fail)
  go_loop [6] (fun kk => ∃ j : Nat, j ≤ m ∧ kk = .int .i64 ((m : Int) - 1 - (j : Int))) (fun kk => (intOf kk + 1).toNat)
  case atStart => exact ⟨0, Nat.zero_le _, by simp⟩
  case round =>
    obtain ⟨j, hj, rfl⟩ := hrel
    by_cases hlt : j < m
    · obtain ⟨k, hk⟩ : ∃ k, m - 1 - j = k := ⟨_, rfl⟩
      have hk2 : (m : Int) - 1 - (j : Int) = (k : Int) := by omega
      have hk0 : (0 : Int) ≤ (k : Int) := by omega
      have hk31 : (k : Int) ≤ 31 := by omega
      rw [hk2]
      have HK := hide hk
      clear hk hk2
      go_wp2_with (fail)
      refine (kN.out _ _).mono ?_
      rintro e w2 ⟨rfl, rfl⟩
      go_wp2
      go_round
      case rel =>
        refine ⟨j + 1, hlt, ?_⟩
        have := HK.out
        have e : (k : Int) - 1 = (m : Int) - 1 - ((j + 1 : Nat) : Int) := by omega
        rw [e]
      case measure => simp [intOf]
    · obtain rfl : j = m := by omega
      have e1 : (j : Int) - 1 - (j : Int) = -1 := by omega
      rw [e1]
      clear e1
      go_wp2
      refine bodyPost_end (results_none rfl _ _ _) rfl ?_
      exact ⟨rfl, rfl⟩

set_option maxHeartbeats 800000 in
theorem octs_nil (A : Option Addr) (n c : Nat) (ls : List (List UInt8)) (w : World) (h : RdP w A n c ls) :
    Calls Try.prog 21 #[.pointer none, .slice A n c] w fun e w' => e = .returned (.tuple #[]) ∧ w = w' := by
  have kN := hide (fun v n w => bits_nil v n w)
  have H := hide h
  have hm := h.lenmax
  have hln := hide h.length
  clear h
  go_enter Try.func21, Try.ntmps21
  go_wp2
  go_loop [10] (fun i => ∃ k : Nat, k ≤ n ∧ i = .int .i64 (k : Int)) (fun i => n - (intOf i).toNat)
  case atStart => exact ⟨0, Nat.zero_le _, rfl⟩
  case round =>
    obtain ⟨i, hi, rfl⟩ := hrel
    by_cases hlt : i < n
    · have hil : i < ls.length := by have := hln.out; omega
      obtain ⟨b, o, A', n', c', rfl, hbz, hcell, hrd⟩ := H.out.at_ hil
      have hm' := hrd.lenmax
      have hl' := hide (RdB.length hrd)
      have HRD := hide hrd
      clear hrd
      generalize ls[i] = a at *
      go_wp2
      go_loop [16] (fun i => ∃ k : Nat, k ≤ n' ∧ i = .int .i64 (k : Int)) (fun i => n' - (intOf i).toNat)
      case atStart => exact ⟨0, Nat.zero_le _, rfl⟩
      case round =>
        obtain ⟨k, hk, rfl⟩ := hrel
        by_cases hlt2 : k < n'
        · have hka : k < a.length := by have := hl'.out; omega
          obtain ⟨b2, o2, rfl, hbz2, hcell2⟩ := RdB.at_ HRD.out hka
          have hc1 := a[k].toNat_lt
          have hc0 : 0 ≤ (a[k].toNat : Int) ∧ (a[k].toNat : Int) < 256 := by omega
          generalize (a[k].toNat : Int) = cc at *
          clear hc1
          go_wp2_with (fail)
          refine (kN.out _ _ _).mono ?_
          rintro e w2 ⟨rfl, rfl⟩
          go_wp2
          go_round
          case rel => exact ⟨k + 1, by omega, by go_num⟩
          case measure => simp [intOf]; omega
        · go_wp2
          go_round
          case rel => exact ⟨i + 1, by omega, by go_num⟩
          case measure => simp [intOf]; omega
    · go_wp2
      refine bodyPost_end (results_none rfl _ _ _) rfl ?_
      exact ⟨rfl, rfl⟩

set_option maxHeartbeats 800000 in
theorem bitsNil_walk (v n : Int) (w : World) (_hv : (Lit.int .u32 v).wf = true) (_hn : (Lit.int .i64 n).wf = true) :
    Calls Try.prog 8 #[.int .u32 v, .int .i64 n] w fun e w' => e = .returned (.bool true) ∧ Below w.heap.size w w' := by
  clear _hv _hn
  go_enter Try.func8, Try.ntmps8
  go_wp2_with (fail)
  refine (bit_nil _ _).mono ?_
  rintro e w1 ⟨rfl, rfl⟩
  go_wp2_with (fail)
  refine (bits_nil _ _ _).mono ?_
  rintro e w1 ⟨rfl, rfl⟩
  go_wp2_with (fail)
  have hR := RdV.one (w := (w.alloc (.cells #[.int .u8 1] 5)).alloc (.cells #[.slice (some ⟨w.heap.size, 0, none⟩) 1 1] 23)) (b := w.heap.size + 1) (c := 1) (cell_new (by simp) rfl) (by omega) (by unfold maxLen; omega) (l1 := [1]) ((Rd.one w (.int .u8 1) 5).alloc _)
  have hb := hide ((((Below.refl w.heap.size w).alloc (Nat.le_refl _) (.cells #[.int .u8 1] 5)).alloc (by simp) (.cells #[.slice (some ⟨w.heap.size, 0, none⟩) 1 1] 23)))
  refine (octs_nil _ _ _ _ _ hR.p).mono ?_
  rintro e w1 ⟨rfl, rfl⟩
  clear hR
  go_wp2_with (fail)
  refine (awake01_any _).mono ?_
  rintro e w2 ⟨rfl, hb2⟩
  have B2 := hide (hb.out.trans (hb2.mono hb.out.size))
  clear hb2
  go_wp2_with (fail)
  refine (wlen_nil _).mono ?_
  rintro e w3 ⟨rfl, rfl⟩
  go_wp2_with (fail)
  refine (wbytes_nil _).mono ?_
  rintro e w3 ⟨rfl, rfl⟩
  go_wp2_with (fail)
  refine (rbit_nil _).mono ?_
  rintro e w3 ⟨rfl, rfl⟩
  go_wp2_with (fail)
  refine (rbits_nil _ _).mono ?_
  rintro e w3 ⟨rfl, rfl⟩
  go_wp2_with (fail)
  refine (rocts_nil _ _).mono ?_
  rintro e w3 ⟨rfl, rfl⟩
  go_wp2_with (fail)
  refine (rLeftB_nil _).mono ?_
  rintro e w3 ⟨rfl, rfl⟩
  go_wp2_with (fail)
  refine (rErr_nil _).mono ?_
  rintro e w3 ⟨rfl, rfl⟩
  go_wp2_with (fail)
  refine (rEnd_nil _).mono ?_
  rintro e w3 ⟨rfl, rfl⟩
  go_wp2
  go_ret
  exact ⟨rfl, B2.out⟩
end Go.Proofs.Ytikfogepdmpfaaa
