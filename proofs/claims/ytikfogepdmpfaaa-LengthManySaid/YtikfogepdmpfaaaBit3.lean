import Derived.Test.YtikfogepdmpfaaaBit2
namespace Go.Proofs.Ytikfogepdmpfaaa
open Go.RowKit

def cl32 (n : Int) : Nat := (max 0 (min n 32)).toNat
theorem cl32_le (n : Int) : cl32 n ≤ 32 := by unfold cl32; omega
theorem cl32_val (n : Int) : ((cl32 n : Nat) : Int) = max 0 (min n 32) := by unfold cl32; omega

theorem bounded_any (n : Int) (w : World) : Calls Try.prog 84 #[.int .i64 n] w fun e w' => e = .returned (.int .i64 ((cl32 n : Nat) : Int)) ∧ w = w' := by
  have hc := hide (cl32_val n)
  by_cases h32 : 32 < n
  · go_enter Try.func84, Try.ntmps84
    go_wp2
    go_ret
    exact ⟨ret_int (by rw [hc.out]; omega), rfl⟩
  · by_cases h0 : 0 < n
    · go_enter Try.func84, Try.ntmps84
      go_wp2
      go_ret
      exact ⟨ret_int (by rw [hc.out]; omega), rfl⟩
    · go_enter Try.func84, Try.ntmps84
      go_wp2
      go_ret
      exact ⟨ret_int (by rw [hc.out]; omega), rfl⟩

theorem and_one_u32 (x : Int) : bits BinOp.and IntKind.u32 x 1 = x % 2 := by
  show IntKind.u32.wrap ((BitVec.ofInt 32 x &&& BitVec.ofInt 32 1).toNat : Int) = _
  rw [BitVec.toNat_and, BitVec.toNat_ofInt, BitVec.toNat_ofInt]
  have e1 : ((1 : Int) % (2 ^ 32 : Nat)).toNat = 1 := by decide
  rw [e1, Nat.and_one_is_mod, IntKind.wrap_u32]
  omega
theorem div_pow_bd (v B : Int) (k : Nat) (h0 : 0 ≤ v) (h1 : v < B) : 0 ≤ v / 2 ^ k ∧ v / 2 ^ k < B := by
  have hp : (0 : Int) < 2 ^ k := Int.pow_pos (by omega)
  exact ⟨Int.ediv_nonneg h0 (by omega), by have := Int.ediv_le_self (2 ^ k) h0; omega⟩
theorem bit_arg (v : Int) (k : Nat) : wrap64 (bits BinOp.and IntKind.u32 (v / 2 ^ k) 1) = v / 2 ^ k % 2 := by
  rw [and_one_u32 _]
  unfold wrap64
  omega
theorem dec_bit (x : Int) : decide (x % 2 ≠ 0) = decide (x % 2 = 1) := by
  have h : x % 2 = 0 ∨ x % 2 = 1 := by omega
  rcases h with h | h <;> rw [h] <;> decide

def BitsRel (base p : Nat) (g : Option Nat) (l : List Bool) (v : Int) (m : Nat) (w0 : World) (kk : Value) (wr : World) : Prop :=
  ∃ (j : Nat) (g' : Option Nat), j ≤ m ∧ kk = .int .i64 ((m : Int) - 1 - (j : Int)) ∧ Hid (Wr wr base p g' (l ++ (Pl.bitsOf v m).take j)) ∧ Hid (Upd p g w0 wr) ∧ Hid (Mv w0 g g')

set_option maxRecDepth 100000 in
set_option maxHeartbeats 800000 in
theorem bits_any (v n : Int) (base p : Nat) (g : Option Nat) (l : List Bool) (w : World) (h : Wr w base p g l) (hl : l.length ≤ 1099511620000) (hB : base ≤ w.heap.size) :
    Calls Try.prog 18 #[.pointer (some ⟨p, 0, none⟩), .int .u32 v, .int .i64 n] w (BitPost w base p g (l ++ Pl.bitsOf v (cl32 n))) := by
  have hm := cl32_le n
  have kB := hide (fun w => bounded_any n w)
  have H := hide h
  have HB := hide hB
  clear h hB
  generalize cl32 n = m at *
  go_enter Try.func18, Try.ntmps18
  go_wp2_with (fail)
  refine (kB.out _).mono ?_
  rintro e w' ⟨rfl, rfl⟩
  go_wp2_with (fail)
  go_loopw [6] (BitsRel base p g l v m w) (fun kk _ => (intOf kk + 1).toNat)
  case atStart => exact ⟨0, g, Nat.zero_le _, by simp, hide (by simpa using H.out), Upd.refl _ _ _, Mv.refl _ _⟩
  case round =>
    obtain ⟨j, g', hj, rfl, hw, hu, hmv⟩ := hrel
    by_cases hlt : j < m
    · obtain ⟨k, hk⟩ : ∃ k, m - 1 - j = k := ⟨_, rfl⟩
      have hk2 : (m : Int) - 1 - (j : Int) = (k : Int) := by omega
      have hk0 : (0 : Int) ≤ (k : Int) := by omega
      have hk31 : (k : Int) ≤ 31 := by omega
      rw [hk2]
      have HK := hide hk
      have harg := hide (bit_arg v k)
      have hlen : Hid ((l ++ (Pl.bitsOf v m).take j).length ≤ 1099511627776) := by
        have := Pl.bitsOf_length v m
        show _ ≤ _
        rw [List.length_append, List.length_take]
        omega
      have hbase : Hid (base ≤ wr.heap.size) := Nat.le_trans HB.out hu.out.size
      clear hk hk2
      go_wp2_with (fail)
      rw [harg.out]
      refine (bit_any _ base p g' _ wr hw.out hlen.out hbase.out).mono ?_
      rintro e w2 ⟨rfl, g2, hw2, hu2, hm2⟩
      have hw2 := hide hw2
      have hu2 := hide (hu.out.trans hmv.out hu2)
      have hm2 := hide (hmv.out.trans hu.out.size hm2)
      go_wp2
      go_roundw
      case rel =>
        refine ⟨j + 1, g2, hlt, ?_, hide ?_, hu2, hm2⟩
        · have := HK.out
          have e : (k : Int) - 1 = (m : Int) - 1 - ((j + 1 : Nat) : Int) := by omega
          rw [e]
        · rw [Pl.bitsOf_take_succ v m j hlt, HK.out, ← List.append_assoc, ← dec_bit]
          exact hw2.out
      case measure => simp [intOf]
    · obtain rfl : j = m := by omega
      have e1 : (j : Int) - 1 - (j : Int) = -1 := by omega
      rw [e1]
      go_wp2
      refine bodyPost_end (results_none rfl _ _ _) rfl ?_
      refine ⟨rfl, g', ?_, hu.out, hmv.out⟩
      have := hw.out
      rwa [List.take_of_length_le (by rw [Pl.bitsOf_length]; omega)] at this
end Go.Proofs.Ytikfogepdmpfaaa
