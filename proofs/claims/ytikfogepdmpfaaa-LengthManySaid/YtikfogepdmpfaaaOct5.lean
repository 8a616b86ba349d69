import Derived.Test.YtikfogepdmpfaaaOct4
import Derived.Test.YtikfogepdmpfaaaPlTake
namespace Go.Proofs.Ytikfogepdmpfaaa
open Go.RowKit

theorem less_cmp : ∀ a b : List UInt8, Op.bytesLess a b = decide (Pl.cmpB a b = -1)
  | [], [] => rfl
  | [], _ :: _ => rfl
  | _ :: _, [] => rfl
  | x :: xs, y :: ys => by
    have ih := less_cmp xs ys
    simp only [Op.bytesLess, Pl.cmpB]
    by_cases h : x < y
    · simp [h]
    · by_cases h2 : y < x
      · have hne : ¬ x = y := fun e => by subst e; exact h h2
        simp [h, h2, hne]
      · have he : x = y := by
          apply UInt8.toNat_inj.1
          have h1 := mt UInt8.lt_iff_toNat_lt.2 h
          have h3 := mt UInt8.lt_iff_toNat_lt.2 h2
          omega
        subst he
        simp [h, ih]

theorem strOf_less (a b : List UInt8) : Op.bytesLess (strOf a).toList (strOf b).toList = decide (Pl.cmpB a b = -1) := by
  unfold strOf
  rw [ByteArray.toList_mk, ByteArray.toList_mk]
  exact less_cmp a b



def TkRel (n : Nat) (l : List UInt8) (i v : Value) : Prop :=
  ∃ (k : Nat) (z : Int), k ≤ n ∧ i = .int .i64 (k : Int) ∧ v = .int .u64 z ∧ 0 ≤ z ∧ Hid (z = Pl.val (l.take k))

theorem or_low8 (z : Int) (c : UInt8) (h0 : 0 ≤ z) (h1 : z * 256 < 18446744073709551616) : bits BinOp.or IntKind.u64 (z * 256) (c.toNat : Int) = z * 256 + (c.toNat : Int) := by
  have h := bits_or_u64_nat (z * 256).toNat c.toNat (by omega) (by have := c.toNat_lt; omega)
  rw [Int.toNat_of_nonneg (by omega)] at h
  rw [h]
  have e : (z * 256).toNat = 2 ^ 8 * z.toNat := by omega
  have hc := c.toNat_lt
  rw [e, ← Nat.two_pow_add_eq_or_of_lt hc]
  omega

theorem taken_any (A : Option Addr) (n c : Nat) (l : List UInt8) (w : World) (h : Rd w A n c (bv l)) (hn : n ≤ 8) :
    Calls Try.prog 117 #[.slice A n c] w fun e w' => e = .returned (.int .u64 (Pl.val l)) ∧ w = w' := by
  have hl := RdB.length h
  have H := hide h
  have HL := hide hl
  clear h hl
  go_enter Try.func117, Try.ntmps117
  go_wp2
  go_loop [8, 3] (TkRel n l) (fun i _ => n - (intOf i).toNat)
  case atStart => exact ⟨0, 0, Nat.zero_le _, rfl, rfl, by omega, by simp [Hid, Pl.val]⟩
  case round =>
    obtain ⟨k, z, hk, rfl, rfl, hz0, hz⟩ := hrel
    by_cases hlt : k < n
    · have hkl : k < l.length := by have := HL.out; omega
      obtain ⟨b, o, rfl, hb, hcell⟩ := RdB.at_ H.out hkl
      have hz1 : z * 256 < 18446744073709551616 := by
        have h1 := Pl.val_lt (l.take k)
        have h2 := Pl.pow_le8 (show (l.take k).length + 1 ≤ 8 by simp; omega)
        rw [← hz.out] at h1
        rw [Int.pow_succ] at h2
        omega
      have hor := or_low8 z l[k] hz0 hz1
      have hnew := hide (Pl.val_take_succ l k hkl)
      have hc1 := l[k].toNat_lt
      have hc0 : 0 ≤ (l[k].toNat : Int) ∧ (l[k].toNat : Int) < 256 := by omega
      generalize (l[k].toNat : Int) = cc at *
      have hwr : IntKind.u64.wrap cc = cc := by rw [IntKind.wrap_u64]; omega
      go_wp2
      go_round
      case rel => exact ⟨k + 1, z * 256 + cc, by omega, by go_num, rfl, by omega, by rw [hnew.out, ← hz.out]; rfl⟩
      case measure => simp [intOf]; omega
    · go_wp2
      go_ret
      have hkn : k = n := by omega
      exact ⟨ret_int (by rw [hz.out, List.take_of_length_le (by have := HL.out; omega)]), rfl⟩

end Go.Proofs.Ytikfogepdmpfaaa
