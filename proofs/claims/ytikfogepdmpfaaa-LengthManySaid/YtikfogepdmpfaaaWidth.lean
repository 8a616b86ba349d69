import Derived.Test.YtikfogepdmpfaaaMem
import Derived.Test.YtikfogepdmpfaaaLen64
import Derived.Test.YtikfogepdmpfaaaPlWidth
import Derived.KernelRfl
namespace Go.Proofs.Ytikfogepdmpfaaa
open Go.RowKit

/-- How many bits a number has. -/
def widthI (x : Int) : Int := ((Lib.bitLen x.toNat : Nat) : Int)
theorem widthI_bd (x : Int) : 0 ≤ widthI x ∧ widthI x ≤ 64 := by
  have := Pl.width_le x.toNat
  unfold widthI
  omega

theorem width_any (x : Int) (w : World) (h0 : 0 ≤ x) (h1 : x < 18446744073709551616) :
    Calls Try.prog 88 #[.int .u64 x] w fun e w' => e = .returned (.int .i64 (widthI x)) ∧ w = w' := by
  have H1 := hide h1
  clear h1
  go_enter Try.func88, Try.ntmps88
  go_wp2_with (fail)
  refine (len64_any x _ h0 H1.out).mono ?_
  rintro e w1 ⟨rfl, rfl⟩
  go_wp2
  go_ret
  exact ⟨rfl, rfl⟩

/-- The reference's loop: after some halvings. -/
def WRel (N : Nat) (w0 : World) (g : Nat) (v x : Value) (wr : World) : Prop :=
  ∃ (z k : Int), v = .int .u64 z ∧ x = .int .i64 k ∧ 0 ≤ z ∧ 0 ≤ k ∧ k ≤ 64 ∧ Hid (g = z.toNat + 1 ∧ z.toNat < 2 ^ (64 - k.toNat) ∧ Lib.bitLen N = k.toNat + Lib.bitLenAux (64 - k.toNat) z.toNat ∧ wr = w0)

theorem refWidth_any (x : Int) (w : World) (h0 : 0 ≤ x) (h1 : x < 18446744073709551616) :
    Calls Try.prog 46 #[.int .u64 x] w fun e w' => e = .returned (.int .i64 (widthI x)) ∧ w = w' := by
  have H1 := hide h1
  clear h1
  go_enter Try.func46, Try.ntmps46
  go_wp2
  go_loopg [0, 3] (x.toNat + 1) (WRel x.toNat w)
  case atStart => exact ⟨x, 0, rfl, rfl, h0, by omega, by omega, rfl, by have := H1.out; simp; omega, by simp [Lib.bitLen], rfl⟩
  case round =>
    obtain ⟨z, k, rfl, rfl, hz, hk, hk2, HR⟩ := hrel
    by_cases hp : 0 < z
    · have hk3 : k < 64 := by
        obtain ⟨_, h2, _, _⟩ := HR.out
        by_cases h : k < 64
        · exact h
        · have : 64 - k.toNat = 0 := by omega
          rw [this] at h2
          simp at h2
          omega
      go_wp2
      obtain ⟨h1, h2, h3, h4⟩ := HR.out
      have e : 64 - k.toNat = 64 - (k + 1).toNat + 1 := by omega
      have ez : (z / 2).toNat = z.toNat / 2 := by omega
      go_roundg ((z / 2).toNat + 1)
      case measure => omega
      case rel =>
        refine ⟨z / 2, k + 1, rfl, rfl, by omega, by omega, by omega, rfl, ?_, ?_, h4⟩
        · rw [e, Nat.pow_succ] at h2
          omega
        · rw [h3, e, Lib.bitLenAux, if_neg (by omega), ez]
          omega
    · go_wp2
      go_ret
      obtain ⟨_, h2, h3, h4⟩ := HR.out
      have e : z.toNat = 0 := by omega
      rw [e, Pl.aux_zero] at h3
      exact ⟨ret_int (by unfold widthI; omega), h4.symm⟩

end Go.Proofs.Ytikfogepdmpfaaa
