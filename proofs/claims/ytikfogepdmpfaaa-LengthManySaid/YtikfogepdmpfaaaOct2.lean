import Derived.Test.YtikfogepdmpfaaaOct
import Derived.Laws.Bits64
namespace Go.Proofs.Ytikfogepdmpfaaa
open Go.RowKit

theorem be_wrap (k : Nat) (hk : k ≤ 8) (v : Int) : Pl.be k (IntKind.u64.wrap v) = Pl.be k v := by
  rw [IntKind.wrap_u64, Pl.be_mod64 k hk]


def UnRel (v : Int) (w0 : World) (i : Value) (wr : World) : Prop :=
  ∃ k : Nat, 1 ≤ k ∧ k ≤ 8 ∧ i = .int .i64 (k : Int) ∧ wr = w0 ∧ Hid (Pl.dlenF 256 7 v = (k - 1) + Pl.dlenF 256 (8 - k) (v / 256 ^ (k - 1)))

theorem unsigned_any (v : Int) (h0 : 0 ≤ v) (w : World) :
    Calls Try.prog 89 #[.int .u64 v] w fun e w' => ∃ A c, e = .returned (.slice A (Pl.dlenF 256 7 v) c) ∧ Fresh w w' 5 A (Pl.dlenF 256 7 v) c (bv (Pl.be (Pl.dlenF 256 7 v) v)) := by
  have hp : ∀ k, 0 ≤ v / 256 ^ k := fun k => Int.ediv_nonneg h0 (Int.pow_nonneg (by omega))
  have HP := hide hp
  clear hp
  go_enter Try.func89, Try.ntmps89
  go_wp2
  go_loopw [3] (UnRel v w) (fun i _ => 8 - (intOf i).toNat)
  case atStart => exact ⟨1, by omega, by omega, rfl, rfl, by simp [Hid]⟩
  case round =>
    obtain ⟨k, hk1, hk8, rfl, rfl, hs⟩ := hrel
    have hq : v / 2 ^ (8 * k) = v / 256 ^ (k - 1) / 256 := by rw [Pl.shift8, Pl.div_next v 256 (by omega), show k - 1 + 1 = k from by omega]
    have HQ := hide hq
    clear hq
    by_cases hlt : k < 8
    · by_cases hz : v / 2 ^ (8 * k) = 0
      · have hb : (v / 2 ^ (8 * k) != 0) = false := by simp [hz]
        have HZ := hide hz
        clear hz
        go_wp2_with (fail)
        refine (octets_any _ k (by omega) _).mono ?_
        rintro e w' ⟨A, c, rfl, hf⟩
        have hl : Pl.dlenF 256 7 v = k := by
          have h1 := hs.out
          have h2 := HZ.out
          have h3 := HP.out (k - 1)
          rw [HQ.out] at h2
          rw [Pl.dlenF_lt 256 (8 - k) (v / 256 ^ (k - 1)) (by omega)] at h1
          omega
        go_wp2
        go_ret
        rw [hl]
        exact ⟨A, c, rfl, hf⟩
      · have hb : (v / 2 ^ (8 * k) != 0) = true := by simp [hz]
        have HZ := hide hz
        clear hz
        go_wp2
        go_roundw
        case measure => simp [intOf]; omega
        case rel =>
          refine ⟨k + 1, by omega, by omega, by go_num, rfl, ?_⟩
          have h1 := hs.out
          have h2 := HZ.out
          have h3 := HP.out (k - 1)
          rw [HQ.out] at h2
          rw [show 8 - k = (8 - (k + 1)) + 1 from by omega, Pl.dlenF_ge 256 (8 - (k + 1)) (v / 256 ^ (k - 1)) (by omega), Pl.div_next v 256 (by omega), show k - 1 + 1 = k + 1 - 1 from by omega] at h1
          show Pl.dlenF 256 7 v = _
          omega
    · go_wp2_with (fail)
      obtain rfl : k = 8 := by omega
      refine (octets_any _ 8 (by omega) _).mono ?_
      rintro e w' ⟨A, c, rfl, hf⟩
      have hl : Pl.dlenF 256 7 v = 8 := hs.out
      go_wp2
      go_ret
      rw [hl]
      exact ⟨A, c, rfl, hf⟩

end Go.Proofs.Ytikfogepdmpfaaa
