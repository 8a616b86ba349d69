import Derived.Test.YtikfogepdmpfaaaOct3
import Derived.Laws.Bits64b
namespace Go.Proofs.Ytikfogepdmpfaaa
open Go.RowKit

theorem bv_be1 (v : Int) : bv (Pl.be 1 v) = [.int .u8 (v % 256)] := by
  show bv ([] ++ [Pl.by8 v]) = _
  unfold bv
  simp [Pl.by8_val]
theorem bv_be2 (n : Nat) (v : Int) : bv (Pl.be (n + 1) v) = [.int .u8 (v / 256 ^ n % 256)] ++ bv (Pl.be n v) := by
  rw [Pl.be_cons]
  unfold bv
  simp [Pl.by8_val]


def RuRel (v : Int) (w0 : World) (g : Nat) (i b : Value) (wr : World) : Prop :=
  ∃ (j : Nat) (z : Int) (A : Option Addr) (c : Nat), j ≤ 7 ∧ i = .int .u64 z ∧ 0 ≤ z ∧ z < 18446744073709551616 ∧ b = .slice A (j + 1) c ∧ wr.ownsRow w0.heap.size 5 1 (.slice A (j + 1) c) (j + 1) (bv (Pl.be (j + 1) v)) ∧ Below w0.heap.size w0 wr ∧
    Hid (g = 8 - j ∧ z = v / 256 ^ j ∧ Pl.dlenF 256 7 v = j + Pl.dlenF 256 (7 - j) (v / 256 ^ j))

set_option maxRecDepth 100000 in
set_option maxHeartbeats 400000 in
theorem refUnsigned_any (v : Int) (h0 : 0 ≤ v) (h1 : v < 18446744073709551616) (w : World) :
    Calls Try.prog 90 #[.int .u64 v] w fun e w' => ∃ A c, e = .returned (.slice A (Pl.dlenF 256 7 v) c) ∧ Fresh w w' 5 A (Pl.dlenF 256 7 v) c (bv (Pl.be (Pl.dlenF 256 7 v) v)) := by
  obtain ⟨i0, hi, hz0, hz1, hz2⟩ := info_parts Try.info_byte
  have HV := hide (And.intro h0 h1)
  clear h0 h1
  go_enter Try.func90, Try.ntmps90
  go_wp2
  go_loopg [0, 3] 8 (RuRel v w)
  case atStart =>
    refine ⟨0, v, _, _, by omega, rfl, HV.out.1, HV.out.2, rfl, ?_, (Below.refl _ _).alloc (Nat.le_refl _) _, rfl, by simp, by simp⟩
    rw [bv_be1]
    exact own_one _ _ _ _ (Nat.le_refl _)
  case round =>
    obtain ⟨j, z, A, c, hj, rfl, zn0, zn1, rfl, hown, hb, hs⟩ := hrel
    by_cases hf : z ≤ 255
    · have HO := hide hown
      clear hown
      go_wp2
      go_ret
      obtain ⟨_, g1, g2⟩ := hs.out
      have hl : Pl.dlenF 256 7 v = j + 1 := by rw [g2, Pl.dlenF_lt 256 (7 - j) (v / 256 ^ j) (by omega)]
      rw [hl]
      exact ⟨A, c, rfl, HO.out, hb⟩
    · have hj7 : j < 7 := by
        by_cases h : j < 7
        · exact h
        · obtain rfl : j = 7 := by omega
          obtain ⟨_, h1, _⟩ := hs.out
          obtain ⟨h3, h4⟩ := HV.out
          have e : (256 : Int) ^ 7 = 72057594037927936 := by decide
          rw [e] at h1
          omega
      go_wp2_with (at_builtin; refine wpList_app _ rfl (.tmp 13) (.tmp 14) _ rfl w.heap.size 5 i0 (.int .u8 0) 1 Try.underlying23 hi hz0 hz1 hz2 rfl _ _ _ rfl (own_one _ _ _ _ hb.size) _ _ _ _ rfl ((Rd.of_own hown).alloc _) (bv_one _) ?_ (by omega) ?_ ?_)
      · omega
      · have := hb.size
        simp
        omega
      · intro A1 c1 w1 hown1 hg1 hl1
        have hbel := (hb.alloc hb.size _).grown hg1 (by have := hb.size; simp; omega) (fun j hj => by
          simp [Value.ownBlock] at hj
          have := hb.size
          omega)
        have HO := hide hown1
        clear hown1 hg1 hl1 hb
        go_wp2
        obtain ⟨h0, h1, h2⟩ := hs.out
        have e1 : v / 256 ^ j / 256 = v / 256 ^ (j + 1) := Pl.div_next v 256 (by omega) j
        go_roundg (8 - (j + 1))
        case measure => omega
        case rel =>
          refine ⟨j + 1, z / 256, A1, c1, by omega, rfl, by omega, by omega, by rw [show 1 + (j + 1) = j + 1 + 1 from by omega], ?_, hbel, rfl, by rw [h1, e1], ?_⟩
          · have := HO.out
            rw [h1, e1, show 1 + (j + 1) = j + 1 + 1 from by omega] at this
            rw [bv_be2]
            exact this
          · rw [h2, show 7 - j = (7 - (j + 1)) + 1 from by omega, Pl.dlenF_ge 256 (7 - (j + 1)) (v / 256 ^ j) (by omega), e1]
            omega


end Go.Proofs.Ytikfogepdmpfaaa
