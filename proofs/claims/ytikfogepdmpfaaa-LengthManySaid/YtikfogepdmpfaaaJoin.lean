import Derived.Test.YtikfogepdmpfaaaParts
import Derived.Test.YtikfogepdmpfaaaOct
namespace Go.Proofs.Ytikfogepdmpfaaa
open Go.RowKit

def JoinRel (ls : List (List UInt8)) (w0 : World) (i b : Value) (wr : World) : Prop :=
  ∃ (k : Nat) (A : Option Addr) (c m : Nat), k ≤ ls.length ∧ i = .int .i64 (k : Int) ∧ b = .slice A m c ∧ wr.ownsRow w0.heap.size 5 1 (.slice A m c) m (bv (ls.take k).flatten) ∧ Below w0.heap.size w0 wr ∧ Hid (m = (ls.take k).flatten.length)

theorem join_any (A : Option Addr) (n c : Nat) (ls : List (List UInt8)) (w : World) (h : RdP w A n c ls) (hn : ls.flatten.length ≤ 1099511627776) :
    Calls Try.prog 95 #[.slice A n c] w fun e w' => ∃ A' c', e = .returned (.slice A' ls.flatten.length c') ∧ Fresh w w' 5 A' ls.flatten.length c' (bv ls.flatten) := by
  obtain ⟨i0, hi, hz0, hz1, hz2⟩ := info_parts Try.info_byte
  have hl := h.length
  have hm := h.lenmax
  have H := hide h
  have HL := hide hl
  have HN := hide hn
  clear h hl hn
  go_enter Try.func95, Try.ntmps95
  go_wp2
  go_loopw [8, 3] (JoinRel ls w) (fun i _ _ => n - (intOf i).toNat)
  case atStart => exact ⟨0, none, 0, 0, Nat.zero_le _, rfl, rfl, World.ownsRow_nil _ _ _ _, Below.refl _ _, rfl⟩
  case round =>
    obtain ⟨k, B, cb, m, hk, rfl, rfl, hown, hb, hmm⟩ := hrel
    by_cases hlt : k < n
    · have hkl : k < ls.length := by have := HL.out; omega
      obtain ⟨b, o, A', n', c', rfl, hbz, hcell, hrd⟩ := RdP.at_ (H.out.below hb (Nat.le_refl _)) hkl
      have hl' := RdB.length hrd
      have hsucc := flat_take_succ ls k hkl
      have hle := flat_take_le ls (k + 1)
      have hmn : m + n' = (ls.take (k + 1)).flatten.length := by rw [hsucc, List.length_append, ← hmm.out, ← hl']
      have hN := HN.out
      have hmb : m + n' ≤ 1099511627776 := by omega
      have HM := hide hmn
      have HS := hide hsucc
      clear hl' hsucc hle hmn hN
      go_wp2_with (at_builtin; refine wpList_app _ rfl (.tmp 12) (.tmp 13) _ rfl w.heap.size 5 i0 (.int .u8 0) 1 Try.underlying23 hi hz0 hz1 hz2 rfl _ _ _ rfl hown _ _ _ _ rfl hrd (bv_one _) hmb (by omega) ?_ ?_)
      · exact hb.size
      · intro A1 c1 w1 hown1 hg1 hl1
        have hbel := hb.grown hg1 hb.size (fun j hj => (hown.lt j hj).1)
        have HO := hide hown1
        clear hown1 hg1 hl1 hb
        go_wp2
        go_roundw
        case measure => simp [intOf]; omega
        case rel =>
          refine ⟨k + 1, A1, c1, m + n', by omega, by go_num, rfl, ?_, hbel, HM.out⟩
          rw [HS.out, bv_append]
          exact HO.out
    · have HO := hide hown
      clear hown
      go_wp2
      go_ret
      have hkn : k = ls.length := by have := HL.out; omega
      subst hkn
      have e1 := hmm.out
      have e2 := HO.out
      rw [List.take_length] at e1 e2
      subst e1
      exact ⟨B, cb, rfl, e2, hb⟩

end Go.Proofs.Ytikfogepdmpfaaa
