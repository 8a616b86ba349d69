import Derived.Test.YtnbjkkhjphjdkaaRowW
import Derived.Test.YtnbjkkhjphjdkaaProg
import Derived.KernelRfl
import Derived.Test.YtnbjkkhjphjdkaaOct
namespace Go.Proofs.Ytnbjkkhjphjdkaa
open Go.RowKit

theorem below_setCells {B : Nat} {w0 : World} {g : Nat} (hg : B ≤ g) : ∀ (news : List Value) (o : Nat) (w : World), Below B w0 w → Below B w0 (w.setCells g o news)
  | [], _, _, h => h
  | _ :: news, o, _, h => below_setCells hg news (o + 1) _ (h.setCell hg _)

def OwnRel (n : Nat) (l : List UInt8) (f : Int) (w0 : World) (i : Value) (wr : World) : Prop :=
  ∃ (k : Nat) (ys : List Value), n ≤ k ∧ k ≤ n + 3 ∧ i = .int .i64 (k : Int) ∧ wr.ownsRow w0.heap.size 5 1 (.slice (some ⟨w0.heap.size, 0, none⟩) (n + 3) (n + 3)) (n + 3) ys ∧ Below w0.heap.size w0 wr ∧ Hid (ys.take k = bv l ++ List.replicate (k - n) (.int .u8 f))

set_option maxRecDepth 100000 in
set_option maxHeartbeats 400000 in
theorem ownByte_any (A : Option Addr) (n c : Nat) (l : List UInt8) (f : Int) (w : World) (h : Rd w A n c (bv l)) (hn : n ≤ 1099511627776) :
    Calls Try.prog 10 #[.slice A n c, .int .u8 f] w fun e w' => e = .returned (.slice (some ⟨w.heap.size, 0, none⟩) n (n + 3)) ∧
      w'.ownsRow w.heap.size 5 1 (.slice (some ⟨w.heap.size, 0, none⟩) (n + 3) (n + 3)) (n + 3) (bv l ++ List.replicate 3 (.int .u8 f)) ∧ Below w.heap.size w w' := by
  obtain ⟨i0, hi, hz0, hz1, hz2⟩ := info_parts Try.info_byte
  have hl := hide (RdB.length h)
  have H := hide h
  clear h
  go_enter Try.func10, Try.ntmps10
  go_wp2_with (at_make; refine wpList_make_own _ rfl _ _ 26 rfl w.heap.size 5 i0 (.int .u8 0) 1 Try.underlying26 hi hz0 hz1 _ _ _ (n + 3) rfl rfl ?_ ?_ ?_ ?_ ?_)
  · omega
  · rw [hz2]; omega
  · unfold maxLen; omega
  · exact Nat.le_refl _
  · intro w1 hown hg
    obtain ⟨ys, _, hfull⟩ := own_full hown
    have hb : Below w.heap.size w w1 := (Below.refl _ _).grown hg (Nat.le_refl _) (fun k hk => by cases hk)
    have hr : Rd w1 A n c (bv l) := H.out.below hb (Nat.le_refl _)
    have hln := hl.out
    have hset := own_setCells (bv l) 0 w1 ys hfull (by rw [bv_length]; omega)
    have hb2 := below_setCells (Nat.le_refl _) (bv l) 0 w1 hb
    have HS := hide (And.intro hset hb2)
    have HF := hide (And.intro hfull hr)
    clear hset hb2 hb hr hfull hown hg hln
    go_wp2_with (at_builtin; refine wpList_app_room _ rfl (.tmp 12) (.tmp 13) _ rfl 5 i0 Try.underlying26 hi hz1 _ _ _ _ ys rfl HF.out.1 _ _ _ _ rfl HF.out.2 (bv_one l) ?_ ?_)
    · omega
    · go_wp2
      go_loopw [7] (OwnRel n l f w) (fun i _ => n + 3 - (intOf i).toNat)
      case atStart =>
        refine ⟨n, _, Nat.le_refl _, by omega, rfl, HS.out.1, HS.out.2, ?_⟩
        have := hl.out
        simp [Hid, this, bv_length]
      case round =>
        obtain ⟨k, zs, hk1, hk2, rfl, hown, hbr, hzs⟩ := hrel
        have HW := hide hown
        have hlen := hown.1
        by_cases hlt : k < n + 3
        · obtain ⟨u, hu⟩ : ∃ u, zs[k]? = some u := ⟨_, List.getElem?_eq_getElem (by omega)⟩
          have hcell := (hown.cellAt k (by omega)).trans hu
          have hfr := hown.frozenAt k
          have hst := hide (fun u => hown.stored k u)
          have HL := hide hlen
          clear hown hlen hu
          go_wp2
          go_roundw
          case measure => simp [intOf]; omega
          case rel =>
            refine ⟨k + 1, zs.set k (.int .u8 f), by omega, by omega, by go_num, (hst.out _).1, hbr.setCell (Nat.le_refl _) _, ?_⟩
            have h3 := HL.out
            show _ = _
            rw [List.take_succ_eq_append_getElem (by simp; omega), List.take_set_of_le (by omega), hzs.out, List.getElem_set_self, show k + 1 - n = (k - n) + 1 by omega, List.replicate_succ', List.append_assoc]
        · go_wp2
          go_ret
          have hkn : k = n + 3 := by omega
          subst hkn
          have e := hzs.out
          rw [List.take_of_length_le (by omega), show n + 3 - n = 3 by omega] at e
          exact ⟨rfl, e ▸ HW.out, hbr⟩

end Go.Proofs.Ytnbjkkhjphjdkaa
