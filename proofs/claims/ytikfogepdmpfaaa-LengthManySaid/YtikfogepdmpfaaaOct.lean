import Derived.Test.YtikfogepdmpfaaaStr
import Derived.Test.YtikfogepdmpfaaaProg
import Derived.KernelRfl
namespace Go.Proofs.Ytikfogepdmpfaaa
open Go.RowKit

theorem strOf_beq (a b : List UInt8) : ((strOf a).toList == (strOf b).toList) = decide (a = b) := by
  unfold strOf
  rw [ByteArray.toList_mk, ByteArray.toList_mk]
  by_cases h : a = b
  · subst h
    simp
  · simp [h]

theorem sameBytes_any (A1 A2 : Option Addr) (n1 c1 n2 c2 : Nat) (a b : List UInt8) (w : World) (h1 : Rd w A1 n1 c1 (bv a)) (h2 : Rd w A2 n2 c2 (bv b)) :
    Calls Try.prog 29 #[.slice A1 n1 c1, .slice A2 n2 c2] w fun e w' => e = .returned (.bool (decide (a = b))) ∧ w = w' := by
  have k1 := conv_rd (P := Try.prog) 23 5 9 Try.underlying23 Try.underlying5 Try.underlying9 h1
  have k2 := conv_rd (P := Try.prog) 23 5 9 Try.underlying23 Try.underlying5 Try.underlying9 h2
  have hq := hide (strOf_beq a b)
  clear h1 h2
  generalize strOf a = s at *
  generalize strOf b = t at *
  go_enter Try.func29, Try.ntmps29
  go_wp2
  go_ret
  exact ⟨ret_bool hq.out, rfl⟩


theorem Try.info_byte : (Try.prog.info? 5).map (fun i => (i.zero, i.size, i.bytes)) = some (some (.int .u8 0), 1, 1) := by kernel_rfl


/-- The n octets of a number without a sign: the first k are written. -/
def OctRel (n : Nat) (v : Int) (w0 : World) (i : Value) (wr : World) : Prop :=
  ∃ (k : Nat) (xs : List Value), k ≤ n ∧ i = .int .i64 (k : Int) ∧ wr.ownsRow w0.heap.size 5 1 (.slice (some ⟨w0.heap.size, 0, none⟩) n n) n xs ∧ Below w0.heap.size w0 wr ∧ Hid (∀ j, j < k → xs[j]? = (bv (Pl.be n v))[j]?)

theorem be_at (n : Nat) (v : Int) (k : Nat) (h : k < n) : (bv (Pl.be n v))[k]? = some (.int .u8 (v / 2 ^ (8 * (n - 1 - k)) % 256)) := by
  have hg := Pl.be_get n v k h
  unfold bv
  rw [List.getElem?_map, hg]
  have e : (2 : Int) ^ (8 * (n - 1 - k)) = 256 ^ (n - 1 - k) := by
    rw [Int.pow_mul]
    rfl
  rw [e]
  simp [Pl.by8_val]

theorem octets_any (v : Int) (n : Nat) (hn : n ≤ 8) (w : World) :
    Calls Try.prog 112 #[.int .u64 v, .int .i64 (n : Int)] w fun e w' => ∃ A c, e = .returned (.slice A n c) ∧ Fresh w w' 5 A n c (bv (Pl.be n v)) := by
  obtain ⟨i0, hi, hz0, hz1, hz2⟩ := info_parts Try.info_byte
  go_enter Try.func112, Try.ntmps112
  go_wp2_with (at_make; refine wpList_make_full _ rfl _ _ 23 rfl w.heap.size 5 i0 (.int .u8 0) 1 Try.underlying23 hi hz0 hz1 _ _ _ _ n rfl rfl rfl rfl ?_ ?_ ?_ ?_)
  · rw [hz2]; omega
  · unfold maxLen; omega
  · exact Nat.le_refl _
  · intro w1 hown hg
    have hb : Below w.heap.size w w1 := (Below.refl _ _).grown hg (Nat.le_refl _) (fun k hk => by cases hk)
    have HO := hide hown
    clear hown hg
    go_wp2
    go_loopw [10] (OctRel n v w) (fun i _ => n - (intOf i).toNat)
    case atStart => exact ⟨0, _, Nat.zero_le _, rfl, HO.out, hb, fun j hj => absurd hj (by omega)⟩
    case round =>
      obtain ⟨k, xs, hk, rfl, hown, hbr, hxs⟩ := hrel
      have HW := hide hown
      have hlen := hown.1
      by_cases hlt : k < n
      · obtain ⟨u, hu⟩ : ∃ u, xs[k]? = some u := ⟨_, List.getElem?_eq_getElem (by omega)⟩
        have hcell := (hown.cellAt k (by omega)).trans hu
        have hfr := hown.frozenAt k
        have hst := hide (fun u => hown.stored k u)
        have HL := hide hlen
        clear hown hlen hu
        go_wp2
        go_roundw
        case measure => simp [intOf]; omega
        case rel =>
          refine ⟨k + 1, xs.set k (.int .u8 (v / 2 ^ (8 * (n - 1 - k)) % 256)), by omega, by go_num, (hst.out _).1, hbr.setCell (Nat.le_refl _) _, fun j hj => ?_⟩
          by_cases hjk : j = k
          · subst hjk
            rw [List.getElem?_set_self (by have := HL.out; omega), be_at n v j hlt]
          · rw [List.getElem?_set_ne (by omega)]
            exact hxs.out j (by omega)
      · go_wp2
        go_ret
        have hkn : k = n := by omega
        subst hkn
        have e : xs = bv (Pl.be k v) := by
          apply List.ext_getElem?
          intro j
          by_cases hj : j < k
          · exact hxs.out j hj
          · rw [List.getElem?_eq_none (by omega), List.getElem?_eq_none (by rw [bv_length, Pl.be_length]; omega)]
        exact ⟨_, _, rfl, e ▸ HW.out, hbr⟩

end Go.Proofs.Ytikfogepdmpfaaa
