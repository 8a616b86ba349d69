import Derived.Test.YtnbjkkhjphjdkaaOct
import Derived.Laws.Bits64
namespace Go.Proofs.Ytnbjkkhjphjdkaa
open Go.RowKit

theorem and127_fin : ∀ n : Fin 256, bits BinOp.and IntKind.u8 (n.val : Int) 127 = ((n.val % 128 : Nat) : Int) := by decide +kernel
theorem or128_fin : ∀ n : Fin 256, bits BinOp.or IntKind.u8 (n.val : Int) 128 = ((n.val % 128 + 128 : Nat) : Int) := by decide +kernel
theorem and127 (x : Int) : bits BinOp.and IntKind.u8 (x % 256) 127 = x % 128 := by
  have h := and127_fin ⟨(x % 256).toNat, by omega⟩
  simp only at h
  rw [Int.toNat_of_nonneg (by omega)] at h
  rw [h]
  omega
theorem or128 (x : Int) : bits BinOp.or IntKind.u8 (x % 256) 128 = x % 128 + 128 := by
  have h := or128_fin ⟨(x % 256).toNat, by omega⟩
  simp only at h
  rw [Int.toNat_of_nonneg (by omega)] at h
  rw [h]
  omega

theorem bv_gr1 (v : Int) : bv (Pl.gr 1 v) = [.int .u8 (v % 128)] := by
  unfold Pl.gr bv
  simp only [List.map_cons, List.map_nil, Pl.by8_val]
  rw [show v % 128 % 256 = v % 128 from by omega]
theorem bv_gr2 (n : Nat) (v : Int) : bv (Pl.gr (n + 2) v) = [.int .u8 (v / 128 ^ (n + 1) % 128 + 128)] ++ bv (Pl.gr (n + 1) v) := by
  show bv (Pl.by8 (v / 128 ^ (n + 1) % 128 + 128) :: Pl.gr (n + 1) v) = _
  unfold bv
  simp only [List.map_cons, List.cons_append, List.nil_append, Pl.by8_val]
  rw [show (v / 128 ^ (n + 1) % 128 + 128) % 256 = v / 128 ^ (n + 1) % 128 + 128 from by omega]

def GrRel (v : Int) (w0 : World) (i b : Value) (wr : World) : Prop :=
  ∃ (k : Nat) (z : Int) (A : Option Addr) (c : Nat), k ≤ 9 ∧ i = .int .u64 z ∧ 0 ≤ z ∧ z ≤ 144115188075855872 ∧ b = .slice A (k + 1) c ∧ wr.ownsRow w0.heap.size 5 1 (.slice A (k + 1) c) (k + 1) (bv (Pl.gr (k + 1) v)) ∧ Below w0.heap.size w0 wr ∧
    Hid (z = v / 128 ^ k / 128 ∧ Pl.dlenF 128 9 v = k + Pl.dlenF 128 (9 - k) (v / 128 ^ k))

theorem groups_any (v : Int) (h0 : 0 ≤ v) (h1 : v < 18446744073709551616) (w : World) :
    Calls Try.prog 24 #[.int .u64 v] w fun e w' => ∃ A c, e = .returned (.slice A (Pl.dlenF 128 9 v) c) ∧ Fresh w w' 5 A (Pl.dlenF 128 9 v) c (bv (Pl.gr (Pl.dlenF 128 9 v) v)) := by
  obtain ⟨i0, hi, hz0, hz1, hz2⟩ := info_parts Try.info_byte
  have hp : ∀ k, 0 ≤ v / 128 ^ k := fun k => Int.ediv_nonneg h0 (Int.pow_nonneg (by omega))
  have HP := hide (And.intro hp h1)
  clear hp h1
  go_enter Try.func24, Try.ntmps24
  go_wp2
  go_loopw [0, 3] (GrRel v w) (fun i _ _ => (intOf i).toNat)
  case atStart =>
    refine ⟨0, v / 128, _, _, by omega, rfl, by omega, by have := HP.out.2; omega, rfl, ?_, (Below.refl _ _).alloc (Nat.le_refl _) _, by simp [Hid]⟩
    rw [bv_gr1, ← and127]
    exact own_one _ _ _ _ (Nat.le_refl _)
  case round =>
    obtain ⟨k, z, A, c, hk, rfl, zn0, zn1, rfl, hown, hb, hs⟩ := hrel
    by_cases hlt : 0 < z
    · go_wp2_with (at_builtin; refine wpList_app _ rfl (.tmp 17) (.tmp 18) _ rfl w.heap.size 5 i0 (.int .u8 0) 1 Try.underlying26 hi hz0 hz1 hz2 rfl _ _ _ rfl (own_one _ _ _ _ hb.size) _ _ _ _ rfl ((Rd.of_own hown).alloc _) (bv_one _) ?_ (by omega) ?_ ?_)
      · omega
      · have := hb.size
        simp
        omega
      · intro A1 c1 w1 hown1 hg1 hl1
        have hbel := (hb.alloc hb.size _).grown hg1 (by have := hb.size; simp; omega) (fun j hj => by
          simp [Value.ownBlock] at hj
          have := hb.size
          omega)
        have HO := hide hown1
        clear hown1 hg1 hl1 hb
        go_wp2
        go_roundw
        case measure => simp [intOf]; omega
        case rel =>
          obtain ⟨h1, h2⟩ := hs.out
          have hk9 : k < 9 := by
            by_cases h : k < 9
            · exact h
            · obtain rfl : k = 9 := by omega
              have := HP.out.2
              have e : (128 : Int) ^ 9 = 9223372036854775808 := by decide
              rw [e] at h1
              omega
          have e1 : v / 128 ^ k / 128 = v / 128 ^ (k + 1) := Pl.div_next v 128 (by omega) k
          refine ⟨k + 1, z / 128, A1, c1, by omega, rfl, by omega, by omega, by rw [show 1 + (k + 1) = k + 1 + 1 from by omega], ?_, hbel, ?_, ?_⟩
          · have := HO.out
            rw [or128, h1, e1, show 1 + (k + 1) = k + 1 + 1 from by omega] at this
            rw [bv_gr2]
            exact this
          · rw [h1, e1]
          · rw [h2, show 9 - k = (9 - (k + 1)) + 1 from by omega, Pl.dlenF_ge 128 (9 - (k + 1)) (v / 128 ^ k) (by omega), e1]
            omega
    · have HO := hide hown
      clear hown
      go_wp2
      go_ret
      obtain ⟨h1, h2⟩ := hs.out
      have h3 := HP.out.1 k
      have hl : Pl.dlenF 128 9 v = k + 1 := by
        rw [h2, Pl.dlenF_lt 128 (9 - k) (v / 128 ^ k) (by omega)]
      rw [hl]
      exact ⟨A, c, rfl, HO.out, hb⟩

end Go.Proofs.Ytnbjkkhjphjdkaa
