import Derived.Test.YtikfogepdmpfaaaOct
import Derived.Laws.Bits64
namespace Go.Proofs.Ytikfogepdmpfaaa
open Go.RowKit

theorem and127_fin : ∀ n : Fin 256, bits BinOp.and IntKind.u8 (n.val : Int) 127 = ((n.val % 128 : Nat) : Int) := by decide +kernel
theorem or128_fin : ∀ n : Fin 256, bits BinOp.or IntKind.u8 (n.val : Int) 128 = ((n.val % 128 + 128 : Nat) : Int) := by decide +kernel
theorem and127 (x : Int) : bits BinOp.and IntKind.u8 (x % 256) 127 = x % 128 := by
  have h := and127_fin ⟨(x % 256).toNat, by omega⟩
  simp only at h
  rw [Int.toNat_of_nonneg (by omega)] at h
  rw [h]
  omega
theorem or128 (x : Int) : bits BinOp.or IntKind.u8 (x % 256) 128 = x % 128 + 128 := by
  have h := or128_fin ⟨(x % 256).toNat, by omega⟩
  simp only at h
  rw [Int.toNat_of_nonneg (by omega)] at h
  rw [h]
  omega

theorem bv_gr1 (v : Int) : bv (Pl.gr 1 v) = [.int .u8 (v % 128)] := by
  unfold Pl.gr bv
  simp only [List.map_cons, List.map_nil, Pl.by8_val]
  rw [show v % 128 % 256 = v % 128 from by omega]
theorem bv_gr2 (n : Nat) (v : Int) : bv (Pl.gr (n + 2) v) = [.int .u8 (v / 128 ^ (n + 1) % 128 + 128)] ++ bv (Pl.gr (n + 1) v) := by
  show bv (Pl.by8 (v / 128 ^ (n + 1) % 128 + 128) :: Pl.gr (n + 1) v) = _
  unfold bv
  simp only [List.map_cons, List.cons_append, List.nil_append, Pl.by8_val]
  rw [show (v / 128 ^ (n + 1) % 128 + 128) % 256 = v / 128 ^ (n + 1) % 128 + 128 from by omega]


end Go.Proofs.Ytikfogepdmpfaaa
