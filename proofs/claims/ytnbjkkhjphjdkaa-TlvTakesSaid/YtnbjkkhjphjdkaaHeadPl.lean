import Derived.Test.YtnbjkkhjphjdkaaOct9
import Derived.Test.YtnbjkkhjphjdkaaJoin
import Derived.Test.YtnbjkkhjphjdkaaSpoil
namespace Go.Proofs.Ytnbjkkhjphjdkaa
open Go.RowKit

/-- The octets of a head: the tag's number behind the upper bits f, and the length. -/
def hd1 (f n : Int) : List UInt8 := if n < 31 then [Pl.by8 (f + n)] else Pl.by8 (f + 31) :: Pl.gr (Pl.dlenF 128 9 n) n
def hd2 (l : Int) : List UInt8 := if l < 128 then [Pl.by8 l] else Pl.by8 (128 + (Pl.dlenF 256 7 l : Int)) :: Pl.be (Pl.dlenF 256 7 l) l
def up3 (cl : Int) (made : Bool) : Int := cl % 4 * 64 + (if made then 32 else 0)
def headL (cl no : Int) (made : Bool) (len : Int) : List UInt8 := hd1 (up3 cl made) (max no 0) ++ hd2 (max len 0)

theorem hd1_length (f n : Int) : 1 ≤ (hd1 f n).length ∧ (hd1 f n).length ≤ 11 := by
  unfold hd1
  split
  · simp
  · have := Pl.dlenF_bd 128 9 n
    simp [Pl.gr_length]
    omega
theorem hd2_length (l : Int) : 1 ≤ (hd2 l).length ∧ (hd2 l).length ≤ 9 := by
  unfold hd2
  split
  · simp
  · have := Pl.dlenF_bd 256 7 l
    simp [Pl.be_length]
    omega
theorem up3_bd (cl : Int) (made : Bool) : 0 ≤ up3 cl made ∧ up3 cl made < 256 ∧ up3 cl made % 32 = 0 := by
  unfold up3
  cases made <;> simp <;> omega

theorem or32_fin : ∀ (a : Fin 8) (b : Fin 32), bits BinOp.or IntKind.u8 ((32 * a.val : Nat) : Int) ((b.val : Nat) : Int) = ((32 * a.val + b.val : Nat) : Int) := by decide +kernel
theorem or32 (f n : Int) (f0 : 0 ≤ f) (f1 : f < 256) (f2 : f % 32 = 0) (n0 : 0 ≤ n) (n1 : n < 32) : bits BinOp.or IntKind.u8 f n = f + n := by
  have h := or32_fin ⟨(f / 32).toNat, by omega⟩ ⟨n.toNat, by omega⟩
  simp only at h
  rw [show ((32 * (f / 32).toNat : Nat) : Int) = f by omega, show ((n.toNat : Nat) : Int) = n by omega, show ((32 * (f / 32).toNat + n.toNat : Nat) : Int) = f + n by omega] at h
  exact h
theorem or64_32_fin : ∀ a : Fin 4, bits BinOp.or IntKind.u8 ((64 * a.val : Nat) : Int) 32 = ((64 * a.val + 32 : Nat) : Int) := by decide +kernel
theorem or64_32 (c : Int) : bits BinOp.or IntKind.u8 (c % 4 * 64) 32 = c % 4 * 64 + 32 := by
  have h := or64_32_fin ⟨(c % 4).toNat, by omega⟩
  simp only at h
  rw [show ((64 * (c % 4).toNat : Nat) : Int) = c % 4 * 64 by omega, show ((64 * (c % 4).toNat + 32 : Nat) : Int) = c % 4 * 64 + 32 by omega] at h
  exact h
theorem or128l_fin : ∀ b : Fin 128, bits BinOp.or IntKind.u8 128 ((b.val : Nat) : Int) = ((128 + b.val : Nat) : Int) := by decide +kernel
theorem or128l (n : Int) (n0 : 0 ≤ n) (n1 : n < 128) : bits BinOp.or IntKind.u8 128 n = 128 + n := by
  have h := or128l_fin ⟨n.toNat, by omega⟩
  simp only at h
  rw [show ((n.toNat : Nat) : Int) = n by omega, show ((128 + n.toNat : Nat) : Int) = 128 + n by omega] at h
  exact h

/-- Two, three slices in a new block. -/
theorem RdP.mk2 {w : World} {A B : Option Addr} {n c m d : Nat} {a b : List UInt8} (t : TypeId) (h : Rd w A n c (bv a)) (h2 : Rd w B m d (bv b)) :
    RdP (w.alloc (.cells #[.slice A n c, .slice B m d] t)) (some ⟨w.heap.size, 0, none⟩) 2 2 [a, b] := by
  refine ⟨[.slice A n c, .slice B m d], ⟨rfl, by omega, by unfold maxLen; omega, fun _ => ⟨_, _, rfl, fun i x hx => ?_⟩⟩, rfl, fun i l hi => ?_⟩
  · match i, hx with
    | 0, hx => simp at hx; subst hx; simp
    | 1, hx => simp at hx; subst hx; simp
  · match i, hi with
    | 0, hi => simp at hi; subst hi; exact ⟨_, _, _, rfl, h.alloc _⟩
    | 1, hi => simp at hi; subst hi; exact ⟨_, _, _, rfl, h2.alloc _⟩
theorem RdP.mk3 {w : World} {A B C : Option Addr} {n c m d k e : Nat} {a b g : List UInt8} (t : TypeId) (h : Rd w A n c (bv a)) (h2 : Rd w B m d (bv b)) (h3 : Rd w C k e (bv g)) :
    RdP (w.alloc (.cells #[.slice A n c, .slice B m d, .slice C k e] t)) (some ⟨w.heap.size, 0, none⟩) 3 3 [a, b, g] := by
  refine ⟨[.slice A n c, .slice B m d, .slice C k e], ⟨rfl, by omega, by unfold maxLen; omega, fun _ => ⟨_, _, rfl, fun i x hx => ?_⟩⟩, rfl, fun i l hi => ?_⟩
  · match i, hx with
    | 0, hx => simp at hx; subst hx; simp
    | 1, hx => simp at hx; subst hx; simp
    | 2, hx => simp at hx; subst hx; simp
  · match i, hi with
    | 0, hi => simp at hi; subst hi; exact ⟨_, _, _, rfl, h.alloc _⟩
    | 1, hi => simp at hi; subst hi; exact ⟨_, _, _, rfl, h2.alloc _⟩
    | 2, hi => simp at hi; subst hi; exact ⟨_, _, _, rfl, h3.alloc _⟩
theorem RdP.mk1 {w : World} {A : Option Addr} {n c : Nat} {a : List UInt8} (t : TypeId) (h : Rd w A n c (bv a)) :
    RdP (w.alloc (.cells #[.slice A n c] t)) (some ⟨w.heap.size, 0, none⟩) 1 1 [a] := by
  refine ⟨[.slice A n c], ⟨rfl, by omega, by unfold maxLen; omega, fun _ => ⟨_, _, rfl, fun i x hx => ?_⟩⟩, rfl, fun i l hi => ?_⟩
  · match i, hx with
    | 0, hx => simp at hx; subst hx; simp
  · match i, hi with
    | 0, hi => simp at hi; subst hi; exact ⟨_, _, _, rfl, h.alloc _⟩
theorem bv_by8 (z : Int) (h0 : 0 ≤ z) (h1 : z < 256) : bv [Pl.by8 z] = [.int .u8 z] := by
  unfold bv
  simp [Pl.by8_val]
  omega

end Go.Proofs.Ytnbjkkhjphjdkaa
