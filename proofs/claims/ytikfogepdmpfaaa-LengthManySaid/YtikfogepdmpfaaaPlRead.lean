/-
  Plain facts on bits that are read: the bits of a place on, the number that they are, the octets that they are; which fault a read has. No program in sight.
-/
import Derived.Test.YtikfogepdmpfaaaPlBits
namespace Go.Proofs.Ytikfogepdmpfaaa.Pl

/-- n bits from a place on. -/
def bitsAt (bs : List UInt8) (at_ n : Nat) : List Bool := (List.range n).map fun i => bitAt bs (at_ + i)
theorem bitsAt_length (bs : List UInt8) (a n : Nat) : (bitsAt bs a n).length = n := by simp [bitsAt]
theorem bitsAt_succ (bs : List UInt8) (a n : Nat) : bitsAt bs a (n + 1) = bitsAt bs a n ++ [bitAt bs (a + n)] := by
  simp [bitsAt, List.range_succ]
theorem bitsAt_zero (bs : List UInt8) (a : Nat) : bitsAt bs a 0 = [] := rfl
/-- n octets from a place on. -/
def octsAt (bs : List UInt8) (a n : Nat) : List UInt8 := (List.range n).map fun i => by8 (num (bitsAt bs (a + 8 * i) 8))
theorem octsAt_length (bs : List UInt8) (a n : Nat) : (octsAt bs a n).length = n := by simp [octsAt]
theorem octsAt_succ (bs : List UInt8) (a n : Nat) : octsAt bs a (n + 1) = octsAt bs a n ++ [by8 (num (bitsAt bs (a + 8 * n) 8))] := by
  simp [octsAt, List.range_succ]

/-- How many bits are left. -/
def left (bs : List UInt8) (a : Nat) : Int := 8 * (bs.length : Int) - (a : Int)
/-- The fault behind a read of so many bits. -/
def rdE (bs : List UInt8) (a : Nat) (e n : Int) : Int := if e ≠ 0 then e else if left bs a < n then 3 else 0
theorem rdE_err (bs : List UInt8) (a : Nat) (e n : Int) (h : e ≠ 0) : rdE bs a e n = e := by simp [rdE, h]
theorem rdE_short (bs : List UInt8) (a : Nat) (n : Int) (h : left bs a < n) : rdE bs a 0 n = 3 := by simp [rdE, h]
theorem rdE_ok (bs : List UInt8) (a : Nat) (n : Int) (h : ¬ left bs a < n) : rdE bs a 0 n = 0 := by simp [rdE, h]
/-- The place behind a read of m bits. -/
def rdA (bs : List UInt8) (a : Nat) (e : Int) (m : Nat) : Nat := if rdE bs a e (m : Int) = 0 then a + m else a
/-- The number that is read. -/
def rdV (bs : List UInt8) (a : Nat) (e : Int) (m : Nat) : Int := if rdE bs a e (m : Int) = 0 then num (bitsAt bs a m) else 0
/-- The octets that are read. -/
def rdO (bs : List UInt8) (a : Nat) (e : Int) (m : Nat) : List UInt8 := if rdE bs a e ((8 * m : Nat) : Int) = 0 then octsAt bs a m else []
/-- What the end is. -/
def endE (bs : List UInt8) (a : Nat) (e : Int) : Int := if e ≠ 0 then e else if 8 ≤ left bs a then 4 else if num (bitsAt bs a (left bs a).toNat) ≠ 0 then 4 else 0

theorem rdA_le (bs : List UInt8) (a : Nat) (e : Int) (m : Nat) (h : a ≤ 8 * bs.length) : rdA bs a e m ≤ 8 * bs.length := by
  unfold rdA
  split
  · rename_i h0
    unfold rdE at h0
    split at h0
    · contradiction
    · split at h0
      · contradiction
      · rename_i h1
        unfold left at h1
        omega
  · exact h

theorem bitsAt_pack (l : List Bool) (a n : Nat) (h : a + n ≤ l.length) : bitsAt (pack l) a n = (l.drop a).take n := by
  apply List.ext_getElem
  · rw [bitsAt_length, List.length_take, List.length_drop]
    omega
  · intro i h1 h2
    rw [bitsAt_length] at h1
    simp only [bitsAt, List.getElem_map, List.getElem_range, List.getElem_take, List.getElem_drop]
    rw [bit_pack, List.getD_eq_getElem?_getD, List.getElem?_eq_getElem (by omega)]
    rfl

theorem num_all_false (l : List Bool) (h : ∀ b ∈ l, b = false) : num l = 0 := (num_zero l).2 h

/-- Behind the bits there are zeros alone, fewer than eight. -/
theorem end_pack (l : List Bool) : endE (pack l) l.length 0 = 0 := by
  have hl := pack_length l
  have hleft : left (pack l) l.length < 8 := by
    unfold left
    omega
  unfold endE
  rw [if_neg (by simp), if_neg (by omega), if_neg]
  simp only [ne_eq, Decidable.not_not]
  refine num_all_false _ fun b hb => ?_
  unfold bitsAt at hb
  obtain ⟨i, _, rfl⟩ := List.mem_map.1 hb
  rw [bit_pack, List.getD_eq_getElem?_getD, List.getElem?_eq_none (by omega)]
  rfl

theorem by8_bits (c : UInt8) : by8 (num (bitsOf (c.toNat : Int) 8)) = c := by
  have hc := c.toNat_lt
  rw [num_bitsOf, show ((c.toNat : Int) % 2 ^ 8) = (c.toNat : Int) by omega, by8_of]

/-- Octets that lie in the bits are read. -/
theorem octsAt_pack (l : List Bool) (a : Nat) : ∀ (bs : List UInt8), (l.drop a).take (8 * bs.length) = octB bs → a + 8 * bs.length ≤ l.length → octsAt (pack l) a bs.length = bs := by
  refine bsnoc_ind (p := fun bs => (l.drop a).take (8 * bs.length) = octB bs → a + 8 * bs.length ≤ l.length → octsAt (pack l) a bs.length = bs) (fun _ _ => rfl) (fun bs c ih h1 h2 => ?_)
  rw [List.length_append, List.length_singleton] at h1 h2 ⊢
  rw [octB_append, octB_one] at h1
  have hlen := octB_length bs
  have hA : (l.drop a).take (8 * bs.length) = octB bs := by
    have := congrArg (List.take (8 * bs.length)) h1
    rw [List.take_take, Nat.min_eq_left (by omega), List.take_left' hlen] at this
    exact this
  have hB : ((l.drop a).drop (8 * bs.length)).take 8 = bitsOf (c.toNat : Int) 8 := by
    have := congrArg (List.drop (8 * bs.length)) h1
    rw [List.drop_left' hlen, List.drop_take, show 8 * (bs.length + 1) - 8 * bs.length = 8 by omega] at this
    exact this
  rw [octsAt_succ, ih hA (by omega), bitsAt_pack l _ 8 (by omega), ← List.drop_drop, hB, by8_bits]

end Go.Proofs.Ytikfogepdmpfaaa.Pl
