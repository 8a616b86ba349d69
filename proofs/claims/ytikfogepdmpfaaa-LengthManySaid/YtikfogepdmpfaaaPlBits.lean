/-
  Plain facts on bits: bits packed into octets, the highest first; the bit of a place; the bits of a number, and the number that bits are. No program in sight.
-/
import Derived.Test.YtikfogepdmpfaaaPlOct
namespace Go.Proofs.Ytikfogepdmpfaaa.Pl

/-- The mask of the k-th bit of an octet, the highest first; an octet with that bit set; whether it is set. -/
def mask (k : Nat) : UInt8 := UInt8.ofNat (2 ^ (7 - k))
def setB (c : UInt8) (k : Nat) (b : Bool) : UInt8 := if b then c ||| mask k else c
def getB (c : UInt8) (k : Nat) : Bool := decide (c.toNat / 2 ^ (7 - k) % 2 = 1)

theorem get_set_fin : ∀ (c : Fin 256) (k j : Fin 8), getB (UInt8.ofNat c.val ||| mask k.val) j.val = (getB (UInt8.ofNat c.val) j.val || decide (j.val = k.val)) := by decide +kernel
theorem of_toNat (c : UInt8) : UInt8.ofNat c.toNat = c := by simp
theorem get_set (c : UInt8) (k j : Nat) (b : Bool) (hk : k < 8) (hj : j < 8) : getB (setB c k b) j = (getB c j || (decide (j = k) && b)) := by
  unfold setB
  cases b
  · simp
  · have h := get_set_fin ⟨c.toNat, c.toNat_lt⟩ ⟨k, hk⟩ ⟨j, hj⟩
    simp only [of_toNat] at h
    simpa using h
theorem get_zero (j : Nat) : getB 0 j = false := by simp [getB]
/-- The i-th bit of octets. -/
def bitAt (bs : List UInt8) (i : Nat) : Bool := getB (bs.getD (i / 8) 0) (i % 8)

/-- One bit more, behind n bits. -/
def push (bs : List UInt8) (n : Nat) (b : Bool) : List UInt8 :=
  let bs' := if n % 8 = 0 then bs ++ [0] else bs
  bs'.set (n / 8) (setB (bs'.getD (n / 8) 0) (n % 8) b)

def packR : List Bool → List UInt8
  | [] => []
  | b :: r => push (packR r) r.length b
/-- Bits, packed into octets. -/
def pack (l : List Bool) : List UInt8 := packR l.reverse
theorem pack_nil : pack [] = [] := rfl
theorem pack_snoc (l : List Bool) (b : Bool) : pack (l ++ [b]) = push (pack l) l.length b := by
  simp [pack, packR]

theorem bsnoc_ind {α : Type} {p : List α → Prop} (h0 : p []) (h1 : ∀ l c, p l → p (l ++ [c])) (l : List α) : p l := by
  have key : ∀ m : List α, p m.reverse := by
    intro m
    induction m with
    | nil => exact h0
    | cons c m ih => rw [List.reverse_cons]; exact h1 _ _ ih
  have := key l.reverse
  rwa [List.reverse_reverse] at this

theorem pack_length (l : List Bool) : (pack l).length = (l.length + 7) / 8 := by
  refine bsnoc_ind (p := fun l => (pack l).length = (l.length + 7) / 8) rfl (fun l c h => ?_) l
  rw [pack_snoc, List.length_append, List.length_singleton]
  unfold push
  simp only [List.length_set]
  split
  · rw [List.length_append, List.length_singleton, h]
    omega
  · rw [h]
    omega

theorem bit_pack (l : List Bool) : ∀ i, bitAt (pack l) i = l.getD i false := by
  refine bsnoc_ind (p := fun l => ∀ i, bitAt (pack l) i = l.getD i false) ?_ (fun l b h => ?_) l
  · intro i
    simp [pack_nil, bitAt, get_zero]
  · intro i
    have hl := pack_length l
    rw [pack_snoc]
    unfold push
    have key : ∀ bs' : List UInt8, bs' = (if l.length % 8 = 0 then pack l ++ [0] else pack l) → l.length / 8 < bs'.length ∧ (∀ j, bs'.getD j 0 = (pack l).getD j 0) := by
      intro bs' e
      subst e
      split
      · refine ⟨by simp; omega, fun j => ?_⟩
        rw [List.getD_eq_getElem?_getD, List.getD_eq_getElem?_getD]
        by_cases hj : j < (pack l).length
        · rw [List.getElem?_append_left hj]
        · rw [List.getElem?_append_right (by omega), List.getElem?_eq_none (l := pack l) (by omega)]
          by_cases h0 : j - (pack l).length = 0
          · rw [h0]; rfl
          · rw [List.getElem?_eq_none (by simp; omega)]
      · exact ⟨by omega, fun j => rfl⟩
    generalize hbs : (if l.length % 8 = 0 then pack l ++ [0] else pack l) = bs' at *
    obtain ⟨k1, k2⟩ := key bs' rfl
    simp only
    have h' := h i
    unfold bitAt at h' ⊢
    by_cases hi : i / 8 = l.length / 8
    · rw [hi, List.getD_eq_getElem?_getD, List.getElem?_set_self k1]
      simp only [Option.getD_some]
      rw [get_set _ _ _ _ (by omega) (by omega), k2, ← hi, h']
      rw [List.getD_eq_getElem?_getD, List.getD_eq_getElem?_getD]
      by_cases hil : i < l.length
      · rw [List.getElem?_append_left hil]
        have : ¬ i % 8 = l.length % 8 := by omega
        simp [this]
      · by_cases he : i = l.length
        · subst he
          simp
        · have : ¬ i % 8 = l.length % 8 := by omega
          rw [List.getElem?_append_right (by omega), List.getElem?_eq_none (l := l) (by omega), List.getElem?_eq_none (by simp; omega)]
          simp [this]
    · rw [List.getD_eq_getElem?_getD, List.getElem?_set_ne (by omega), ← List.getD_eq_getElem?_getD, k2, h']
      rw [List.getD_eq_getElem?_getD, List.getD_eq_getElem?_getD]
      by_cases hil : i < l.length
      · rw [List.getElem?_append_left hil]
      · have : ¬ i = l.length := by rintro rfl; exact hi rfl
        rw [List.getElem?_append_right (by omega), List.getElem?_eq_none (l := l) (by omega), List.getElem?_eq_none (by simp; omega)]

/-- The lowest n bits of a number, the highest first. -/
def bitsOf (v : Int) (n : Nat) : List Bool := (List.range n).map fun i => decide (v / 2 ^ (n - 1 - i) % 2 = 1)
theorem bitsOf_length (v : Int) (n : Nat) : (bitsOf v n).length = n := by simp [bitsOf]
theorem bitsOf_take_succ (v : Int) (n k : Nat) (h : k < n) : (bitsOf v n).take (k + 1) = (bitsOf v n).take k ++ [decide (v / 2 ^ (n - 1 - k) % 2 = 1)] := by
  rw [List.take_succ_eq_append_getElem (by rw [bitsOf_length]; exact h)]
  simp [bitsOf]
theorem bitsOf_succ (v : Int) (n : Nat) : bitsOf v (n + 1) = bitsOf (v / 2) n ++ [decide (v % 2 = 1)] := by
  unfold bitsOf
  rw [List.range_succ, List.map_append, List.map_singleton]
  congr 1
  · apply List.map_congr_left
    intro i hi
    have hi := List.mem_range.1 hi
    have e : n + 1 - 1 - i = (n - 1 - i) + 1 := by omega
    rw [e, Int.pow_succ, Int.mul_comm, ← Int.ediv_ediv_of_nonneg (by omega)]
  · simp

/-- The number that bits are. -/
def num (l : List Bool) : Int := l.foldl (fun v b => v * 2 + (if b then 1 else 0)) 0
theorem num_nil : num [] = 0 := rfl
theorem num_snoc (l : List Bool) (b : Bool) : num (l ++ [b]) = num l * 2 + (if b then 1 else 0) := by simp [num]
theorem num_bd (l : List Bool) : 0 ≤ num l ∧ num l < 2 ^ l.length := by
  refine bsnoc_ind (p := fun l => 0 ≤ num l ∧ num l < 2 ^ l.length) (by simp [num]) (fun l b h => ?_) l
  rw [num_snoc, List.length_append, List.length_singleton, Int.pow_succ]
  cases b <;> simp <;> omega
theorem num_bitsOf (n : Nat) : ∀ v : Int, num (bitsOf v n) = v % 2 ^ n := by
  induction n with
  | zero => intro v; simp [bitsOf, num]
  | succ n ih =>
    intro v
    rw [bitsOf_succ, num_snoc, ih, Int.pow_succ]
    have hB : (0 : Int) < 2 ^ n := Int.pow_pos (by omega)
    generalize (2 : Int) ^ n = B at *
    have h1 := Int.emod_nonneg (v / 2) (show B ≠ 0 by omega)
    have h2 := Int.emod_lt_of_pos (v / 2) hB
    have h3 := Int.mul_ediv_add_emod (v / 2) B
    have e : v = ((v / 2 % B) * 2 + v % 2) + (B * 2) * (v / 2 / B) := by
      have h4 : (B * 2) * (v / 2 / B) = 2 * (B * (v / 2 / B)) := by
        rw [Int.mul_comm B 2, Int.mul_assoc]
      rw [h4]
      omega
    have hr1 : v % 2 = 0 ∨ v % 2 = 1 := by omega
    have e2 : (v / 2 % B) * 2 + (if decide (v % 2 = 1) = true then 1 else 0) = (v / 2 % B) * 2 + v % 2 := by
      rcases hr1 with h | h <;> rw [h] <;> simp
    rw [e2]
    clear h3 ih e2
    generalize v / 2 % B = a at *
    generalize v / 2 / B = t at *
    generalize v % 2 = r at *
    rw [e, Int.add_mul_emod_self_left, Int.emod_eq_of_lt (by omega) (by omega)]
theorem num_zero (l : List Bool) : num l = 0 ↔ ∀ b ∈ l, b = false := by
  refine bsnoc_ind (p := fun l => num l = 0 ↔ ∀ b ∈ l, b = false) (by simp [num]) (fun l b h => ?_) l
  have hb := num_bd l
  rw [num_snoc]
  constructor
  · intro h0 x hx
    have h1 : num l = 0 ∧ b = false := by cases b <;> simp at h0 ⊢ <;> omega
    rcases List.mem_append.1 hx with hx | hx
    · exact h.1 h1.1 x hx
    · rw [List.mem_singleton.1 hx, h1.2]
  · intro hx
    have h1 := h.2 fun x hm => hx x (List.mem_append.2 (.inl hm))
    have h2 := hx b (List.mem_append.2 (.inr (List.mem_singleton.2 rfl)))
    rw [h1, h2]
    simp

/-- The bits of octets. -/
def octB (bs : List UInt8) : List Bool := bs.flatMap fun c => bitsOf (c.toNat : Int) 8
theorem octB_nil : octB [] = [] := rfl
theorem octB_append (a b : List UInt8) : octB (a ++ b) = octB a ++ octB b := by simp [octB]
theorem octB_one (c : UInt8) : octB [c] = bitsOf (c.toNat : Int) 8 := by simp [octB]
theorem octB_length (bs : List UInt8) : (octB bs).length = 8 * bs.length := by
  induction bs with
  | nil => rfl
  | cons c t ih =>
    rw [show c :: t = [c] ++ t by rfl, octB_append, octB_one, List.length_append, bitsOf_length, ih, List.length_append, List.length_singleton]
    omega

end Go.Proofs.Ytikfogepdmpfaaa.Pl
