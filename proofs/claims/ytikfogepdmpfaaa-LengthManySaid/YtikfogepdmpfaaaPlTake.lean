/-
  Plain facts on octets that are read: the number that octets are, with and without a sign; groups. No program in sight.
-/
import Derived.Test.YtikfogepdmpfaaaPlOct
namespace Go.Proofs.Ytikfogepdmpfaaa.Pl

/-- From the last on. -/
theorem snoc_ind {p : List UInt8 → Prop} (h0 : p []) (h1 : ∀ l c, p l → p (l ++ [c])) (l : List UInt8) : p l := by
  have key : ∀ m : List UInt8, p m.reverse := by
    intro m
    induction m with
    | nil => exact h0
    | cons c m ih => rw [List.reverse_cons]; exact h1 _ _ ih
  have := key l.reverse
  rwa [List.reverse_reverse] at this

/-- The number that octets are. -/
def val (l : List UInt8) : Int := l.foldl (fun v c => v * 256 + (c.toNat : Int)) 0
theorem val_nil : val [] = 0 := rfl
theorem val_snoc (l : List UInt8) (c : UInt8) : val (l ++ [c]) = val l * 256 + (c.toNat : Int) := by simp [val]
theorem val_nonneg (l : List UInt8) : 0 ≤ val l := by
  refine snoc_ind (p := fun l => 0 ≤ val l) (by simp [val]) (fun l c h => ?_) l
  rw [val_snoc]
  omega
theorem val_lt (l : List UInt8) : val l < 256 ^ l.length := by
  refine snoc_ind (p := fun l => val l < 256 ^ l.length) (by simp [val]) (fun l c h => ?_) l
  rw [val_snoc, List.length_append, List.length_singleton, Int.pow_succ]
  have := c.toNat_lt
  generalize (256 : Int) ^ l.length = B at *
  omega
theorem pow_le8 {n : Nat} (h : n ≤ 8) : (256 : Int) ^ n ≤ 18446744073709551616 := by
  match n, h with
  | 0, _ => decide
  | 1, _ => decide
  | 2, _ => decide
  | 3, _ => decide
  | 4, _ => decide
  | 5, _ => decide
  | 6, _ => decide
  | 7, _ => decide
  | 8, _ => decide
  | n + 9, h => omega
theorem val_take_succ (l : List UInt8) (k : Nat) (h : k < l.length) : val (l.take (k + 1)) = val (l.take k) * 256 + (l[k].toNat : Int) := by
  rw [List.take_succ_eq_append_getElem h, val_snoc]

/-- The first octet has the sign. -/
def neg : List UInt8 → Bool
  | [] => false
  | c :: _ => decide (128 ≤ c.toNat)
def sval (l : List UInt8) : Int := if neg l then val l - 256 ^ l.length else val l
theorem neg_snoc (l : List UInt8) (c : UInt8) (h : l ≠ []) : neg (l ++ [c]) = neg l := by
  cases l with
  | nil => exact absurd rfl h
  | cons a l => rfl
theorem sval_snoc (l : List UInt8) (c : UInt8) (h : l ≠ []) : sval (l ++ [c]) = sval l * 256 + (c.toNat : Int) := by
  unfold sval
  rw [neg_snoc l c h, val_snoc, List.length_append, List.length_singleton, Int.pow_succ]
  split <;> omega
theorem val_bd (l : List UInt8) : (neg l = true → 256 ^ l.length ≤ 2 * val l) ∧ (neg l = false → 2 * val l < 256 ^ l.length) := by
  refine snoc_ind (p := fun l => (neg l = true → 256 ^ l.length ≤ 2 * val l) ∧ (neg l = false → 2 * val l < 256 ^ l.length)) (by simp [val, neg]) (fun l c h => ?_) l
  rw [val_snoc, List.length_append, List.length_singleton, Int.pow_succ]
  have hc := c.toNat_lt
  cases l with
  | nil =>
    have e : neg ([] ++ [c]) = decide (128 ≤ c.toNat) := rfl
    rw [e, val_nil]
    constructor
    · intro h
      have := of_decide_eq_true h
      simp
      omega
    · intro h
      have := of_decide_eq_false h
      simp
      omega
  | cons a l =>
    rw [neg_snoc _ _ (by simp)]
    rw [List.length_cons, Int.pow_succ] at *
    generalize (256 : Int) ^ l.length = B at *
    generalize val (a :: l) = V at *
    constructor
    · intro hn
      have := h.1 hn
      omega
    · intro hn
      have := h.2 hn
      omega
theorem sval_bd (l : List UInt8) : -(256 ^ l.length) ≤ 2 * sval l ∧ 2 * sval l < 256 ^ l.length := by
  have h := val_bd l
  have h2 := val_lt l
  have h3 := val_nonneg l
  unfold sval
  generalize (256 : Int) ^ l.length = B at *
  cases hn : neg l
  · have := h.2 hn
    simp
    omega
  · have := h.1 hn
    simp
    omega

/-- The octets of the number that octets are. -/
theorem be_snoc (l : List UInt8) (c : UInt8) (v : Int) : be (l ++ [c]).length (v * 256 + (c.toNat : Int)) = be l.length v ++ [c] := by
  rw [List.length_append, List.length_singleton]
  have hc := c.toNat_lt
  show be l.length ((v * 256 + (c.toNat : Int)) / 256) ++ [by8 (v * 256 + (c.toNat : Int))] = _
  rw [show (v * 256 + (c.toNat : Int)) / 256 = v from by omega, by8_congr (show (v * 256 + (c.toNat : Int)) % 256 = (c.toNat : Int) % 256 from by omega), by8_of]
theorem be_val (l : List UInt8) : be l.length (val l) = l := by
  refine snoc_ind (p := fun l => be l.length (val l) = l) rfl (fun l c h => ?_) l
  rw [val_snoc, be_snoc, h]
theorem be_sval (l : List UInt8) : be l.length (sval l) = l := by
  unfold sval
  split
  · have := be_add l.length (val l) (-1)
    rw [show val l - 256 ^ l.length = val l + 256 ^ l.length * -1 from by omega, this, be_val]
  · exact be_val l
theorem val_be (n : Nat) : ∀ z : Int, val (be n z) = z % 256 ^ n := by
  induction n with
  | zero => intro z; simp [be, val]
  | succ n ih =>
    intro z
    show val (be n (z / 256) ++ [by8 z]) = _
    rw [val_snoc, ih, by8_val, Int.pow_succ]
    have hB : (0 : Int) < 256 ^ n := Int.pow_pos (by omega)
    generalize (256 : Int) ^ n = B at *
    have h1 := Int.emod_nonneg (z / 256) (show B ≠ 0 by omega)
    have h2 := Int.emod_lt_of_pos (z / 256) hB
    have h3 := Int.mul_ediv_add_emod (z / 256) B
    have e : z = ((z / 256 % B) * 256 + z % 256) + (B * 256) * (z / 256 / B) := by
      have h4 : (B * 256) * (z / 256 / B) = 256 * (B * (z / 256 / B)) := by
        rw [Int.mul_comm B 256, Int.mul_assoc]
      rw [h4]
      omega
    have hr1 : 0 ≤ z % 256 ∧ z % 256 < 256 := by omega
    clear h3 ih
    generalize z / 256 % B = a at *
    generalize z / 256 / B = t at *
    generalize z % 256 = r at *
    rw [e, Int.add_mul_emod_self_left, Int.emod_eq_of_lt (by omega) (by omega)]

end Go.Proofs.Ytikfogepdmpfaaa.Pl
