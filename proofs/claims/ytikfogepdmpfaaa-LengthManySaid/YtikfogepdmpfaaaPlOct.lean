/-
  Plain facts on octets: the octets of a whole number, how many there are, groups of seven bits, and what octets are as a number. No program in sight.
-/
namespace Go.Proofs.Ytikfogepdmpfaaa.Pl

/-- The lowest octet of a whole number. -/
def by8 (z : Int) : UInt8 := UInt8.ofNat (z % 256).toNat

theorem by8_val (z : Int) : ((by8 z).toNat : Int) = z % 256 := by
  unfold by8
  rw [UInt8.toNat_ofNat']
  omega

theorem by8_toNat (z : Int) : (by8 z).toNat = (z % 256).toNat := by
  have := by8_val z
  omega

theorem by8_congr {y z : Int} (h : y % 256 = z % 256) : by8 y = by8 z := by
  unfold by8
  rw [h]

theorem by8_of (c : UInt8) : by8 (c.toNat : Int) = c := by
  apply UInt8.toNat_inj.1
  rw [by8_toNat]
  have := c.toNat_lt
  omega

/-- n octets of a whole number, the highest first. -/
def be : Nat → Int → List UInt8
  | 0, _ => []
  | n + 1, z => be n (z / 256) ++ [by8 z]

theorem be_length (n : Nat) : ∀ z, (be n z).length = n := by
  induction n with
  | zero => intro z; rfl
  | succ n ih => intro z; simp [be, ih]

theorem be_cons (n : Nat) : ∀ z, be (n + 1) z = by8 (z / 256 ^ n) :: be n z := by
  induction n with
  | zero => intro z; simp [be]
  | succ n ih =>
    intro z
    show be (n + 1) (z / 256) ++ [by8 z] = _
    rw [ih (z / 256)]
    have e : z / 256 / 256 ^ n = z / 256 ^ (n + 1) := by
      rw [Int.ediv_ediv_of_nonneg (by omega), Int.pow_succ, Int.mul_comm]
    rw [e]
    rfl

theorem be_get (n : Nat) : ∀ (z : Int) (i : Nat), i < n → (be n z)[i]? = some (by8 (z / 256 ^ (n - 1 - i))) := by
  induction n with
  | zero => intro z i h; omega
  | succ n ih =>
    intro z i h
    rw [be_cons]
    cases i with
    | zero => simp
    | succ i =>
      rw [List.getElem?_cons_succ, ih z i (by omega)]
      congr 3
      congr 1
      omega

theorem be_add (n : Nat) : ∀ z t : Int, be n (z + 256 ^ n * t) = be n z := by
  induction n with
  | zero => intro z t; rfl
  | succ n ih =>
    intro z t
    have e : (256 : Int) ^ (n + 1) * t = 256 * (256 ^ n * t) := by rw [Int.pow_succ, Int.mul_comm (256 ^ n) 256, Int.mul_assoc]
    rw [e]
    generalize hp : (256 : Int) ^ n * t = p
    have h1 : (z + 256 * p) / 256 = z / 256 + p := by omega
    simp only [be]
    rw [h1, ← hp, ih, by8_congr (y := z + 256 * (256 ^ n * t)) (z := z) (by rw [hp]; omega)]

/-- The octets of a number and of the same number without a sign. -/
theorem be_mod64 (n : Nat) (hn : n ≤ 8) (v : Int) : be n (v % 18446744073709551616) = be n v := by
  have h : v = v % 18446744073709551616 + 256 ^ n * (256 ^ (8 - n) * (v / 18446744073709551616)) := by
    rw [← Int.mul_assoc, ← Int.pow_add, show n + (8 - n) = 8 from by omega]
    have := Int.emod_add_mul_ediv v 18446744073709551616
    omega
  conv => rhs; rw [h]
  rw [be_add]

/-- How many octets a signed number has: as long as it isn't between -128 and 127 one more. -/
def slenF : Nat → Int → Nat
  | 0, _ => 1
  | f + 1, v => if -128 ≤ v ∧ v ≤ 127 then 1 else slenF f (v / 256) + 1
def slen (v : Int) : Nat := slenF 8 v

/-- How many digits a number without a sign has, at a base. -/
def dlenF (B : Int) : Nat → Int → Nat
  | 0, _ => 1
  | f + 1, v => if v < B then 1 else dlenF B f (v / B) + 1
def ulen (v : Int) : Nat := dlenF 256 8 v
def glen (v : Int) : Nat := dlenF 128 10 v

/-- n groups of seven bits, all but the last one marked. -/
def gr : Nat → Int → List UInt8
  | 0, _ => []
  | 1, v => [by8 (v % 128)]
  | n + 2, v => by8 (v / 128 ^ (n + 1) % 128 + 128) :: gr (n + 1) v

theorem gr_length : ∀ (n : Nat) (v : Int), (gr n v).length = n
  | 0, _ => rfl
  | 1, _ => rfl
  | n + 2, v => by simp [gr, gr_length (n + 1) v]

/-- Which of two texts is the lesser: -1, 0, 1. -/
def cmpB : List UInt8 → List UInt8 → Int
  | [], [] => 0
  | [], _ :: _ => -1
  | _ :: _, [] => 1
  | x :: xs, y :: ys => if x < y then -1 else if y < x then 1 else cmpB xs ys

theorem cmpB_self (l : List UInt8) : cmpB l l = 0 := by
  induction l with
  | nil => rfl
  | cons x xs ih => simp [cmpB, ih]

theorem cmpB_neg : ∀ (a b : List UInt8), cmpB a b = - cmpB b a
  | [], [] => rfl
  | [], _ :: _ => rfl
  | _ :: _, [] => rfl
  | x :: xs, y :: ys => by
    simp only [cmpB]
    have ih := cmpB_neg xs ys
    by_cases h1 : x < y
    · have h2 : ¬ y < x := fun h => by
        have := UInt8.lt_iff_toNat_lt.1 h1
        have := UInt8.lt_iff_toNat_lt.1 h
        omega
      simp [h1, h2]
    · by_cases h2 : y < x
      · simp [h1, h2]
      · simp [h1, h2, ih]

theorem cmpB_zero : ∀ (a b : List UInt8), cmpB a b = 0 ↔ a = b
  | [], [] => by simp [cmpB]
  | [], _ :: _ => by simp [cmpB]
  | _ :: _, [] => by simp [cmpB]
  | x :: xs, y :: ys => by
    simp only [cmpB]
    have ih := cmpB_zero xs ys
    by_cases h1 : x < y
    · have : x ≠ y := fun h => by
        have := UInt8.lt_iff_toNat_lt.1 h1
        rw [h] at this
        omega
      simp [h1, this]
    · by_cases h2 : y < x
      · have : x ≠ y := fun h => by
          have := UInt8.lt_iff_toNat_lt.1 h2
          rw [h] at this
          omega
        simp [h1, h2, this]
      · have : x = y := by
          apply UInt8.toNat_inj.1
          have := mt UInt8.lt_iff_toNat_lt.2 h1
          have := mt UInt8.lt_iff_toNat_lt.2 h2
          omega
        simp [this, ih]

theorem cmpB_take : ∀ (k : Nat) (a : List UInt8), k ≤ a.length → cmpB (a.take k) a = if k < a.length then -1 else 0
  | 0, [], _ => by simp [cmpB]
  | 0, _ :: _, _ => by simp [cmpB]
  | k + 1, [], h => by simp at h
  | k + 1, x :: xs, h => by
    have ih := cmpB_take k xs (by simpa using h)
    simp [cmpB, ih]

theorem cmpB_range (a b : List UInt8) : cmpB a b = -1 ∨ cmpB a b = 0 ∨ cmpB a b = 1 := by
  induction a generalizing b with
  | nil => cases b <;> simp [cmpB]
  | cons x xs ih =>
    cases b with
    | nil => simp [cmpB]
    | cons y ys =>
      simp only [cmpB]
      split
      · simp
      · split
        · simp
        · exact ih ys

/-! ### How many octets -/

theorem shift7 (v : Int) (k : Nat) (hk : 1 ≤ k) : v / 2 ^ (8 * k - 1) = v / 256 ^ (k - 1) / 128 := by
  have e : (2 : Int) ^ (8 * k - 1) = 256 ^ (k - 1) * 128 := by
    rw [show 8 * k - 1 = 8 * (k - 1) + 7 from by omega, Int.pow_add, Int.pow_mul]
    rfl
  rw [e, Int.ediv_ediv_of_nonneg (Int.le_of_lt (Int.pow_pos (by omega)))]

theorem shift8 (v : Int) (k : Nat) : v / 2 ^ (8 * k) = v / 256 ^ k := by
  have e : (2 : Int) ^ (8 * k) = 256 ^ k := by
    rw [Int.pow_mul]
    rfl
  rw [e]

theorem div_next (v : Int) (B : Int) (hB : 0 ≤ B) (k : Nat) : v / B ^ k / B = v / B ^ (k + 1) := by
  rw [Int.ediv_ediv_of_nonneg (Int.pow_nonneg hB), Int.pow_succ]

theorem slenF_fit (f : Nat) (v : Int) (h : -128 ≤ v ∧ v ≤ 127) : slenF f v = 1 := by
  cases f <;> simp [slenF, h]
theorem slenF_not (f : Nat) (v : Int) (h : ¬ (-128 ≤ v ∧ v ≤ 127)) : slenF (f + 1) v = slenF f (v / 256) + 1 := by
  simp [slenF, h]
theorem slenF_bd : ∀ (f : Nat) (v : Int), 1 ≤ slenF f v ∧ slenF f v ≤ f + 1
  | 0, _ => by simp [slenF]
  | f + 1, v => by
    simp only [slenF]
    split
    · omega
    · have := slenF_bd f (v / 256)
      omega

theorem dlenF_lt (B : Int) (f : Nat) (v : Int) (h : v < B) : dlenF B f v = 1 := by
  cases f <;> simp [dlenF, h]
theorem dlenF_ge (B : Int) (f : Nat) (v : Int) (h : ¬ v < B) : dlenF B (f + 1) v = dlenF B f (v / B) + 1 := by
  simp [dlenF, h]
theorem dlenF_bd (B : Int) : ∀ (f : Nat) (v : Int), 1 ≤ dlenF B f v ∧ dlenF B f v ≤ f + 1
  | 0, _ => by simp [dlenF]
  | f + 1, v => by
    simp only [dlenF]
    split
    · omega
    · have := dlenF_bd B f (v / B)
      omega

end Go.Proofs.Ytikfogepdmpfaaa.Pl
