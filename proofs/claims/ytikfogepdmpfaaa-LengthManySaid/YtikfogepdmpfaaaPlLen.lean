/-
  Plain facts on the cuts of a length.
-/
namespace Go.Proofs.Ytikfogepdmpfaaa.Pl

/-- How many things stand behind the next determinant, of 16384 or more. -/
def cutK (n : Nat) : Nat := min (n / 16384) 4 * 16384

def cutsF : Nat → Nat → List Nat
  | 0, n => [n]
  | f + 1, n => if n < 16384 then [n] else cutK n :: cutsF f (n - cutK n)
def cuts (n : Nat) : List Nat := cutsF n n

theorem cutK_pos (n : Nat) (h : 16384 ≤ n) : 16384 ≤ cutK n ∧ cutK n ≤ n := by
  unfold cutK
  omega

theorem cutsF_fuel : ∀ (f g n : Nat), n ≤ f → n ≤ g → cutsF f n = cutsF g n
  | 0, 0, _, _, _ => rfl
  | 0, g + 1, n, h, _ => by
    obtain rfl : n = 0 := by omega
    simp [cutsF]
  | f + 1, 0, n, _, h => by
    obtain rfl : n = 0 := by omega
    simp [cutsF]
  | f + 1, g + 1, n, hf, hg => by
    simp only [cutsF]
    split
    · rfl
    · have := cutK_pos n (by omega)
      rw [cutsF_fuel f g (n - cutK n) (by omega) (by omega)]

theorem cuts_small (n : Nat) (h : n < 16384) : cuts n = [n] := by
  unfold cuts
  cases n with
  | zero => rfl
  | succ n => simp [cutsF, h]

theorem cuts_big (n : Nat) (h : 16384 ≤ n) : cuts n = cutK n :: cuts (n - cutK n) := by
  unfold cuts
  obtain ⟨m, rfl⟩ : ∃ m, n = m + 1 := ⟨n - 1, by omega⟩
  have := cutK_pos (m + 1) h
  rw [cutsF, if_neg (by omega), cutsF_fuel m (m + 1 - cutK (m + 1)) _ (by omega) (by omega)]

theorem cuts_length : ∀ (f n : Nat), (cutsF f n).length ≤ f + 1
  | 0, _ => by simp [cutsF]
  | f + 1, n => by
    simp only [cutsF]
    split
    · simp
    · have := cuts_length f (n - cutK n)
      simp
      omega

end Go.Proofs.Ytikfogepdmpfaaa.Pl
