/-
  Octets as a string; octets held against octets by the library's own entry.
-/
import Derived.Test.YtikfogepdmpfaaaMem
import Derived.Laws.BytesArg
import Derived.Laws.StandIn
namespace Go.Proofs.Ytikfogepdmpfaaa
open Go.RowKit

def strOf (l : List UInt8) : ByteArray := ⟨l.toArray⟩
theorem strOf_nums (l : List UInt8) : strOfNums (l.map fun c => (c.toNat : Int)) = strOf l := by
  unfold strOfNums strOf
  congr 1
  rw [List.map_map]
  congr 1
  have : ((fun n : Int => UInt8.ofNat n.toNat) ∘ fun c : UInt8 => (c.toNat : Int)) = id := by
    funext c
    simp
  rw [this, List.map_id]

section
variable {P : Program} {w : World} {A : Option Addr} {n c : Nat} {l : List UInt8}

theorem conv_rd (src e dst : TypeId) (hs : P.underlying src = some (.slice e)) (he : P.underlying e = some (.int .u8)) (hd : P.underlying dst = some .string) (h : Rd w A n c (bv l)) :
    (convert src dst (.slice A n c)).run P w = .ok (.string (strOf l)) w := by
  have hn := RdB.length h
  rcases Nat.eq_zero_or_pos n with h0 | h0
  · have hl : l = [] := List.eq_nil_of_length_eq_zero (by omega)
    subst hl
    subst h0
    cases A with
    | none => exact run_convert_bytes_nil w src e hs he 0 c dst hd
    | some ad =>
      rw [run_convert_bytes_string w src dst e _ 0 c hs he hd]
      exact run_bytesToString w ad 0 c [] (by simp [loadCells, loadCellsFrom])
  · obtain ⟨b, o, rfl, hc⟩ := h.2.2.2 h0
    rw [run_convert_bytes_arg w src e hs he b o n c (l.map fun c => (c.toNat : Int)) (by simp [hn]) (fun i hi => by
      have := hc i _ (bv_at l i (by omega))
      rw [this]
      simp [List.getD, show i < l.length by omega]) dst hd, strOf_nums]

theorem run_loadBytes : ∀ (l : List UInt8) (b o : Nat) (acc : ByteArray), (∀ (i : Nat) (u : Value), (bv l)[i]? = some u → w.cell? ⟨b, o + i, none⟩ = some u) →
    (Extern.Bytes.loadBytes ⟨b, o, none⟩ l.length acc).run P w = .ok ⟨acc.data ++ l.toArray⟩ w
  | [], _, _, acc, _ => by simp [Extern.Bytes.loadBytes]
  | x :: l, b, o, acc, h => by
    have h0 := h 0 (.int .u8 (x.toNat : Int)) rfl
    have ih := run_loadBytes l b (o + 1) (acc.push x) (fun i u hu => by
      have := h (i + 1) u hu
      rw [show o + 1 + i = o + (i + 1) from by omega]
      exact this)
    rw [Nat.add_zero] at h0
    simp only [List.length_cons, Extern.Bytes.loadBytes]
    have e : (⟨b, o, none⟩ : Addr).add 1 = ⟨b, o + 1, none⟩ := by rw [Addr.add_lit]
    simp only [Sem.run_bind, e]
    have hl : (load ⟨b, o, none⟩).run P w = .ok (.int .u8 (x.toNat : Int)) w := by
      simp [go_sem, h0]
    rw [hl]
    simp only [Result.andThen_ok]
    have ep : ((x.toNat : Int).toNat).toUInt8 = x := by simp
    rw [ep, ih]
    simp [ByteArray.push]

theorem run_bytesOf (h : Rd w A n c (bv l)) : (Extern.Bytes.bytesOf (.slice A n c)).run P w = .ok (strOf l) w := by
  have hn := RdB.length h
  rcases Nat.eq_zero_or_pos n with h0 | h0
  · have hl : l = [] := List.eq_nil_of_length_eq_zero (by omega)
    subst hl
    subst h0
    cases A <;> rfl
  · obtain ⟨b, o, rfl, hc⟩ := h.2.2.2 h0
    simp only [Extern.Bytes.bytesOf, hn]
    have := run_loadBytes (P := P) (w := w) l b o .empty hc
    rw [this]
    show Result.ok (⟨#[] ++ l.toArray⟩ : ByteArray) w = _
    simp [strOf]
end

/-- What the library's entry computes. -/
def cmpL (a b : List UInt8) : Int :=
  match (List.range (min a.length b.length)).find? fun i => a[i]! != b[i]! with
  | some i => if a[i]! < b[i]! then -1 else 1
  | none => if a.length < b.length then -1 else if a.length > b.length then 1 else 0

theorem strOf_size (l : List UInt8) : (strOf l).size = l.length := rfl
theorem strOf_at (l : List UInt8) (i : Nat) : (strOf l)[i]! = l[i]! := by
  by_cases h : i < l.length
  · rw [getElem!_pos l i h, getElem!_pos (strOf l) i h]
    rfl
  · rw [getElem!_neg l i h, getElem!_neg (strOf l) i h]

theorem cmp_list (a b : List UInt8) : Extern.BytealgCompare.cmp (strOf a) (strOf b) = cmpL a b := by
  unfold Extern.BytealgCompare.cmp cmpL
  simp only [strOf_size, strOf_at]
  cases List.find? (fun i => a[i]! != b[i]!) (List.range (min a.length b.length)) <;> rfl

theorem cmpL_eq : ∀ a b : List UInt8, cmpL a b = Pl.cmpB a b
  | [], [] => rfl
  | [], _ :: _ => by simp [cmpL, Pl.cmpB]
  | _ :: _, [] => by simp [cmpL, Pl.cmpB]
  | x :: xs, y :: ys => by
    have ih := cmpL_eq xs ys
    unfold cmpL at ih ⊢
    have e : min (x :: xs).length (y :: ys).length = min xs.length ys.length + 1 := by simp
    rw [e, List.range_succ_eq_map, List.find?_cons]
    by_cases h : x = y
    · subst h
      have hf : ((x :: xs)[0]! != (x :: ys)[0]!) = false := by simp
      simp only [hf, List.find?_map]
      simp only [Pl.cmpB, show ¬ x < x from fun h => by have := UInt8.lt_iff_toNat_lt.1 h; omega, if_false]
      rw [← ih]
      have hg : ((fun i => (x :: xs)[i]! != (x :: ys)[i]!) ∘ Nat.succ) = fun i => xs[i]! != ys[i]! := by
        funext i
        simp
      rw [hg]
      cases List.find? (fun i => xs[i]! != ys[i]!) (List.range (min xs.length ys.length)) with
      | none => simp
      | some j => simp
    · have hf : ((x :: xs)[0]! != (y :: ys)[0]!) = true := by simp [h]
      simp only [hf]
      simp only [Pl.cmpB]
      by_cases hlt : x < y
      · simp [hlt]
      · have hgt : y < x := by
          apply UInt8.lt_iff_toNat_lt.2
          have h1 := mt UInt8.lt_iff_toNat_lt.2 hlt
          have h2 : x.toNat ≠ y.toNat := fun e => h (UInt8.toNat_inj.1 e)
          omega
        simp [hlt, hgt]

theorem cmp_eq (a b : List UInt8) : Extern.BytealgCompare.cmp (strOf a) (strOf b) = Pl.cmpB a b := (cmp_list a b).trans (cmpL_eq a b)

end Go.Proofs.Ytikfogepdmpfaaa
