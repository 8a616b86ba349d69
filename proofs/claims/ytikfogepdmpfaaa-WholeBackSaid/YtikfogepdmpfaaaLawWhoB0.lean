import Derived.Test.YtikfogepdmpfaaaPlWhole
import Derived.Test.YtikfogepdmpfaaaOpenOp2
import Derived.Deep.RegionHeld3
namespace Go.Proofs.Ytikfogepdmpfaaa
open Go.RowKit

theorem and_mask_w (v : Int) (m : Nat) (h0 : 0 ≤ v) (h1 : v < 18446744073709551616) (hm : m ≤ 63) : bits BinOp.and IntKind.u64 v (2 ^ m - 1) = v % 2 ^ m := by
  have hp : (0 : Int) < 2 ^ m := Int.pow_pos (by omega)
  have hpb : (2 : Int) ^ m ≤ 9223372036854775808 := by
    have := Nat.pow_le_pow_right (n := 2) (by omega) hm
    have e : ((2 ^ m : Nat) : Int) = 2 ^ m := by simp
    omega
  have e1 : ((2 : Int) ^ m - 1) = ((2 ^ m - 1 : Nat) : Int) := by
    have e : ((2 ^ m : Nat) : Int) = 2 ^ m := by simp
    have : 0 < 2 ^ m := Nat.pow_pos (by omega)
    omega
  have h := bits_and_u64_nat v.toNat (2 ^ m - 1) (by omega) (by omega)
  rw [Int.toNat_of_nonneg h0, ← e1] at h
  rw [h, Nat.and_two_pow_sub_one_eq_mod]
  rw [Int.natCast_emod, Int.toNat_of_nonneg h0]
  simp

theorem mask_w (v n : Int) (m : Nat) (hm : (m : Int) = max 0 (min n 64)) (h : max 0 (min n 64) < 64) (h0 : 0 ≤ v) (h1 : v < 18446744073709551616) :
    bits BinOp.and IntKind.u64 v (IntKind.u64.wrap (IntKind.u64.wrap (2 ^ (max 0 (min n 64)).toNat) - 1)) = v % 2 ^ m := by
  have hm63 : m ≤ 63 := by omega
  have hp : (0 : Int) < 2 ^ m := Int.pow_pos (by omega)
  have hpb : (2 : Int) ^ m ≤ 9223372036854775808 := by
    have := Nat.pow_le_pow_right (n := 2) (by omega) hm63
    have e : ((2 ^ m : Nat) : Int) = 2 ^ m := by simp
    omega
  rw [show (max 0 (min n 64)).toNat = m by omega]
  have e2 : IntKind.u64.wrap (2 ^ m) = 2 ^ m := by rw [IntKind.wrap_u64]; omega
  have e3 : IntKind.u64.wrap (2 ^ m - 1) = 2 ^ m - 1 := by rw [IntKind.wrap_u64]; omega
  rw [e2, e3, and_mask_w v m h0 h1 hm63]
theorem mask_all (v n : Int) (m : Nat) (hm : (m : Int) = max 0 (min n 64)) (h : ¬ max 0 (min n 64) < 64) (h0 : 0 ≤ v) (h1 : v < 18446744073709551616) : v % 2 ^ m = v := by
  obtain rfl : m = 64 := by omega
  omega
/-- The number that a call of Small writes. -/
def sN (n : Int) : Int := n % 18446744073709551616 % 10001
theorem sN_bd (n : Int) : 0 ≤ sN n ∧ sN n ≤ 10000 := by unfold sN; omega
theorem sN_eq (n : Int) : wrap64 ((IntKind.u64.wrap n).tmod 10001) = sN n := by
  rw [IntKind.wrap_u64, Int.tmod_eq_emod_of_nonneg (by omega)]
  unfold wrap64 sN
  omega
/-- The bits that one call of a script writes. -/
def enc2 (op : Op2) : List Bool := if op.kind = 1 then Pl.octB op.b else if op.kind = 2 then Pl.bitsOf (min op.v op.s) (wid op.s) else if op.kind = 3 then smallB (sN op.n) else Pl.bitsOf op.v (cl64 op.n)
/-- The calls that are taken of the first i ones; their bits. -/
def tk (ops : List Op2) (i : Nat) : List Op2 := (ops.take i).filter fun o => decide (o.b.length ≤ 200)
def en2 (l : List Op2) : List Bool := l.flatMap enc2
theorem tk_zero (ops : List Op2) : tk ops 0 = [] := rfl
theorem tk_yes (ops : List Op2) (i : Nat) (h : i < ops.length) (hb : ops[i].b.length ≤ 200) : tk ops (i + 1) = tk ops i ++ [ops[i]] := by
  unfold tk
  rw [List.take_succ_eq_append_getElem h, List.filter_append]
  congr 1
  simp [hb]
theorem tk_no (ops : List Op2) (i : Nat) (h : i < ops.length) (hb : ¬ ops[i].b.length ≤ 200) : tk ops (i + 1) = tk ops i := by
  unfold tk
  rw [List.take_succ_eq_append_getElem h, List.filter_append]
  simp [hb]
theorem tk_len (ops : List Op2) (i : Nat) : (tk ops i).length ≤ i := by
  unfold tk
  have := List.length_filter_le (fun o : Op2 => decide (o.b.length ≤ 200)) (ops.take i)
  rw [List.length_take] at this
  omega
theorem en2_snoc (l : List Op2) (op : Op2) : en2 (l ++ [op]) = en2 l ++ enc2 op := by
  unfold en2
  rw [List.flatMap_append]
  simp
theorem enc2_le (op : Op2) (h : op.b.length ≤ 200) : (enc2 op).length ≤ 1600 := by
  have h1 := wid_le op.s
  have h2 := cl64_le op.n
  have h3 := smallB_le (sN op.n)
  unfold enc2
  split
  · rw [Pl.octB_length]; omega
  · split
    · rw [Pl.bitsOf_length]; omega
    · split
      · omega
      · rw [Pl.bitsOf_length]; omega
theorem en2_tk_le (ops : List Op2) : ∀ i, i ≤ ops.length → (en2 (tk ops i)).length ≤ 1600 * i
  | 0, _ => by simp [tk_zero, en2]
  | i + 1, h => by
    have ih := en2_tk_le ops i (by omega)
    by_cases hb : (ops[i]'(by omega)).b.length ≤ 200
    · rw [tk_yes ops i (by omega) hb, en2_snoc, List.length_append]
      have := enc2_le _ hb
      omega
    · rw [tk_no ops i (by omega) hb]
      omega
theorem en2_mid (l : List Op2) (j : Nat) (h : j < l.length) : ∃ post, en2 l = en2 (l.take j) ++ enc2 l[j] ++ post := by
  refine ⟨en2 (l.drop (j + 1)), ?_⟩
  have hl : l = l.take j ++ [l[j]] ++ l.drop (j + 1) := by
    rw [← List.take_succ_eq_append_getElem h, List.take_append_drop]
  have h2 : en2 l = en2 (l.take j ++ [l[j]] ++ l.drop (j + 1)) := congrArg en2 hl
  rw [h2]
  unfold en2
  rw [List.flatMap_append, List.flatMap_append]
  simp
theorem en2_take_succ (l : List Op2) (j : Nat) (h : j < l.length) : en2 (l.take (j + 1)) = en2 (l.take j) ++ enc2 l[j] := by
  rw [List.take_succ_eq_append_getElem h, en2_snoc]

/-- The cells of a list of calls. -/
def LstAt (w0 : World) (xs : List Value) (i : Nat) (op : Op2) : Prop :=
  ∃ A' n' c', xs[5 * i]? = some (.int .i64 op.kind) ∧ xs[5 * i + 1]? = some (.int .i64 op.n) ∧ xs[5 * i + 2]? = some (.int .u64 op.v) ∧ xs[5 * i + 3]? = some (.int .u64 op.s) ∧ xs[5 * i + 4]? = some (.slice A' n' c') ∧
    Rd w0 A' n' c' (bv op.b) ∧ op.b.length ≤ 200 ∧ (-9223372036854775808 ≤ op.kind ∧ op.kind ≤ 9223372036854775807) ∧ (-9223372036854775808 ≤ op.n ∧ op.n ≤ 9223372036854775807) ∧ (0 ≤ op.v ∧ op.v < 18446744073709551616) ∧ (0 ≤ op.s ∧ op.s < 18446744073709551616)
def Lst (w0 : World) (xs : List Value) (l : List Op2) : Prop :=
  xs.length = 5 * l.length ∧ ∀ (i : Nat) (op : Op2), l[i]? = some op → LstAt w0 xs i op
theorem Lst.nil (w0 : World) : Lst w0 [] [] := ⟨rfl, fun i op h => by simp at h⟩
theorem Lst.snoc {w0 : World} {xs : List Value} {l : List Op2} (h : Lst w0 xs l) (op : Op2) {A' : Option Addr} {n' c' : Nat} (hr : Rd w0 A' n' c' (bv op.b)) (hb : op.b.length ≤ 200)
    (hk : (-9223372036854775808 ≤ op.kind ∧ op.kind ≤ 9223372036854775807) ∧ (-9223372036854775808 ≤ op.n ∧ op.n ≤ 9223372036854775807) ∧ (0 ≤ op.v ∧ op.v < 18446744073709551616) ∧ (0 ≤ op.s ∧ op.s < 18446744073709551616)) :
    Lst w0 (xs ++ [.int .i64 op.kind, .int .i64 op.n, .int .u64 op.v, .int .u64 op.s, .slice A' n' c']) (l ++ [op]) := by
  have hx := h.1
  refine ⟨by simp only [List.length_append, List.length_cons, List.length_nil]; omega, fun i o hi => ?_⟩
  by_cases hil : i < l.length
  · rw [List.getElem?_append_left hil] at hi
    obtain ⟨A, n, c, c0, c1, c2, c3, c4, hh⟩ := h.2 i o hi
    refine ⟨A, n, c, ?_, ?_, ?_, ?_, ?_, hh⟩
    all_goals
      rw [List.getElem?_append_left (by omega)]
      assumption
  · have hi' : i = l.length := by
      have := (List.getElem?_eq_some_iff.1 hi).1
      simp only [List.length_append, List.length_cons, List.length_nil] at this
      omega
    subst hi'
    rw [List.getElem?_append_right (Nat.le_refl _), Nat.sub_self] at hi
    simp only [List.getElem?_cons_zero, Option.some.injEq] at hi
    subst hi
    refine ⟨A', n', c', ?_, ?_, ?_, ?_, ?_, hr, hb, hk⟩
    all_goals
      rw [List.getElem?_append_right (by omega)]
    · rw [show 5 * l.length - xs.length = 0 by omega]; rfl
    · rw [show 5 * l.length + 1 - xs.length = 1 by omega]; rfl
    · rw [show 5 * l.length + 2 - xs.length = 2 by omega]; rfl
    · rw [show 5 * l.length + 3 - xs.length = 3 by omega]; rfl
    · rw [show 5 * l.length + 4 - xs.length = 4 by omega]; rfl

/-- The list of calls, as the second loop reads it. -/
def RdL (w0 wr : World) (A : Option Addr) (L : List Op2) : Prop := ∀ (j : Nat) (op : Op2), L[j]? = some op →
  ∃ b o A' n' c', A = some ⟨b, o, none⟩ ∧ wr.cell? ⟨b, o + j * 5, none⟩ = some (.int .i64 op.kind) ∧ wr.cell? ⟨b, o + j * 5 + 1, none⟩ = some (.int .i64 op.n) ∧ wr.cell? ⟨b, o + j * 5 + 2, none⟩ = some (.int .u64 op.v) ∧ wr.cell? ⟨b, o + j * 5 + 3, none⟩ = some (.int .u64 op.s) ∧ wr.cell? ⟨b, o + j * 5 + 4, none⟩ = some (.slice A' n' c') ∧
    Rd w0 A' n' c' (bv op.b) ∧ op.b.length ≤ 200 ∧ (-9223372036854775808 ≤ op.kind ∧ op.kind ≤ 9223372036854775807) ∧ (-9223372036854775808 ≤ op.n ∧ op.n ≤ 9223372036854775807) ∧ (0 ≤ op.v ∧ op.v < 18446744073709551616) ∧ (0 ≤ op.s ∧ op.s < 18446744073709551616)
theorem RdL.of {w0 wr : World} {A : Option Addr} {M c B : Nat} {T : TypeId} {xs : List Value} {L : List Op2} (h : wr.ownsRow B T 5 (.slice A M c) M xs) (hl : Lst w0 xs L) (hM : L.length = M) : RdL w0 wr A L := by
  intro j op hj
  have hjl := (List.getElem?_eq_some_iff.1 hj).1
  obtain ⟨A', n', c', c0, c1, c2, c3, c4, hr, hb, hk⟩ := hl.2 j op hj
  rcases h.2 with ⟨hv, h0⟩ | ⟨g, cap, cur, hv, _⟩
  · omega
  · cases hv
    have hc : ∀ k u, xs[k]? = some u → wr.cell? ⟨g, 0 + k, none⟩ = some u := fun k u hu => by
      have := h.cells (g := g) rfl k u hu
      rwa [Addr.add_lit] at this
    have hc0 := hc _ _ c0
    have hc1 := hc _ _ c1
    have hc2 := hc _ _ c2
    have hc3 := hc _ _ c3
    have hc4 := hc _ _ c4
    rw [Nat.mul_comm 5 j] at hc0 hc1 hc2 hc3 hc4
    exact ⟨g, 0, A', n', c', rfl, hc0, hc1, hc2, hc3, hc4, hr, hb, hk⟩


section
variable {D : Nat → Prop} {P q : Nat} {L : List Op2} {j : Nat} {op : Op2} {em : Bool}
theorem mid_of (hj : L[j]? = some op) : (∃ post, en2 L = en2 (L.take j) ++ enc2 op ++ post) ∧ (en2 (L.take (j + 1))).length = (en2 (L.take j)).length + (enc2 op).length := by
  obtain ⟨h, rfl⟩ := List.getElem?_eq_some_iff.1 hj
  refine ⟨en2_mid L j h, ?_⟩
  rw [en2_take_succ L j h, List.length_append]
theorem back_rbits (hj : L[j]? = some op) (hE : enc2 op = Pl.bitsOf op.v (cl64 op.n)) (W : World) (h : Wd W P q D (packW (en2 L)) (en2 (L.take j)).length 0 em) :
    Calls Try.prog 66 #[.pointer (some ⟨P, 0, none⟩), .int .i64 op.n] W (WdPost W P q D (packW (en2 L)) (en2 (L.take (j + 1))).length 0 em (.int .u64 (op.v % 2 ^ cl64 op.n))) := by
  have hk := wdBits_any (D := D) P q (packW (en2 L)) (en2 (L.take j)).length 0 op.n em W h
  obtain ⟨⟨post, hm⟩, hl⟩ := mid_of hj
  obtain ⟨e1, e2, e3⟩ := back_bits (en2 L) (en2 (L.take j)) (enc2 op) post hm
  rw [hE] at e1 e2 e3 hl
  rw [Pl.bitsOf_length] at e1 e2 e3 hl
  rw [e1, e2, e3, ← hl, Pl.num_bitsOf] at hk
  exact hk
theorem back_rocts (hj : L[j]? = some op) (hE : enc2 op = Pl.octB op.b) (n : Int) (hn : n = (op.b.length : Int)) (hn2 : op.b.length ≤ 200) (W : World) (h : Wd W P q D (packW (en2 L)) (en2 (L.take j)).length 0 em) :
    Calls Try.prog 71 #[.pointer (some ⟨P, 0, none⟩), .int .i64 n] W (WoPost W P q D (packW (en2 L)) (en2 (L.take (j + 1))).length 0 em op.b) := by
  have hk := wdOcts_any (D := D) P q (packW (en2 L)) (en2 (L.take j)).length 0 n em W h (by omega)
  obtain ⟨⟨post, hm⟩, hl⟩ := mid_of hj
  rw [hE] at hm hl
  obtain ⟨e1, e2, e3⟩ := back_octs (en2 L) (en2 (L.take j)) post op.b hm
  rw [Pl.octB_length] at hl
  rw [show clOct n = op.b.length by unfold clOct; omega] at hk
  rw [e1, e2, e3, ← hl] at hk
  exact hk
theorem back_rbetween (hj : L[j]? = some op) (hE : enc2 op = Pl.bitsOf (min op.v op.s) (wid op.s)) (hv : 0 ≤ op.v) (hs : 0 ≤ op.s ∧ op.s < 18446744073709551616) (W : World) (h : Wd W P q D (packW (en2 L)) (en2 (L.take j)).length 0 em) :
    Calls Try.prog 73 #[.pointer (some ⟨P, 0, none⟩), .int .u64 op.s] W (WdPost W P q D (packW (en2 L)) (en2 (L.take (j + 1))).length 0 em (.int .u64 (min op.v op.s))) := by
  have hk := wdBetween_any (D := D) P q (packW (en2 L)) (en2 (L.take j)).length 0 op.s em W h hs.1 hs.2
  obtain ⟨⟨post, hm⟩, hl⟩ := mid_of hj
  rw [hE] at hm hl
  obtain ⟨e1, e2, e3⟩ := back_between (en2 L) (en2 (L.take j)) post op.v op.s hv hs.1 hs.2 hm
  rw [Pl.bitsOf_length] at hl
  rw [e1, e2, e3, ← hl] at hk
  exact hk
theorem back_rsmall (hj : L[j]? = some op) (hE : enc2 op = smallB (sN op.n)) (W : World) (h : Wd W P q D (packW (en2 L)) (en2 (L.take j)).length 0 em) :
    Calls Try.prog 75 #[.pointer (some ⟨P, 0, none⟩)] W (WdPost W P q D (packW (en2 L)) (en2 (L.take (j + 1))).length 0 em (.int .i64 (sN op.n))) := by
  have hk := wdSmall_any (D := D) P q (packW (en2 L)) (en2 (L.take j)).length 0 em W h
  obtain ⟨⟨post, hm⟩, hl⟩ := mid_of hj
  rw [hE] at hm hl
  obtain ⟨e1, e2, e3⟩ := back_small (en2 L) (en2 (L.take j)) post (sN op.n) (sN_bd _).1 (sN_bd _).2 hm
  rw [e1, e2, e3, ← hl] at hk
  exact hk
end
end Go.Proofs.Ytikfogepdmpfaaa
