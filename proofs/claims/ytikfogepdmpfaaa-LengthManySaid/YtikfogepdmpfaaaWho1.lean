import Derived.Test.YtikfogepdmpfaaaRed7
import Derived.Test.YtikfogepdmpfaaaWidth
import Derived.Test.YtikfogepdmpfaaaOct2
import Derived.Test.YtikfogepdmpfaaaOct4
namespace Go.Proofs.Ytikfogepdmpfaaa
open Go.RowKit

theorem bitsOf_add (k : Nat) : ∀ (a : Nat) (v t : Int), k ≤ a → Pl.bitsOf (v + 2 ^ a * t) k = Pl.bitsOf v k := by
  induction k with
  | zero => intro a v t _; rfl
  | succ k ih =>
    intro a v t h
    obtain ⟨a, rfl⟩ : ∃ b, a = b + 1 := ⟨a - 1, by omega⟩
    rw [Pl.bitsOf_succ, Pl.bitsOf_succ]
    have e : (2 : Int) ^ (a + 1) * t = 2 * (2 ^ a * t) := by rw [Int.pow_succ, Int.mul_comm (2 ^ a) 2, Int.mul_assoc]
    have h1 : (v + 2 ^ (a + 1) * t) / 2 = v / 2 + 2 ^ a * t := by rw [e]; omega
    have h2 : (v + 2 ^ (a + 1) * t) % 2 = v % 2 := by rw [e]; omega
    rw [h1, h2, ih a _ _ (by omega)]
theorem bitsOf_mod32 (v : Int) (k : Nat) (h : k ≤ 32) : Pl.bitsOf (v % 4294967296) k = Pl.bitsOf v k := by
  have := bitsOf_add k 32 (v % 4294967296) (v / 4294967296) h
  rw [← this]
  congr 1
  have e : (2 : Int) ^ 32 = 4294967296 := by decide
  rw [e]
  omega
theorem bits_split' (k d : Nat) : ∀ v : Int, Pl.bitsOf v (k + d) = Pl.bitsOf (v / 2 ^ d) k ++ Pl.bitsOf v d := by
  induction d with
  | zero => intro v; simp [Pl.bitsOf]
  | succ d ih =>
    intro v
    rw [show k + (d + 1) = (k + d) + 1 by omega, Pl.bitsOf_succ, ih, Pl.bitsOf_succ v d, List.append_assoc]
    rw [Int.pow_succ, Int.mul_comm (2 ^ d) 2, ← Int.ediv_ediv_of_nonneg (by omega)]

def cl64 (n : Int) : Nat := (max 0 (min n 64)).toNat
theorem cl64_le (n : Int) : cl64 n ≤ 64 := by unfold cl64; omega
theorem cl64_val (n : Int) : ((cl64 n : Nat) : Int) = max 0 (min n 64) := by unfold cl64; omega
/-- A number in two halves. -/
theorem halves (v : Int) (m : Nat) (h : m ≤ 64) : Pl.bitsOf (v / 4294967296) (cl32 ((m : Int) - 32)) ++ Pl.bitsOf (v % 4294967296) (cl32 (min (m : Int) 32)) = Pl.bitsOf v m := by
  by_cases h32 : 32 < m
  · rw [show min (m : Int) 32 = 32 by omega, show cl32 ((m : Int) - 32) = m - 32 by unfold cl32; omega, show cl32 32 = 32 by decide, bitsOf_mod32 _ _ (by omega)]
    have := bits_split' (m - 32) 32 v
    rw [show m - 32 + 32 = m by omega] at this
    rw [this]
    rfl
  · rw [show min (m : Int) 32 = (m : Int) by omega, show cl32 ((m : Int) - 32) = 0 by unfold cl32; omega, show cl32 (m : Int) = m by unfold cl32; omega, bitsOf_mod32 _ _ (by omega)]
    simp [Pl.bitsOf]

theorem Mv.comp {w w' : World} {g g' g'' : Option Nat} {p : Nat} (h : Mv w g g') (u : Upd p g w w') (k : Mv w' g' g'') : Mv w g g'' := h.trans u.size k

theorem wbounded_any (n : Int) (w : World) : Calls Try.prog 91 #[.int .i64 n] w fun e w' => e = .returned (.int .i64 ((cl64 n : Nat) : Int)) ∧ w = w' := by
  have hc := hide (cl64_val n)
  by_cases h32 : 64 < n
  · go_enter Try.func91, Try.ntmps91
    go_wp2
    go_ret
    exact ⟨ret_int (by rw [hc.out]; all_goals omega), rfl⟩
  · by_cases h0 : 0 < n
    · go_enter Try.func91, Try.ntmps91
      go_wp2
      go_ret
      exact ⟨ret_int (by rw [hc.out]; all_goals omega), rfl⟩
    · go_enter Try.func91, Try.ntmps91
      go_wp2
      go_ret
      exact ⟨ret_int (by rw [hc.out]; all_goals omega), rfl⟩

set_option maxHeartbeats 800000 in
theorem wBits_any (v n : Int) (base p : Nat) (g : Option Nat) (l : List Bool) (w : World) (h : Wr w base p g l) (hl : l.length ≤ 1099511610000) (hB : base ≤ w.heap.size) (hv0 : 0 ≤ v) (hv1 : v < 18446744073709551616) :
    Calls Try.prog 41 #[.pointer (some ⟨p, 0, none⟩), .int .u64 v, .int .i64 n] w (BitPost w base p g (l ++ Pl.bitsOf v (cl64 n))) := by
  have hm := cl64_le n
  have kB := hide (fun w => wbounded_any n w)
  have H := hide h
  have HB := hide hB
  have HL := hide hl
  generalize cl64 n = m at *
  have hh := halves v m hm
  clear h hB hl
  have hm0 : (0 : Int) ≤ (m : Int) := by omega
  have hm1 : (m : Int) ≤ 64 := by omega
  have HH := hide hh
  clear hh
  go_enter Try.func41, Try.ntmps41
  go_wp2_with (fail)
  refine (kB.out _).mono ?_
  rintro e w' ⟨rfl, rfl⟩
  go_wp2_with (fail)
  refine (bits_any _ _ base p g l _ H.out (by have := HL.out; omega) HB.out).mono ?_
  rintro e w1 ⟨rfl, g1, hw1, hu1, hm1⟩
  have W1 := hide hw1
  have U1 := hide hu1
  have M1 := hide hm1
  have hlen := hide (show (l ++ Pl.bitsOf (v / 4294967296) (cl32 ((m : Int) - 32))).length ≤ 1099511620000 by
    have := HL.out
    have := cl32_le ((m : Int) - 32)
    rw [List.length_append, Pl.bitsOf_length]
    omega)
  clear hw1 hu1 hm1
  go_wp2_with (fail)
  refine (bits_any _ _ base p g1 _ _ W1.out hlen.out (Nat.le_trans HB.out U1.out.size)).mono ?_
  rintro e w2 ⟨rfl, g2, hw2, hu2, hm2⟩
  rw [List.append_assoc, HH.out] at hw2
  have W2 := hide hw2
  have U2 := hide (U1.out.trans M1.out hu2)
  have M2 := hide (M1.out.comp U1.out hm2)
  clear hw2 hu2 hm2
  go_wp2
  refine bodyPost_end (results_none rfl _ _ _) rfl ?_
  exact ⟨rfl, g2, W2.out, U2.out, M2.out⟩
theorem wBits_nil (v n : Int) (w : World) :
    Calls Try.prog 41 #[.pointer none, .int .u64 v, .int .i64 n] w fun e w' => e = .returned (.tuple #[]) ∧ w = w' := by
  go_enter Try.func41, Try.ntmps41
  go_wp2
  refine bodyPost_ret (results_none rfl _ _ _) rfl ?_
  exact ⟨rfl, rfl⟩

set_option maxHeartbeats 800000 in
theorem wOcts_any (base p : Nat) (g : Option Nat) (l : List Bool) (A : Option Addr) (n c : Nat) (b : List UInt8) (w : World) (h : Wr w base p g l) (hl : l.length + 8 * b.length ≤ 1099511620000) (hB : base ≤ w.heap.size) (hr : Rd w A n c (bv b)) (ho : Off p g A n) :
    Calls Try.prog 35 #[.pointer (some ⟨p, 0, none⟩), .slice A n c] w (BitPost w base p g (l ++ Pl.octB b)) := by
  have H := hide h
  have HB := hide hB
  have hflat : Hid (([b] : List (List UInt8)).flatten = b) := by unfold Hid; simp
  have hps := h.lt
  have hgl := h.glt
  have rp := RdV.one (w := w.alloc (.cells #[.slice A n c] 23)) (b := w.heap.size) (c := 1) (cell_new rfl rfl) (by omega) (by unfold maxLen; omega) (l1 := b) (hr.alloc _)
  have HV : Hid (∀ w', Upd p g (w.alloc (.cells #[.slice A n c] 23)) w' → RdV w' (some ⟨w.heap.size, 0, none⟩) 1 1 [.slice A n c] [b]) := fun w' u => rp.upd u (Off.mk 1 (by omega) (fun e => by have := (hgl _ e.symm).2; omega)) (fun j A9 n9 c9 h => by
    match j, h with
    | 0, h => cases h; exact ho)
  have HL := hide hl
  clear rp hr ho h hB hps hgl hl
  go_enter Try.func35, Try.ntmps35
  go_wp2_with (fail)
  refine (octs_any base p g l _ _ _ [b] _ (H.out.alloc _) (by rw [hflat.out]; exact HL.out) (by have := HB.out; simp; omega) _ HV.out).mono ?_
  rintro e w2 ⟨rfl, g2, hw2, hu2, hm2⟩
  rw [hflat.out] at hw2
  have W2 := hide hw2
  have U2 := hide (((Upd.refl p g w).alloc (.cells #[.slice A n c] 23)).trans (Mv.refl _ _) hu2)
  have M2 := hide ((Mv.refl w g).comp ((Upd.refl p g w).alloc (.cells #[.slice A n c] 23)) hm2)
  clear hw2 hu2 hm2
  go_wp2
  refine bodyPost_end (results_none rfl _ _ _) rfl ?_
  exact ⟨rfl, g2, W2.out, U2.out, M2.out⟩
theorem wOcts_nil (A : Option Addr) (n c : Nat) (w : World) :
    Calls Try.prog 35 #[.pointer none, .slice A n c] w fun e w' => e = .returned (.tuple #[]) ∧ w = w' := by
  go_enter Try.func35, Try.ntmps35
  go_wp2
  refine bodyPost_end (results_none rfl _ _ _) rfl ?_
  exact ⟨rfl, rfl⟩

/-- How many bits a number has, as a count. -/
def wid (x : Int) : Nat := Lib.bitLen x.toNat
theorem wid_le (x : Int) : wid x ≤ 64 := Pl.width_le x.toNat
theorem cl64_wid (x : Int) : cl64 (widthI x) = wid x := by
  have := wid_le x
  unfold cl64 widthI
  unfold wid at *
  omega

set_option maxHeartbeats 800000 in
theorem wBetween_any (v s : Int) (base p : Nat) (g : Option Nat) (l : List Bool) (w : World) (h : Wr w base p g l) (hl : l.length ≤ 1099511610000) (hB : base ≤ w.heap.size) (hv0 : 0 ≤ v) (hv1 : v < 18446744073709551616) (hs0 : 0 ≤ s) (hs1 : s < 18446744073709551616) :
    Calls Try.prog 37 #[.pointer (some ⟨p, 0, none⟩), .int .u64 v, .int .u64 s] w (BitPost w base p g (l ++ Pl.bitsOf (min v s) (wid s))) := by
  have kW := hide (fun w => width_any s w hs0 hs1)
  have kB := hide (fun x (hx : 0 ≤ x ∧ x < 18446744073709551616) => wBits_any x (widthI s) base p g l w h hl hB hx.1 hx.2)
  rw [cl64_wid] at kB
  clear h hl hB
  go_enter Try.func37, Try.ntmps37
  go_wp2_with (fail)
  refine (kW.out _).mono ?_
  rintro e w' ⟨rfl, rfl⟩
  go_wp2_with (fail)
  refine (kB.out _ (by omega)).mono ?_
  rintro e w2 ⟨rfl, hx⟩
  have HX := hide hx
  clear hx
  go_wp2
  refine bodyPost_end (results_none rfl _ _ _) rfl ?_
  exact ⟨rfl, HX.out⟩
theorem wBetween_nil (v s : Int) (w : World) (hs0 : 0 ≤ s) (hs1 : s < 18446744073709551616) :
    Calls Try.prog 37 #[.pointer none, .int .u64 v, .int .u64 s] w fun e w' => e = .returned (.tuple #[]) ∧ w = w' := by
  have kW := hide (fun w => width_any s w hs0 hs1)
  go_enter Try.func37, Try.ntmps37
  go_wp2_with (fail)
  refine (kW.out _).mono ?_
  rintro e w' ⟨rfl, rfl⟩
  go_wp2_with (fail)
  refine (wBits_nil _ _ _).mono ?_
  rintro e w' ⟨rfl, rfl⟩
  go_wp2
  refine bodyPost_end (results_none rfl _ _ _) rfl ?_
  exact ⟨rfl, rfl⟩
end Go.Proofs.Ytikfogepdmpfaaa
