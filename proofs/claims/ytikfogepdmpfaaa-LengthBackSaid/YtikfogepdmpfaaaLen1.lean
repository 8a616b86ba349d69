import Derived.Test.YtikfogepdmpfaaaWho3
import Derived.Test.YtikfogepdmpfaaaCuts
import Derived.Test.YtikfogepdmpfaaaJoin
import Derived.Test.YtikfogepdmpfaaaPlLen
namespace Go.Proofs.Ytikfogepdmpfaaa
open Go.RowKit

/-- The bits of a determinant. -/
def det (n : Int) : List Bool := if n < 128 then Pl.bitsOf n 8 else if n < 16384 then Pl.bitsOf 2 2 ++ Pl.bitsOf n 14 else Pl.bitsOf 3 2 ++ Pl.bitsOf (n / 16384) 6
theorem det_short (n : Int) (h : n < 128) : det n = Pl.bitsOf n 8 := by unfold det; rw [if_pos h]
theorem det_long (n : Int) (h : ¬ n < 128) (h2 : n < 16384) : det n = Pl.bitsOf 2 2 ++ Pl.bitsOf n 14 := by unfold det; rw [if_neg h, if_pos h2]
theorem det_more (n : Int) (h2 : ¬ n < 16384) : det n = Pl.bitsOf 3 2 ++ Pl.bitsOf (n / 16384) 6 := by unfold det; rw [if_neg (by omega), if_neg h2]
theorem det_long' (n : Int) (h : ¬ n < 128) (h2 : n < 16384) : Pl.bitsOf (32768 + n) 16 = det n := by
  rw [det_long n h h2, bits_split' 2 14]
  have e1 : (32768 + n) / 2 ^ 14 = 2 := by
    rw [show (2 : Int) ^ 14 = 16384 by decide]
    omega
  have e2 : Pl.bitsOf (32768 + n) 14 = Pl.bitsOf n 14 := by
    have := bitsOf_add 14 14 n 2 (Nat.le_refl _)
    rw [show n + 2 ^ 14 * 2 = 32768 + n by rw [show (2 : Int) ^ 14 = 16384 by decide]; omega] at this
    exact this
  rw [e1, e2]
theorem det_more' (n : Int) (h2 : ¬ n < 16384) (h3 : n ≤ 65536) : Pl.bitsOf (192 + n / 16384) 8 = det n := by
  rw [det_more n h2, bits_split' 2 6]
  have e1 : (192 + n / 16384) / 2 ^ 6 = 3 := by
    rw [show (2 : Int) ^ 6 = 64 by decide]
    omega
  have e2 : Pl.bitsOf (192 + n / 16384) 6 = Pl.bitsOf (n / 16384) 6 := by
    have := bitsOf_add 6 6 (n / 16384) 3 (Nat.le_refl _)
    rw [show n / 16384 + 2 ^ 6 * 3 = 192 + n / 16384 by rw [show (2 : Int) ^ 6 = 64 by decide]; omega] at this
    exact this
  rw [e1, e2]
theorem det_le (n : Int) : (det n).length ≤ 16 := by
  unfold det
  split
  · rw [Pl.bitsOf_length]; omega
  · split <;> simp only [List.length_append, Pl.bitsOf_length] <;> omega

/-- Octets behind their determinants. -/
def putL : List Nat → List UInt8 → List Bool
  | [], _ => []
  | k :: ks, bs => det (k : Int) ++ Pl.octB (bs.take k) ++ putL ks (bs.drop k)

set_option maxHeartbeats 800000 in
theorem lput_more (n : Int) (base p : Nat) (g : Option Nat) (l : List Bool) (w : World) (h : Wr w base p g l) (hl : l.length ≤ 1099511600000) (hB : base ≤ w.heap.size) (h1 : 16384 ≤ n) (h2 : n ≤ 65536) :
    Calls Try.prog 96 #[.pointer (some ⟨p, 0, none⟩), .int .i64 n, .bool true] w (BitPost w base p g (l ++ det n)) := by
  rw [det_more n (by omega)]
  have H := hide h
  have HB := hide hB
  have HL := hide hl
  clear h hB hl
  have hq0 : 0 ≤ n / 16384 := by omega
  have hq1 : n / 16384 ≤ 4 := by omega
  go_enter Try.func96, Try.ntmps96
  go_wp2_with (fail)
  refine (wBits_any 3 2 base p g l _ H.out (by have := HL.out; omega) HB.out (by omega) (by omega)).mono ?_
  rintro e w1 ⟨rfl, g1, hw1, hu1, hm1⟩
  rw [show cl64 2 = 2 by decide] at hw1
  have W1 := hide hw1
  have U1 := hide hu1
  have M1 := hide hm1
  have hlen := hide (show (l ++ Pl.bitsOf 3 2).length ≤ 1099511600002 by rw [List.length_append, Pl.bitsOf_length]; have := HL.out; omega)
  clear hw1 hu1 hm1
  go_wp2_with (fail)
  refine (wBits_any (n / 16384) 6 base p g1 _ _ W1.out (by have := hlen.out; omega) (Nat.le_trans HB.out U1.out.size) hq0 (by omega)).mono ?_
  rintro e w2 ⟨rfl, g2, hw2, hu2, hm2⟩
  rw [show cl64 6 = 6 by decide, List.append_assoc] at hw2
  have W2 := hide hw2
  have U2 := hide (U1.out.trans M1.out hu2)
  have M2 := hide (M1.out.comp U1.out hm2)
  clear hw2 hu2 hm2
  go_wp2
  refine bodyPost_end (results_none rfl _ _ _) rfl ?_
  exact ⟨rfl, g2, W2.out, U2.out, M2.out⟩
set_option maxHeartbeats 800000 in
theorem lput_less (n : Int) (base p : Nat) (g : Option Nat) (l : List Bool) (w : World) (h : Wr w base p g l) (hl : l.length ≤ 1099511600000) (hB : base ≤ w.heap.size) (h1 : 0 ≤ n) (h2 : n < 16384) :
    Calls Try.prog 96 #[.pointer (some ⟨p, 0, none⟩), .int .i64 n, .bool false] w (BitPost w base p g (l ++ det n)) := by
  have H := hide h
  have HB := hide hB
  have HL := hide hl
  clear h hB hl
  by_cases hs : n < 128
  · rw [det_short n hs]
    go_enter Try.func96, Try.ntmps96
    go_wp2_with (fail)
    refine (wBits_any n 8 base p g l _ H.out (by have := HL.out; omega) HB.out h1 (by omega)).mono ?_
    rintro e w1 ⟨rfl, hx⟩
    rw [show cl64 8 = 8 by decide] at hx
    have HX := hide hx
    clear hx
    go_wp2
    refine bodyPost_end (results_none rfl _ _ _) rfl ?_
    exact ⟨rfl, HX.out⟩
  · rw [det_long n hs h2]
    go_enter Try.func96, Try.ntmps96
    go_wp2_with (fail)
    refine (wBits_any 2 2 base p g l _ H.out (by have := HL.out; omega) HB.out (by omega) (by omega)).mono ?_
    rintro e w1 ⟨rfl, g1, hw1, hu1, hm1⟩
    rw [show cl64 2 = 2 by decide] at hw1
    have W1 := hide hw1
    have U1 := hide hu1
    have M1 := hide hm1
    have hlen := hide (show (l ++ Pl.bitsOf 2 2).length ≤ 1099511600002 by rw [List.length_append, Pl.bitsOf_length]; have := HL.out; omega)
    clear hw1 hu1 hm1
    go_wp2_with (fail)
    refine (wBits_any n 14 base p g1 _ _ W1.out (by have := hlen.out; omega) (Nat.le_trans HB.out U1.out.size) h1 (by omega)).mono ?_
    rintro e w2 ⟨rfl, g2, hw2, hu2, hm2⟩
    rw [show cl64 14 = 14 by decide, List.append_assoc] at hw2
    have W2 := hide hw2
    have U2 := hide (U1.out.trans M1.out hu2)
    have M2 := hide (M1.out.comp U1.out hm2)
    clear hw2 hu2 hm2
    go_wp2
    refine bodyPost_end (results_none rfl _ _ _) rfl ?_
    exact ⟨rfl, g2, W2.out, U2.out, M2.out⟩

set_option maxHeartbeats 800000 in
theorem rdet_any (n : Int) (base p : Nat) (g : Option Nat) (l : List Bool) (w : World) (h : Wf w base p g l) (hl : l.length ≤ 1099511600000) (hB : base ≤ w.heap.size) (h1 : 0 ≤ n) (h2 : n ≤ 65536) :
    Calls Try.prog 62 #[.pointer (some ⟨p, 0, none⟩), .int .i64 n] w (RfPost w base p g (l ++ det n)) := by
  have kB := hide (fun x m (hx : 0 ≤ x ∧ x < 18446744073709551616) => rwBits_any x m base p g l w h (by omega) hB hx.1 hx.2)
  clear h hB hl
  by_cases hs : n < 128
  · have e := hide (show l ++ Pl.bitsOf n (cl64 8) = l ++ det n by rw [det_short n hs]; rfl)
    go_enter Try.func62, Try.ntmps62
    go_wp2_with (fail)
    refine (kB.out _ _ (by omega)).mono ?_
    rintro en w1 ⟨rfl, hx⟩
    rw [e.out] at hx
    have HX := hide hx
    clear hx
    go_wp2
    refine bodyPost_end (results_none rfl _ _ _) rfl ?_
    exact ⟨rfl, HX.out⟩
  · by_cases hm : n < 16384
    · have e := hide (show l ++ Pl.bitsOf (32768 + n) (cl64 16) = l ++ det n by rw [← det_long' n hs hm]; rfl)
      go_enter Try.func62, Try.ntmps62
      go_wp2_with (fail)
      refine (kB.out _ _ (by omega)).mono ?_
      rintro en w1 ⟨rfl, hx⟩
      rw [e.out] at hx
      have HX := hide hx
      clear hx
      go_wp2
      refine bodyPost_end (results_none rfl _ _ _) rfl ?_
      exact ⟨rfl, HX.out⟩
    · have e := hide (show l ++ Pl.bitsOf (192 + n / 16384) (cl64 8) = l ++ det n by rw [← det_more' n hm h2]; rfl)
      have hq0 : 0 ≤ n / 16384 := by omega
      have hq1 : n / 16384 ≤ 4 := by omega
      go_enter Try.func62, Try.ntmps62
      go_wp2_with (fail)
      refine (kB.out _ _ (by omega)).mono ?_
      rintro en w1 ⟨rfl, hx⟩
      rw [e.out] at hx
      have HX := hide hx
      clear hx
      go_wp2
      refine bodyPost_end (results_none rfl _ _ _) rfl ?_
      exact ⟨rfl, HX.out⟩
end Go.Proofs.Ytikfogepdmpfaaa
