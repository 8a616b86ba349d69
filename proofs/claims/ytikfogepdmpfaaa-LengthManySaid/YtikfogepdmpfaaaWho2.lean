import Derived.Test.YtikfogepdmpfaaaWho1
namespace Go.Proofs.Ytikfogepdmpfaaa
open Go.RowKit

/-- The bits of a number that is small, most likely. -/
def smallB (n : Int) : List Bool :=
  if max n 0 < 64 then Pl.bitsOf (max n 0) 7 else Pl.bitsOf 1 1 ++ Pl.bitsOf ((Pl.dlenF 256 7 (max n 0) : Nat) : Int) 8 ++ Pl.octB (Pl.be (Pl.dlenF 256 7 (max n 0)) (max n 0))
theorem smallB_low (n : Int) (h : max n 0 < 64) : smallB n = Pl.bitsOf (max n 0) 7 := by unfold smallB; rw [if_pos h]
theorem smallB_high (n : Int) (h : ¬ max n 0 < 64) : smallB n = Pl.bitsOf 1 1 ++ Pl.bitsOf ((Pl.dlenF 256 7 (max n 0) : Nat) : Int) 8 ++ Pl.octB (Pl.be (Pl.dlenF 256 7 (max n 0)) (max n 0)) := by unfold smallB; rw [if_neg h]
theorem smallB_le (n : Int) : (smallB n).length ≤ 80 := by
  unfold smallB
  have hd := Pl.dlenF_bd 256 7 (max n 0)
  split
  · rw [Pl.bitsOf_length]
    omega
  · simp only [List.length_append, Pl.bitsOf_length, Pl.octB_length, Pl.be_length]
    omega

theorem Off.freshB {w w' : World} {T : TypeId} {A : Option Addr} {n c p : Nat} {g : Option Nat} {xs : List Value} (h : Fresh w w' T A n c xs) (hp : p < w.heap.size) (hg : ∀ k, g = some k → k < w.heap.size) : Off p g A n := Off.fresh h.1 hp hg
theorem Off.mv {w : World} {p n : Nat} {g g' : Option Nat} {A : Option Addr} (h : Off p g A n) (m : Mv w g g') (hA : ∀ b o s, A = some ⟨b, o, s⟩ → 0 < n → b < w.heap.size) : Off p g' A n := fun hn b o s e => by
  obtain ⟨h1, h2⟩ := h hn b o s e
  refine ⟨h1, ?_⟩
  rcases m with rfl | ⟨j, rfl, hj⟩
  · exact h2
  · intro e2
    cases e2
    have := hA b o s e hn
    omega
theorem Rd.lt_all {w : World} {A : Option Addr} {n c : Nat} {xs : List Value} (h : Rd w A n c xs) : ∀ b o s, A = some ⟨b, o, s⟩ → 0 < n → b < w.heap.size := fun b o s e hn => by
  obtain ⟨b', o', e', hc⟩ := h.2.2.2 hn
  rw [e] at e'
  cases e'
  have hx : 0 < xs.length := by have := h.1; omega
  exact lt_cell (hc 0 _ (List.getElem?_eq_getElem hx))

set_option maxHeartbeats 1600000 in
theorem wSmall_any (n : Int) (base p : Nat) (g : Option Nat) (l : List Bool) (w : World) (h : Wr w base p g l) (hl : l.length ≤ 1099511600000) (hB : base ≤ w.heap.size) (hn : n ≤ 9223372036854775807) :
    Calls Try.prog 39 #[.pointer (some ⟨p, 0, none⟩), .int .i64 n] w (BitPost w base p g (l ++ smallB n)) := by
  have H := hide h
  have HB := hide hB
  have HL := hide hl
  clear h hB hl
  obtain ⟨m, hmx⟩ : ∃ m, max n 0 = m := ⟨_, rfl⟩
  have hm0 : 0 ≤ m := by omega
  have hm1 : m ≤ 9223372036854775807 := by omega
  by_cases h64 : max n 0 < 64
  · rw [smallB_low n h64]
    rw [hmx] at h64 ⊢
    have kB := hide (fun x (hx : 0 ≤ x ∧ x < 18446744073709551616) => wBits_any x 7 base p g l w H.out (by have := HL.out; omega) HB.out hx.1 hx.2)
    rw [show cl64 7 = 7 by decide] at kB
    go_enter Try.func39, Try.ntmps39
    go_wp2_with (fail)
    refine (kB.out _ (by omega)).mono ?_
    rintro e w2 ⟨rfl, hx⟩
    have HX := hide hx
    clear hx
    go_wp2
    refine bodyPost_ret (results_none rfl _ _ _) rfl ?_
    exact ⟨rfl, HX.out⟩
  · rw [smallB_high n h64]
    rw [hmx] at h64 ⊢
    have hd := Pl.dlenF_bd 256 7 m
    have hbl := Pl.be_length (Pl.dlenF 256 7 m) m
    have kU := hide (fun w => unsigned_any m hm0 w)
    generalize hD : Pl.dlenF 256 7 m = d at *
    clear hD
    generalize Pl.be d m = bs at *
    have hd0 : (0 : Int) ≤ (d : Int) := by omega
    have hd8 : (d : Int) ≤ 8 := by omega
    have HBL := hide hbl
    clear hbl
    go_enter Try.func39, Try.ntmps39
    go_wp2_with (fail)
    refine (kU.out _).mono ?_
    rintro e w1 ⟨A1, c1, rfl, hf⟩
    have W1 := hide (H.out.below hf.below)
    have R1 := hide hf.rd
    have O1 := hide (Off.freshB hf H.out.lt (fun k hk => (H.out.glt k hk).2))
    have B1 := hide (Nat.le_trans HB.out hf.below.size)
    have U1 := hide (show Upd p g w w1 from Upd.of_below hf.below)
    clear hf
    go_wp2_with (fail)
    refine (wBits_any 1 1 base p g l _ W1.out (by have := HL.out; omega) B1.out (by omega) (by omega)).mono ?_
    rintro e w2 ⟨rfl, g2, hw2, hu2, hm2⟩
    rw [show cl64 1 = 1 by decide] at hw2
    have W2 := hide hw2
    have U2 := hide (U1.out.trans (Mv.refl _ _) hu2)
    have M2 := hide ((Mv.refl w g).comp U1.out hm2)
    have R2 := hide (R1.out.upd hu2 O1.out)
    have O2 := hide (O1.out.mv hm2 R1.out.lt_all)
    have hlen2 := hide (show (l ++ Pl.bitsOf 1 1).length ≤ 1099511600001 by rw [List.length_append, Pl.bitsOf_length]; have := HL.out; omega)
    clear hw2 hu2 hm2
    go_wp2_with (fail)
    refine (wBits_any (d : Int) 8 base p g2 _ _ W2.out (by have := hlen2.out; omega) (Nat.le_trans HB.out U2.out.size) hd0 (by omega)).mono ?_
    rintro e w3 ⟨rfl, g3, hw3, hu3, hm3⟩
    rw [show cl64 8 = 8 by decide] at hw3
    have W3 := hide hw3
    have U3 := hide (U2.out.trans M2.out hu3)
    have M3 := hide (M2.out.comp U2.out hm3)
    have R3 := hide (R2.out.upd hu3 O2.out)
    have O3 := hide (O2.out.mv hm3 R2.out.lt_all)
    have hlen3 := hide (show (l ++ Pl.bitsOf 1 1 ++ Pl.bitsOf (d : Int) 8).length ≤ 1099511600009 by rw [List.length_append, Pl.bitsOf_length]; have := hlen2.out; omega)
    clear hw3 hu3 hm3
    go_wp2_with (fail)
    refine (wOcts_any base p g3 _ _ _ _ bs _ W3.out (by have := hlen3.out; have := HBL.out; omega) (Nat.le_trans HB.out U3.out.size) R3.out O3.out).mono ?_
    rintro e w4 ⟨rfl, g4, hw4, hu4, hm4⟩
    have W4 := hide hw4
    have U4 := hide (U3.out.trans M3.out hu4)
    have M4 := hide (M3.out.comp U3.out hm4)
    clear hw4 hu4 hm4
    go_wp2
    refine bodyPost_end (results_none rfl _ _ _) rfl ?_
    refine ⟨rfl, g4, ?_, U4.out, M4.out⟩
    have := W4.out
    simpa only [List.append_assoc] using this
theorem wSmall_nil (n : Int) (w : World) (hn : n ≤ 9223372036854775807) :
    Calls Try.prog 39 #[.pointer none, .int .i64 n] w fun e w' => e = .returned (.tuple #[]) ∧ Below w.heap.size w w' := by
  obtain ⟨m, hmx⟩ : ∃ m, max n 0 = m := ⟨_, rfl⟩
  have hm0 : 0 ≤ m := by omega
  have hm1 : m ≤ 9223372036854775807 := by omega
  by_cases h64 : m < 64
  · go_enter Try.func39, Try.ntmps39
    go_wp2_with (fail)
    refine (wBits_nil _ _ _).mono ?_
    rintro e w' ⟨rfl, rfl⟩
    go_wp2
    refine bodyPost_ret (results_none rfl _ _ _) rfl ?_
    exact ⟨rfl, Below.refl _ _⟩
  · have kU := hide (fun w => unsigned_any m hm0 w)
    have hd := Pl.dlenF_bd 256 7 m
    generalize Pl.dlenF 256 7 m = d at *
    go_enter Try.func39, Try.ntmps39
    go_wp2_with (fail)
    refine (kU.out _).mono ?_
    rintro e w1 ⟨A1, c1, rfl, hf⟩
    have B1 := hide hf.below
    clear hf
    go_wp2_with (fail)
    refine (wBits_nil _ _ _).mono ?_
    rintro e w' ⟨rfl, rfl⟩
    go_wp2_with (fail)
    refine (wBits_nil _ _ _).mono ?_
    rintro e w' ⟨rfl, rfl⟩
    go_wp2_with (fail)
    refine (wOcts_nil _ _ _ _).mono ?_
    rintro e w' ⟨rfl, rfl⟩
    go_wp2
    refine bodyPost_end (results_none rfl _ _ _) rfl ?_
    exact ⟨rfl, B1.out⟩

theorem wLen_any (base p : Nat) (g : Option Nat) (l : List Bool) (w : World) (h : Wr w base p g l) :
    Calls Try.prog 43 #[.pointer (some ⟨p, 0, none⟩)] w fun e w' => e = .returned (.int .i64 (l.length : Int)) ∧ w = w' := by
  have k := hide (wlen_any base p g l w h)
  clear h
  go_enter Try.func43, Try.ntmps43
  go_wp2_with (fail)
  refine k.out.mono ?_
  rintro e w' ⟨rfl, rfl⟩
  go_wp2
  go_ret
  exact ⟨rfl, rfl⟩
theorem wLen_nil (w : World) :
    Calls Try.prog 43 #[.pointer none] w fun e w' => e = .returned (.int .i64 0) ∧ w = w' := by
  go_enter Try.func43, Try.ntmps43
  go_wp2
  go_ret
  exact ⟨rfl, rfl⟩

/-- The octets of bits, one at least. -/
def packW (l : List Bool) : List UInt8 := if l = [] then [0] else Pl.pack l
theorem packW_nil : packW [] = [0] := rfl
theorem packW_some (l : List Bool) (h : l.length ≠ 0) : packW l = Pl.pack l := by
  unfold packW
  rw [if_neg (fun e => h (by rw [e]; rfl))]

theorem wBytes_any (base p : Nat) (g : Option Nat) (l : List Bool) (w : World) (h : Wr w base p g l) (hl : l.length ≤ 1099511627776) :
    Calls Try.prog 34 #[.pointer (some ⟨p, 0, none⟩)] w fun e w' => ∃ A n c, e = .returned (.slice A n c) ∧ Fresh w w' 5 A n c (bv (packW l)) := by
  have kL := hide (wLen_any base p g l w h)
  have kB := hide (wbytes_any base p g l w h hl)
  clear h hl
  by_cases h0 : l.length = 0
  · rw [List.eq_nil_of_length_eq_zero h0] at kL ⊢
    rw [packW_nil]
    clear h0
    simp only [List.length_nil] at kL
    go_enter Try.func34, Try.ntmps34
    go_wp2_with (fail)
    refine kL.out.mono ?_
    rintro e w' ⟨rfl, rfl⟩
    go_wp2
    go_ret
    exact ⟨some ⟨w.heap.size, 0, none⟩, 1, 1, rfl, own_one w (.int .u8 0) 5 w.heap.size (Nat.le_refl _), (Below.refl _ _).alloc (Nat.le_refl _) _⟩
  · rw [packW_some l h0]
    have hb : ((l.length : Int) == 0) = false := by simp; intro e; exact h0 (by rw [e]; rfl)
    clear h0
    generalize l.length = L at *
    go_enter Try.func34, Try.ntmps34
    go_wp2_with (fail)
    refine kL.out.mono ?_
    rintro e w' ⟨rfl, rfl⟩
    go_wp2_with (fail)
    refine kB.out.mono ?_
    rintro e w2 ⟨A2, n2, c2, rfl, hf⟩
    have HF := hide hf
    clear hf
    go_wp2
    go_ret
    exact ⟨A2, n2, c2, rfl, HF.out⟩
theorem wBytes_nil (w : World) :
    Calls Try.prog 34 #[.pointer none] w fun e w' => e = .returned (.slice none 0 0) ∧ w = w' := by
  go_enter Try.func34, Try.ntmps34
  go_wp2
  go_ret
  exact ⟨rfl, rfl⟩

set_option maxHeartbeats 800000 in
theorem awake17_any (w : World) : Calls Try.prog 33 #[] w fun e w' => e = .returned (.bool true) ∧ Below w.heap.size w w' := by
  go_enter Try.func33, Try.ntmps33
  go_wp2_with (fail)
  have N0 := Wr.new w w.heap.size 53
  have hb0 := (Below.refl w.heap.size w).alloc (Nat.le_refl _) (.cells #[.slice none 0 0, .int .i64 0] 53)
  refine (wBetween_any 5 7 w.heap.size w.heap.size none [] _ N0 (by simp) (by simp) (by omega) (by omega) (by omega) (by omega)).mono ?_
  rintro e w1 ⟨rfl, g1, hw1, hu1, hm1⟩
  have e1 : [] ++ Pl.bitsOf (min 5 7) (wid 7) = [true, false, true] := by decide +kernel
  rw [e1] at hw1
  have W1 := hide hw1
  have B1 := hide (hb0.trans (hu1.below (B := w.heap.size) (Nat.le_refl _) (fun k hk => by cases hk) (by simp)))
  clear hw1 hu1 hm1 hb0 N0 e1
  go_wp2_with (fail)
  refine (wBytes_any _ _ _ _ _ W1.out (by simp)).mono ?_
  rintro e w3 ⟨A, n, c, rfl, hf⟩
  have hb5 := B1.out.trans (hf.below.mono B1.out.size)
  have W3 := hide (W1.out.below hf.below)
  have B3 := hide hb5
  have e1 : packW [true, false, true] = [160] := by decide +kernel
  rw [e1] at hf
  obtain rfl : n = 1 := RdB.length hf.rd
  obtain ⟨b, o, rfl, _, hc0⟩ := RdB.at_ (l := [160]) hf.rd (k := 0) (by decide)
  have v0 : ((([160] : List UInt8)[0]'(by decide)).toNat : Int) = 160 := by decide
  rw [v0] at hc0
  simp only [Nat.add_zero] at hc0
  have kL := hide (wLen_any w.heap.size w.heap.size g1 _ w3 W3.out)
  simp only [List.length_cons, List.length_nil] at kL
  clear hf e1 v0 hb5
  go_wp2_with (fail)
  refine kL.out.mono ?_
  rintro e w4 ⟨rfl, rfl⟩
  go_wp2
  go_ret
  exact ⟨rfl, B3.out⟩
end Go.Proofs.Ytikfogepdmpfaaa
