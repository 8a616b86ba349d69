import Derived.Test.YtikfogepdmpfaaaWho3
import Derived.Test.YtikfogepdmpfaaaCuts
import Derived.Test.YtikfogepdmpfaaaJoin
import Derived.Test.YtikfogepdmpfaaaPlLen
import Derived.IntWalk
namespace Go.Proofs.Ytikfogepdmpfaaa
open Go.RowKit

/-- The bits of a determinant. -/
def det (n : Int) : List Bool := if n < 128 then Pl.bitsOf n 8 else if n < 16384 then Pl.bitsOf 2 2 ++ Pl.bitsOf n 14 else Pl.bitsOf 3 2 ++ Pl.bitsOf (n / 16384) 6
theorem det_short (n : Int) (h : n < 128) : det n = Pl.bitsOf n 8 := by unfold det; rw [if_pos h]
theorem det_long (n : Int) (h : ¬ n < 128) (h2 : n < 16384) : det n = Pl.bitsOf 2 2 ++ Pl.bitsOf n 14 := by unfold det; rw [if_neg h, if_pos h2]
theorem det_more (n : Int) (h2 : ¬ n < 16384) : det n = Pl.bitsOf 3 2 ++ Pl.bitsOf (n / 16384) 6 := by unfold det; rw [if_neg (by omega), if_neg h2]
theorem det_long' (n : Int) (h : ¬ n < 128) (h2 : n < 16384) : Pl.bitsOf (32768 + n) 16 = det n := by
  rw [det_long n h h2, bits_split' 2 14]
  have e1 : (32768 + n) / 2 ^ 14 = 2 := by
    rw [show (2 : Int) ^ 14 = 16384 by decide]
    omega
  have e2 : Pl.bitsOf (32768 + n) 14 = Pl.bitsOf n 14 := by
    have := bitsOf_add 14 14 n 2 (Nat.le_refl _)
    rw [show n + 2 ^ 14 * 2 = 32768 + n by rw [show (2 : Int) ^ 14 = 16384 by decide]; omega] at this
    exact this
  rw [e1, e2]
theorem det_more' (n : Int) (h2 : ¬ n < 16384) (h3 : n ≤ 65536) : Pl.bitsOf (192 + n / 16384) 8 = det n := by
  rw [det_more n h2, bits_split' 2 6]
  have e1 : (192 + n / 16384) / 2 ^ 6 = 3 := by
    rw [show (2 : Int) ^ 6 = 64 by decide]
    omega
  have e2 : Pl.bitsOf (192 + n / 16384) 6 = Pl.bitsOf (n / 16384) 6 := by
    have := bitsOf_add 6 6 (n / 16384) 3 (Nat.le_refl _)
    rw [show n / 16384 + 2 ^ 6 * 3 = 192 + n / 16384 by rw [show (2 : Int) ^ 6 = 64 by decide]; omega] at this
    exact this
  rw [e1, e2]
theorem det_le (n : Int) : (det n).length ≤ 16 := by
  unfold det
  split
  · rw [Pl.bitsOf_length]; omega
  · split <;> simp only [List.length_append, Pl.bitsOf_length] <;> omega

/-- Octets behind their determinants. -/
def putL : List Nat → List UInt8 → List Bool
  | [], _ => []
  | k :: ks, bs => det (k : Int) ++ Pl.octB (bs.take k) ++ putL ks (bs.drop k)

set_option maxHeartbeats 800000 in
theorem lput_more (n : Int) (base p : Nat) (g : Option Nat) (l : List Bool) (w : World) (h : Wr w base p g l) (hl : l.length ≤ 1099511600000) (hB : base ≤ w.heap.size) (h1 : 16384 ≤ n) (h2 : n ≤ 65536) :
    Calls Try.prog 96 #[.pointer (some ⟨p, 0, none⟩), .int .i64 n, .bool true] w (BitPost w base p g (l ++ det n)) := by
  rw [det_more n (by omega)]
  have H := hide h
  have HB := hide hB
  have HL := hide hl
  clear h hB hl
  have hq0 : 0 ≤ n / 16384 := by omega
  have hq1 : n / 16384 ≤ 4 := by omega
  go_enter Try.func96, Try.ntmps96
  go_wp2_with (fail)
  refine (wBits_any 3 2 base p g l _ H.out (by have := HL.out; omega) HB.out (by omega) (by omega)).mono ?_
  rintro e w1 ⟨rfl, g1, hw1, hu1, hm1⟩
  rw [show cl64 2 = 2 by decide] at hw1
  have W1 := hide hw1
  have U1 := hide hu1
  have M1 := hide hm1
  have hlen := hide (show (l ++ Pl.bitsOf 3 2).length ≤ 1099511600002 by rw [List.length_append, Pl.bitsOf_length]; have := HL.out; omega)
  clear hw1 hu1 hm1
  go_wp2_with (fail)
  refine (wBits_any (n / 16384) 6 base p g1 _ _ W1.out (by have := hlen.out; omega) (Nat.le_trans HB.out U1.out.size) hq0 (by omega)).mono ?_
  rintro e w2 ⟨rfl, g2, hw2, hu2, hm2⟩
  rw [show cl64 6 = 6 by decide, List.append_assoc] at hw2
  have W2 := hide hw2
  have U2 := hide (U1.out.trans M1.out hu2)
  have M2 := hide (M1.out.comp U1.out hm2)
  clear hw2 hu2 hm2
  go_wp2
  refine bodyPost_end (results_none rfl _ _ _) rfl ?_
  exact ⟨rfl, g2, W2.out, U2.out, M2.out⟩
set_option maxHeartbeats 800000 in
theorem lput_less (n : Int) (base p : Nat) (g : Option Nat) (l : List Bool) (w : World) (h : Wr w base p g l) (hl : l.length ≤ 1099511600000) (hB : base ≤ w.heap.size) (h1 : 0 ≤ n) (h2 : n < 16384) :
    Calls Try.prog 96 #[.pointer (some ⟨p, 0, none⟩), .int .i64 n, .bool false] w (BitPost w base p g (l ++ det n)) := by
  have H := hide h
  have HB := hide hB
  have HL := hide hl
  clear h hB hl
  by_cases hs : n < 128
  · rw [det_short n hs]
    go_enter Try.func96, Try.ntmps96
    go_wp2_with (fail)
    refine (wBits_any n 8 base p g l _ H.out (by have := HL.out; omega) HB.out h1 (by omega)).mono ?_
    rintro e w1 ⟨rfl, hx⟩
    rw [show cl64 8 = 8 by decide] at hx
    have HX := hide hx
    clear hx
    go_wp2
    refine bodyPost_end (results_none rfl _ _ _) rfl ?_
    exact ⟨rfl, HX.out⟩
  · rw [det_long n hs h2]
    go_enter Try.func96, Try.ntmps96
    go_wp2_with (fail)
    refine (wBits_any 2 2 base p g l _ H.out (by have := HL.out; omega) HB.out (by omega) (by omega)).mono ?_
    rintro e w1 ⟨rfl, g1, hw1, hu1, hm1⟩
    rw [show cl64 2 = 2 by decide] at hw1
    have W1 := hide hw1
    have U1 := hide hu1
    have M1 := hide hm1
    have hlen := hide (show (l ++ Pl.bitsOf 2 2).length ≤ 1099511600002 by rw [List.length_append, Pl.bitsOf_length]; have := HL.out; omega)
    clear hw1 hu1 hm1
    go_wp2_with (fail)
    refine (wBits_any n 14 base p g1 _ _ W1.out (by have := hlen.out; omega) (Nat.le_trans HB.out U1.out.size) h1 (by omega)).mono ?_
    rintro e w2 ⟨rfl, g2, hw2, hu2, hm2⟩
    rw [show cl64 14 = 14 by decide, List.append_assoc] at hw2
    have W2 := hide hw2
    have U2 := hide (U1.out.trans M1.out hu2)
    have M2 := hide (M1.out.comp U1.out hm2)
    clear hw2 hu2 hm2
    go_wp2
    refine bodyPost_end (results_none rfl _ _ _) rfl ?_
    exact ⟨rfl, g2, W2.out, U2.out, M2.out⟩

set_option maxHeartbeats 800000 in
theorem rdet_any (n : Int) (base p : Nat) (g : Option Nat) (l : List Bool) (w : World) (h : Wf w base p g l) (hl : l.length ≤ 1099511600000) (hB : base ≤ w.heap.size) (h1 : 0 ≤ n) (h2 : n ≤ 65536) :
    Calls Try.prog 62 #[.pointer (some ⟨p, 0, none⟩), .int .i64 n] w (RfPost w base p g (l ++ det n)) := by
  have kB := hide (fun x m (hx : 0 ≤ x ∧ x < 18446744073709551616) => rwBits_any x m base p g l w h (by omega) hB hx.1 hx.2)
  clear h hB hl
  by_cases hs : n < 128
  · have e := hide (show l ++ Pl.bitsOf n (cl64 8) = l ++ det n by rw [det_short n hs]; rfl)
    go_enter Try.func62, Try.ntmps62
    go_wp2_with (fail)
    refine (kB.out _ _ (by omega)).mono ?_
    rintro en w1 ⟨rfl, hx⟩
    rw [e.out] at hx
    have HX := hide hx
    clear hx
    go_wp2
    refine bodyPost_end (results_none rfl _ _ _) rfl ?_
    exact ⟨rfl, HX.out⟩
  · by_cases hm : n < 16384
    · have e := hide (show l ++ Pl.bitsOf (32768 + n) (cl64 16) = l ++ det n by rw [← det_long' n hs hm]; rfl)
      go_enter Try.func62, Try.ntmps62
      go_wp2_with (fail)
      refine (kB.out _ _ (by omega)).mono ?_
      rintro en w1 ⟨rfl, hx⟩
      rw [e.out] at hx
      have HX := hide hx
      clear hx
      go_wp2
      refine bodyPost_end (results_none rfl _ _ _) rfl ?_
      exact ⟨rfl, HX.out⟩
    · have e := hide (show l ++ Pl.bitsOf (192 + n / 16384) (cl64 8) = l ++ det n by rw [← det_more' n hm h2]; rfl)
      have hq0 : 0 ≤ n / 16384 := by omega
      have hq1 : n / 16384 ≤ 4 := by omega
      go_enter Try.func62, Try.ntmps62
      go_wp2_with (fail)
      refine (kB.out _ _ (by omega)).mono ?_
      rintro en w1 ⟨rfl, hx⟩
      rw [e.out] at hx
      have HX := hide hx
      clear hx
      go_wp2
      refine bodyPost_end (results_none rfl _ _ _) rfl ?_
      exact ⟨rfl, HX.out⟩
theorem cutsF_sum : ∀ (f n : Nat), n ≤ f → (Pl.cutsF f n).sum = n ∧ ∀ k ∈ Pl.cutsF f n, k ≤ 65536
  | 0, n, h => by
    obtain rfl : n = 0 := by omega
    simp [Pl.cutsF]
  | f + 1, n, h => by
    simp only [Pl.cutsF]
    split
    · simp
      omega
    · have hk := Pl.cutK_pos n (by omega)
      have ih := cutsF_sum f (n - Pl.cutK n) (by omega)
      rw [List.sum_cons, ih.1]
      refine ⟨by omega, fun k hk2 => ?_⟩
      rcases List.mem_cons.1 hk2 with rfl | hk2
      · unfold Pl.cutK
        omega
      · exact ih.2 k hk2
theorem cuts_sum (n : Nat) : (Pl.cuts n).sum = n := (cutsF_sum n n (Nat.le_refl _)).1
theorem cuts_max (n : Nat) : ∀ k ∈ Pl.cuts n, k ≤ 65536 := (cutsF_sum n n (Nat.le_refl _)).2
theorem cuts_len (n : Nat) : (Pl.cuts n).length ≤ n + 1 := Pl.cuts_length n n

theorem cuts_ne (n : Nat) : Pl.cuts n ≠ [] := by
  by_cases h : n < 16384
  · rw [Pl.cuts_small n h]
    simp
  · rw [Pl.cuts_big n (by omega)]
    simp

/-- What is still to be put: the cuts ks from the j-th on, the octets rest. -/
structure ToPut (ks : List Nat) (j : Nat) (rest : List UInt8) (acc tot : List Bool) (lim : Nat) : Prop where
  sum : (ks.drop j).sum = rest.length
  all : acc ++ putL (ks.drop j) rest = tot
  len : acc.length + 8 * rest.length + 16 * (ks.length - j) ≤ lim

theorem ToPut.step {ks : List Nat} {j : Nat} {rest : List UInt8} {acc tot : List Bool} {lim : Nat} (h : ToPut ks j rest acc tot lim) (hj : j < ks.length) :
    ks[j] ≤ rest.length ∧ ToPut ks (j + 1) (rest.drop ks[j]) (acc ++ det (ks[j] : Int) ++ Pl.octB (rest.take ks[j])) tot lim := by
  have hd := List.drop_eq_getElem_cons hj
  have hs := h.sum
  rw [hd, List.sum_cons] at hs
  refine ⟨by omega, ?_, ?_, ?_⟩
  · rw [List.length_drop]
    omega
  · have ha := h.all
    rw [hd] at ha
    rw [← ha]
    simp only [putL, List.append_assoc]
  · have hl := h.len
    have h1 := det_le (ks[j] : Int)
    rw [List.length_append, List.length_append, Pl.octB_length, List.length_take, List.length_drop]
    omega
theorem ToPut.done {ks : List Nat} {j : Nat} {rest : List UInt8} {acc tot : List Bool} {lim : Nat} (h : ToPut ks j rest acc tot lim) (hj : ks.length ≤ j) : acc = tot := by
  have ha := h.all
  rw [List.drop_eq_nil_of_le hj] at ha
  simpa [putL] using ha
theorem ToPut.start (n : Nat) (bs : List UInt8) (l : List Bool) (hn : n = bs.length) (hl : l.length ≤ 100000) (h8 : bs.length ≤ 100000) : ToPut (Pl.cuts n) 0 bs l (l ++ putL (Pl.cuts n) bs) 3000000 := by
  have h1 := cuts_len n
  exact ⟨by rw [List.drop_zero, cuts_sum, hn], by rw [List.drop_zero], by omega⟩

/-- A slice that is nil, or lies in the block gb. -/
def InB (gb : Nat) (A : Option Addr) (n c : Nat) : Prop := (A = none ∧ n = 0 ∧ c = 0) ∨ ∃ o, A = some ⟨gb, o, none⟩
theorem InB.off {gb p n c : Nat} {g : Option Nat} {A : Option Addr} (h : InB gb A n c) (h1 : gb ≠ p) (h2 : g ≠ some gb) : Off p g A n := fun hn b o s e => by
  rcases h with ⟨_, h0, _⟩ | ⟨o', rfl⟩
  · omega
  · cases e
    exact ⟨h1, fun e => h2 e.symm⟩

theorem Rd.dropIf' {w : World} {b o n c : Nat} {xs : List Value} (h : Rd w (some ⟨b, o, none⟩) n c xs) {k : Nat} (hk : k ≤ n) : Rd w (if c = k then some ⟨b, o, none⟩ else some ⟨b, o + k, none⟩) (n - k) (c - k) (xs.drop k) := by
  split
  · rename_i e
    have := h.cap
    have h1 := h.1
    rw [show n - k = 0 by omega, List.drop_eq_nil_of_le (by omega)]
    exact Rd.nil _ _ _ (by have := h.2.2.1; omega)
  · refine ⟨by have := h.1; simp; omega, by have := h.cap; omega, by have := h.2.2.1; omega, fun hn => ⟨b, o + k, rfl, fun i u hu => ?_⟩⟩
    obtain ⟨b', o', e, hc⟩ := h.2.2.2 (by omega)
    cases e
    rw [List.getElem?_drop] at hu
    have := hc (k + i) u hu
    rwa [← Nat.add_assoc] at this

def LPutRel (base p gb : Nat) (g : Option Nat) (ks : List Nat) (AK : Option Addr) (ck : Nat) (tot : List Bool) (w0 : World) (bb jj : Value) (wr : World) : Prop :=
  ∃ (j : Nat) (A : Option Addr) (n c : Nat) (g' : Option Nat) (acc : List Bool) (rest : List UInt8), j ≤ ks.length ∧ jj = .int .i64 (j : Int) ∧ bb = .slice A n c ∧ Hid (InB gb A n c) ∧ Hid (g' ≠ some gb ∧ gb < wr.heap.size ∧ Off p g' AK ks.length) ∧ Hid (Wr wr base p g' acc) ∧ Hid (Upd p g w0 wr) ∧ Hid (Mv w0 g g') ∧ Hid (Rd wr A n c (bv rest)) ∧ Hid (Rd wr AK ks.length ck (iv (natsI ks))) ∧ Hid (ToPut ks j rest acc tot 3000000)

set_option maxRecDepth 100000 in
set_option maxHeartbeats 1600000 in
theorem lPut_any (base p : Nat) (g : Option Nat) (l : List Bool) (A : Option Addr) (n c : Nat) (ls : List (List UInt8)) (w : World) (h : Wr w base p g l) (hl : l.length ≤ 100000) (hB : base ≤ w.heap.size) (hr : RdP w A n c ls) (hn : ls.flatten.length ≤ 100000) :
    Calls Try.prog 53 #[.pointer (some ⟨p, 0, none⟩), .slice A n c] w (BitPost w base p g (l ++ putL (Pl.cuts ls.flatten.length) ls.flatten)) := by
  have H := hide h
  have HB := hide hB
  have kJ := hide (join_any A n c ls w hr (by omega))
  have hps := h.lt
  have hgl := hide (fun k hk => (h.glt k hk).2)
  have hst := hide (ToPut.start ls.flatten.length ls.flatten l rfl hl hn)
  have hmx := hide (cuts_max ls.flatten.length)
  generalize l ++ putL (Pl.cuts ls.flatten.length) ls.flatten = tot at *
  have kC := hide (fun w => cuts_any ((ls.flatten.length : Nat) : Int) (by omega) w)
  simp only [Int.toNat_natCast] at kC
  have hkl := cuts_len ls.flatten.length
  have hks := hide (cuts_ne ls.flatten.length)
  generalize Pl.cuts ls.flatten.length = ks at *
  generalize ls.flatten = bs at *
  generalize hbl : bs.length = m at *
  have HBL := hide hbl
  clear h hB hr hl hbl
  have hkl2 : (ks.length : Int) ≤ 100001 := by omega
  go_enter Try.func53, Try.ntmps53
  go_wp2_with (fail)
  refine kJ.out.mono ?_
  rintro e w1 ⟨A1, c1, rfl, hf1⟩
  have hcap1 := hf1.rd.cap
  have hmax1 := hf1.rd.max
  have F1 := hide hf1
  clear hf1
  go_wp2_with (fail)
  refine (kC.out _).mono ?_
  rintro e w2 ⟨A2, c2, rfl, hf2⟩
  have hks0 : 0 < ks.length := by
    rcases Nat.eq_zero_or_pos ks.length with h0 | h0
    · have := hst.out.sum
      rw [List.eq_nil_of_length_eq_zero h0] at this
      exact hks.out.elim (List.eq_nil_of_length_eq_zero h0)
    · exact h0
  have hk2 : w1.heap.size < w2.heap.size := by
    rcases hf2.1.2 with ⟨hv, h0⟩ | ⟨g', cap, cur, hv, hB', _⟩
    · omega
    · cases hv
      have := hf2.1.lt g' rfl
      omega
  obtain ⟨gb, hgb0, hgb⟩ : ∃ gb, InB gb A1 m c1 ∧ Hid (w.heap.size ≤ gb ∧ gb < w2.heap.size) := by
    rcases F1.out.1.2 with ⟨hv, h0⟩ | ⟨g', cap, cur, hv, hB', _⟩
    · cases hv
      exact ⟨w.heap.size, .inl ⟨rfl, rfl, rfl⟩, Nat.le_refl _, Nat.lt_of_le_of_lt F1.out.below.size hk2⟩
    · cases hv
      have := (F1.out.1.lt g' rfl).2
      exact ⟨g', .inr ⟨0, rfl⟩, hB', by omega⟩
  have hoffK := hide (show Off p g A2 ks.length from Off.fresh hf2.1 (Nat.lt_of_lt_of_le hps F1.out.below.size) (fun k hk => Nat.lt_of_lt_of_le (hgl.out k hk) F1.out.below.size))
  have R1 := hide (F1.out.rd.below hf2.below (Nat.le_refl _))
  have RK := hide hf2.rd
  have W2 := hide ((H.out.below F1.out.below).below hf2.below)
  have B2 := hide (F1.out.below.trans (hf2.below.mono F1.out.below.size))
  have HI := hide hgb0
  clear hf2 hgb0 F1 hks0 hk2
  go_wp2_with (fail)
  go_loopw [4, 13] (LPutRel base p gb g ks A2 c2 tot w) (fun _ j _ => ks.length - (intOf j).toNat)
  case atStart => exact ⟨0, A1, m, c1, g, l, bs, Nat.zero_le _, rfl, rfl, HI.out, ⟨fun e => by have := hgl.out _ e; have := hgb.out; omega, hgb.out.2, hoffK.out⟩, W2.out, Upd.of_below B2.out, Mv.refl _ _, R1.out, RK.out, hst.out⟩
  case round =>
    obtain ⟨j, A3, n3, c3, g3, acc, rest, hj, rfl, rfl, hin, hgg, hw, hu, hmv, hrd, hrk, htp⟩ := hrel
    by_cases hlt : j < ks.length
    · obtain ⟨bk, ok, rfl, hbz, hcell⟩ := RdI.at_ hrk.out (show j < (natsI ks).length by rw [natsI_length]; exact hlt)
      have hkk : (natsI ks)[j]'(by rw [natsI_length]; exact hlt) = ((ks[j] : Nat) : Int) := by simp [natsI]
      rw [hkk] at hcell
      obtain ⟨hkr, htp2⟩ := htp.out.step hlt
      have hk65 := hmx.out ks[j] (List.getElem_mem hlt)
      have hlen := hide (show acc.length ≤ 3000000 ∧ 8 * rest.length ≤ 3000000 by have := htp.out.len; omega)
      generalize ks[j] = k at *
      have hn3 := RdB.length hrd.out
      have hc3 := hrd.out.cap
      have hm3 := hrd.out.max
      have hkn : k ≤ n3 := by omega
      have TP2 := hide htp2
      have HN3 := hide hn3
      have hk0 : (0 : Int) ≤ (k : Int) := by omega
      have hj0 : (0 : Int) ≤ (j : Int) := by omega
      have hkc : k ≤ c3 := by omega
      have hkn2 : (k : Int) ≤ (n3 : Int) := by omega
      have hkc2 : (k : Int) ≤ (c3 : Int) := by omega
      clear htp2 hn3 hkk hkr
      have hoffb := hide (show Off p g3 A3 n3 from hin.out.off (by have := hgb.out; omega) hgg.out.1)
      have hbase := hide (Nat.le_trans HB.out hu.out.size)
      have kO := hide (fun (b : Bool) (hb : b = decide (16384 ≤ (k : Int))) => show Calls Try.prog 96 #[.pointer (some ⟨p, 0, none⟩), .int .i64 (k : Int), .bool b] wr (BitPost wr base p g3 (acc ++ det (k : Int))) from by
        by_cases hb2 : 16384 ≤ (k : Int)
        · rw [hb, decide_eq_true hb2]
          exact lput_more _ base p g3 acc wr hw.out (by have := hlen.out; omega) hbase.out hb2 (by omega)
        · rw [hb, decide_eq_false hb2]
          exact lput_less _ base p g3 acc wr hw.out (by have := hlen.out; omega) hbase.out hk0 (by omega))
      have htake := hide (hrd.out.take hkn)
      rw [bv_take] at htake
      have hdet := hide (det_le (k : Int))
      have hdrop : Hid (∀ W, Rd W A3 n3 c3 (bv rest) → ∀ o, A3 = some ⟨gb, o, none⟩ → Rd W (if c3 = k then some ⟨gb, o, none⟩ else some ⟨gb, o + k, none⟩) (n3 - k) (c3 - k) (bv (rest.drop k))) := fun W hW o e => by
        subst e
        have := hW.dropIf' hkn
        rwa [bv_drop] at this
      rcases hin.out with ⟨rfl, rfl, rfl⟩ | ⟨o3, rfl⟩
      · obtain rfl : k = 0 := by omega
        have hrl : Hid (rest = []) := List.eq_nil_of_length_eq_zero (by have := HN3.out; omega)
        have kO2 := hide (kO.out false (by decide))
        simp only [Int.natCast_zero] at kO2
        go_wp2_with (fail)
        refine kO2.out.mono ?_
        rintro e w3 ⟨rfl, g4, hw4, hu4, hm4⟩
        have W4 := hide hw4
        have U4 := hide (hu.out.trans hmv.out hu4)
        have M4 := hide (hmv.out.comp hu.out hm4)
        have K4 := hide (hrk.out.upd hu4 hgg.out.2.2)
        have G4 : Hid (g4 ≠ some gb ∧ gb < w3.heap.size ∧ Off p g4 (some ⟨bk, ok, none⟩) ks.length) := ⟨by
          rcases hm4 with rfl | ⟨x, rfl, hx⟩
          · exact hgg.out.1
          · intro e
            cases e
            have := hgg.out.2.1
            omega, Nat.lt_of_lt_of_le hgg.out.2.1 hu4.size, hgg.out.2.2.mv hm4 hrk.out.lt_all⟩
        have hlen4 := hide (show (acc ++ det 0).length ≤ 3000016 by rw [List.length_append]; have := hlen.out; have := det_le 0; omega)
        clear hw4 hu4 hm4
        go_wp2_with (fail)
        refine (wOcts_any base p g4 _ none 0 0 [] _ W4.out (by have := hlen4.out; simp only [List.length_nil]; omega) (Nat.le_trans HB.out U4.out.size) (Rd.nil _ _ _ (by unfold maxLen; omega)) (Off.nil _ _ _)).mono ?_
        rintro e w5 ⟨rfl, g5, hw5, hu5, hm5⟩
        have W5 := hide hw5
        have U5 := hide (U4.out.trans M4.out hu5)
        have M5 := hide (M4.out.comp U4.out hm5)
        have K5 := hide (K4.out.upd hu5 G4.out.2.2)
        have G5 : Hid (g5 ≠ some gb ∧ gb < w5.heap.size ∧ Off p g5 (some ⟨bk, ok, none⟩) ks.length) := ⟨by
          rcases hm5 with rfl | ⟨x, rfl, hx⟩
          · exact G4.out.1
          · intro e
            cases e
            have := G4.out.2.1
            omega, Nat.lt_of_lt_of_le G4.out.2.1 hu5.size, G4.out.2.2.mv hm5 K4.out.lt_all⟩
        clear hw5 hu5 hm5
        have TP3 := TP2.out
        rw [hrl.out] at TP3
        simp only [List.drop_nil, List.take_nil, Int.natCast_zero] at TP3
        have TP3 := hide TP3
        go_wp2
        go_roundw
        case rel => exact ⟨j + 1, none, 0, 0, g5, _, [], by omega, by go_num, rfl, .inl ⟨rfl, rfl, rfl⟩, G5.out, W5.out, U5.out, M5.out, Rd.nil _ _ _ (by unfold maxLen; omega), K5.out, TP3.out⟩
        case measure => simp [intOf]; omega
      · rcases (show k = c3 ∨ ¬ c3 = k by omega) with rfl | hck
        all_goals
          first
            | (have hdrop2 := hdrop.out; simp only [if_neg hck] at hdrop2; have hck2 := hck)
            | (have hdrop2 := hdrop.out; simp only [eq_self, if_true] at hdrop2)
          have HD2 := hide hdrop2
          clear hdrop2
          go_wp2_with (fail)
          refine (kO.out _ rfl).mono ?_
          rintro e w3 ⟨rfl, g4, hw4, hu4, hm4⟩
          have W4 := hide hw4
          have U4 := hide (hu.out.trans hmv.out hu4)
          have M4 := hide (hmv.out.comp hu.out hm4)
          have T4 := hide (htake.out.upd hu4 (show Off p g3 (some ⟨gb, o3, none⟩) k from Off.mk k (by have := hgb.out; omega) (fun e => hgg.out.1 e.symm)))
          have R4 := hide (hrd.out.upd hu4 hoffb.out)
          have K4 := hide (hrk.out.upd hu4 hgg.out.2.2)
          have G4 : Hid (g4 ≠ some gb ∧ gb < w3.heap.size ∧ Off p g4 (some ⟨bk, ok, none⟩) ks.length) := ⟨by
            rcases hm4 with rfl | ⟨x, rfl, hx⟩
            · exact hgg.out.1
            · intro e
              cases e
              have := hgg.out.2.1
              omega, Nat.lt_of_lt_of_le hgg.out.2.1 hu4.size, hgg.out.2.2.mv hm4 hrk.out.lt_all⟩
          have hlen4 := hide (show (acc ++ det (k : Int)).length ≤ 3000016 by rw [List.length_append]; have := hlen.out; have := hdet.out; omega)
          have O4 := hide (show Off p g4 (some ⟨gb, o3, none⟩) k from Off.mk k (by have := hgb.out; omega) (fun e => G4.out.1 e.symm))
          have O4n := hide (show Off p g4 (some ⟨gb, o3, none⟩) n3 from Off.mk n3 (by have := hgb.out; omega) (fun e => G4.out.1 e.symm))
          clear hw4 hu4 hm4
          go_wp2_with (fail)
          refine (wOcts_any base p g4 _ _ _ _ (rest.take k) _ W4.out ?_ (Nat.le_trans HB.out U4.out.size) T4.out O4.out).mono ?_
          · have := hlen4.out
            have := hlen.out
            rw [List.length_take]
            omega
          rintro e w5 ⟨rfl, g5, hw5, hu5, hm5⟩
          have W5 := hide hw5
          have U5 := hide (U4.out.trans M4.out hu5)
          have M5 := hide (M4.out.comp U4.out hm5)
          have R5 := hide (HD2.out _ (R4.out.upd hu5 O4n.out) o3 rfl)
          have K5 := hide (K4.out.upd hu5 G4.out.2.2)
          have G5 : Hid (g5 ≠ some gb ∧ gb < w5.heap.size ∧ Off p g5 (some ⟨bk, ok, none⟩) ks.length) := ⟨by
            rcases hm5 with rfl | ⟨x, rfl, hx⟩
            · exact G4.out.1
            · intro e
              cases e
              have := G4.out.2.1
              omega, Nat.lt_of_lt_of_le G4.out.2.1 hu5.size, G4.out.2.2.mv hm5 K4.out.lt_all⟩
          clear hw5 hu5 hm5
          go_wp2
          go_roundw
          case rel =>
            first
              | exact ⟨j + 1, _, _, _, g5, _, _, by omega, by go_num, rfl, .inr ⟨_, rfl⟩, G5.out, W5.out, U5.out, M5.out, R5.out, K5.out, TP2.out⟩
              | (have R6 := R5.out
                 rw [show n3 - k = 0 by omega, show k - k = 0 by omega] at R6
                 exact ⟨j + 1, _, _, _, g5, _, _, by omega, by go_num, rfl, .inr ⟨_, rfl⟩, G5.out, W5.out, U5.out, M5.out, R6, K5.out, TP2.out⟩)
          case measure => simp [intOf]; omega
    · go_wp2
      refine bodyPost_end (results_none rfl _ _ _) rfl ?_
      have e := htp.out.done (by omega)
      exact ⟨rfl, g3, e ▸ hw.out, hu.out, hmv.out⟩
end Go.Proofs.Ytikfogepdmpfaaa
