import Derived.Test.YtikfogepdmpfaaaMany
import Derived.Test.YtikfogepdmpfaaaAwake18
namespace Go.Proofs.Ytikfogepdmpfaaa
open Go.RowKit

/-- The bits of the first j things. -/
def itm (l : List Int) (j : Nat) : List Bool := (l.take j).flatMap fun z => Pl.bitsOf z 5
theorem itm_zero (l : List Int) : itm l 0 = [] := by simp [itm]
theorem itm_succ (l : List Int) (j : Nat) (h : j < l.length) : itm l (j + 1) = itm l j ++ Pl.bitsOf l[j] 5 := by
  unfold itm
  rw [List.take_succ_eq_append_getElem h, List.flatMap_append]
  simp
theorem itm_len (l : List Int) : ∀ j, j ≤ l.length → (itm l j).length = 5 * j
  | 0, _ => by simp [itm_zero]
  | j + 1, h => by
    rw [itm_succ l j (by omega), List.length_append, itm_len l j (by omega), Pl.bitsOf_length]
    omega
theorem itm_mid (l : List Int) (j : Nat) (h : j < l.length) : ∃ post, itm l l.length = itm l j ++ Pl.bitsOf l[j] 5 ++ post := by
  refine ⟨(l.drop (j + 1)).flatMap fun z => Pl.bitsOf z 5, ?_⟩
  rw [← itm_succ l j h]
  unfold itm
  rw [List.take_length, ← List.flatMap_append, List.take_append_drop]
/-- So many copies. -/
def rep (vs : List Int) (k : Nat) : List Int := (List.replicate k vs).flatten
theorem rep_zero (vs : List Int) : rep vs 0 = [] := rfl
theorem rep_succ (vs : List Int) (k : Nat) : rep vs (k + 1) = rep vs k ++ vs := by
  unfold rep
  rw [List.replicate_succ', List.flatten_append]
  simp
theorem rep_len (vs : List Int) : ∀ k, (rep vs k).length = k * vs.length
  | 0 => by simp [rep_zero]
  | k + 1 => by rw [rep_succ, List.length_append, rep_len vs k, Nat.succ_mul]
theorem rep_mem (vs : List Int) (k : Nat) : ∀ z ∈ rep vs k, z ∈ vs := by
  intro z hz
  unfold rep at hz
  obtain ⟨l, hl, hz⟩ := List.mem_flatten.1 hz
  rw [(List.mem_replicate.1 hl).2] at hz
  exact hz

theorem det_small (m : Nat) : (det (m : Int)).length ≤ 16 := det_le _
set_option maxRecDepth 100000 in
theorem lm_put (wb ab m : Nat) (l : List Int) (Aa : Option Addr) (ca : Nat) (w1 : World) (hwb : w1.heap.size = wb) (hac : w1.cell? ⟨ab, 0, none⟩ = some (.slice Aa m ca)) (hrd : Rd w1 Aa m ca (uv l)) (hwf : ∀ z ∈ l, 0 ≤ z ∧ z < 18446744073709551616) (hlen : l.length = m) (hm : m ≤ 480) :
    PutK wb 61 m #[.pointer (some ⟨ab, 0, none⟩)] (fun W => ∃ g, Wr W wb wb g [] ∧ Below wb w1 W) (fun j W => ∃ g, Wr W wb wb g (det (m : Int) ++ itm l j) ∧ Below wb w1 W) := by
  refine ⟨fun W W' ⟨g, h1, h2⟩ hb => ⟨g, h1.below hb, h2.trans (hb.mono (by have := h2.size; omega))⟩, fun W ⟨g, h1, h2⟩ => ?_, fun j W hj ⟨g, h1, h2⟩ => ?_, fun j W => by kernel_rfl⟩
  · refine (lput_less (m : Int) wb wb g [] W h1 (by simp) (by have := h2.size; omega) (by omega) (by omega)).mono ?_
    rintro e w' ⟨rfl, g', hw, hu, _⟩
    refine ⟨rfl, g', ?_, h2.trans (hu.below (Nat.le_refl _) (fun k hk => (h1.glt k hk).1) (by have := h2.size; omega))⟩
    rw [itm_zero, List.append_nil]
    exact hw
  · have hlt := lt_cell hac
    have hk := many1_any wb wb g (det (m : Int) ++ itm l j) Aa m ca l j ab W ((h2.cell (by simp only at hlt ⊢; omega)).trans hac) (hrd.below h2 (by omega)) hwf (by omega) h1 (by have := det_small m; rw [List.length_append, itm_len l j (by omega)]; omega) (by have := h2.size; omega)
    refine hk.mono ?_
    rintro e w' ⟨rfl, g', hw, hu, _⟩
    refine ⟨rfl, g', ?_, h2.trans (hu.below (Nat.le_refl _) (fun k hk => (h1.glt k hk).1) (by have := h2.size; omega))⟩
    rw [itm_succ l j (by omega), ← List.append_assoc]
    exact hw
theorem and31u (z : Int) (h0 : 0 ≤ z) (h1 : z < 18446744073709551616) : bits BinOp.and IntKind.u64 z 31 = z % 32 := by
  have h := bits_and_u64_nat z.toNat 31 (by omega) (by omega)
  rw [Int.toNat_of_nonneg h0] at h
  have e : (31 : Nat) = 2 ^ 5 - 1 := by decide
  have h2 : z.toNat &&& 31 = z.toNat % 32 := by
    rw [e, Nat.and_two_pow_sub_one_eq_mod]
  rw [h2] at h
  have e3 : ((31 : Nat) : Int) = 31 := rfl
  rw [e3] at h
  rw [h]
  omega
def LM3Rel (m : Nat) (w14 : World) (i : Value) (wr : World) : Prop :=
  ∃ (j : Nat), j ≤ m ∧ i = .int .i64 (j : Int) ∧ Hid (Below w14.heap.size w14 wr)
theorem map_succ (l : List Int) (j : Nat) (h : j < l.length) : (l.take (j + 1)).map (· % 32) = (l.take j).map (· % 32) ++ [l[j] % 32] := by
  rw [List.take_succ_eq_append_getElem h, List.map_append]
  rfl
set_option maxRecDepth 100000 in
theorem lm_bits {D : Nat → Prop} {P q : Nat} {em : Bool} (L : List Bool) (m j : Nat) (l : List Int) (hL : L = det (m : Int) ++ itm l m) (hlen : l.length = m) (hj : j < l.length) (W : World) (h : Wd W P q D (packW L) ((det (m : Int)).length + 5 * j) 0 em) :
    Calls Try.prog 66 #[.pointer (some ⟨P, 0, none⟩), .int .i64 5] W (WdPost W P q D (packW L) ((det (m : Int)).length + 5 * (j + 1)) 0 em (.int .u64 (l[j] % 32))) := by
  obtain ⟨post, hp⟩ := itm_mid l j hj
  have hpre : (det (m : Int) ++ itm l j).length = (det (m : Int)).length + 5 * j := by rw [List.length_append, itm_len l j (by omega)]
  obtain ⟨e1, e2, e3⟩ := back_bits L (det (m : Int) ++ itm l j) (Pl.bitsOf l[j] 5) post (by rw [hL, ← hlen, hp]; simp only [List.append_assoc])
  rw [Pl.bitsOf_length, hpre] at e1 e2 e3
  rw [Pl.num_bitsOf] at e3
  have hk := wdBits_any (D := D) P q (packW L) ((det (m : Int)).length + 5 * j) 0 5 em W h
  rw [show cl64 5 = 5 by decide, e1, e2, e3] at hk
  exact hk
set_option maxRecDepth 100000 in
theorem lm_one2 {D : Nat → Prop} (P q : Nat) (em : Bool) (L : List Bool) (m gb N0 : Nat) (l : List Int) (w0 : World) (hL : L = det (m : Int) ++ itm l m) (hlen : l.length = m) (hm : m ≤ 480) (hg : gb < N0) :
    OneK P q D (packW L) em m 65 #[.pointer (some ⟨gb, 0, none⟩)] N0 (fun j W => Got P q D (packW L) em gb (N0 + 3) w0 ((det (m : Int)).length + 5 * j) ((l.take j).map (· % 32)) W) (fun _ => False) := by
  refine ⟨fun j W h => ⟨_, h.wd⟩, fun j W b v h1 h2 h => h.set v (by omega) (by omega), fun j W hj hs h => ?_, fun j W => by kernel_rfl⟩
  refine (many2_any P q (packW L) em gb N0 w0 _ _ j _ (l[j]'(by omega) % 32) W (fun W h => lm_bits L m j l hL hlen (by omega) W h) (by simp; omega) (by omega) hs hg h).mono ?_
  rintro e w' ⟨rfl, hg', hs', hb'⟩
  exact ⟨.inl ⟨rfl, by rw [map_succ l j (by omega)]; exact hg'⟩, hs', hb'⟩
set_option maxRecDepth 100000 in
theorem lm_one3 {D : Nat → Prop} (P q : Nat) (em : Bool) (L : List Bool) (m tb mb N0 : Nat) (M : Int) (l : List Int) (w0 : World) (hL : L = det (m : Int) ++ itm l m) (hlen : l.length = m) (hm : m ≤ 480) (ht : tb < N0) :
    OneK P q D (packW L) em m 67 #[.pointer (some ⟨tb, 0, none⟩), .pointer (some ⟨mb, 0, none⟩)] N0 (fun j W => Told P q D (packW L) em tb mb M w0 ((det (m : Int)).length + 5 * j) j W ∧ (j = 0 ∨ (j : Int) < M))
      (fun W => ∃ t a, Told P q D (packW L) em tb mb M w0 a t W ∧ 1 ≤ t ∧ t ≤ m ∧ (t = 1 ∨ (t : Int) - 1 < M) ∧ ¬ (t : Int) < M) := by
  refine ⟨fun j W h => ⟨_, h.1.wd⟩, fun j W b v h1 h2 h => ⟨h.1.set v (by omega), h.2⟩, fun j W hj hs h => ?_, fun j W => by kernel_rfl⟩
  refine (many3_any P q (packW L) em tb mb N0 M w0 _ _ j (j : Int) (l[j]'(by omega) % 32) W (fun W h => lm_bits L m j l hL hlen (by omega) W h) (by omega) hs ht h.1).mono ?_
  rintro e w' ⟨rfl, hg', hs', hb'⟩
  refine ⟨?_, hs', hb'⟩
  by_cases hM : (j : Int) + 1 < M
  · rw [decide_eq_true hM]
    exact .inl ⟨rfl, hg', .inr (by omega)⟩
  · rw [decide_eq_false hM]
    exact .inr ⟨rfl, j + 1, _, hg', by omega, by omega, by have := h.2; omega, by omega⟩
def LM2Rel (vb m : Nat) (l : List Int) (w2 : World) (i : Value) (wr : World) : Prop :=
  ∃ (j : Nat) (g : Option Nat), j ≤ m ∧ i = .int .i64 (j : Int) ∧ Hid (Wf wr vb vb g (det (m : Int) ++ itm l j)) ∧ Hid (Below vb w2 wr)
/-- The first loop: all, in the variable at w0's second new block. -/
def LM1Rel (vs : List Int) (R : Nat) (y : Int) (w0 : World) (k : Value) (wr : World) : Prop :=
  ∃ (j m : Nat) (A : Option Addr) (c : Nat), j ≤ R ∧ k = .int .i64 (j : Int) ∧ Hid (m = j * vs.length ∧ (60 < vs.length → j = 0)) ∧ wr.cell? ⟨w0.heap.size + 1, 0, none⟩ = some (.slice A m c) ∧ wr.frozen? ⟨w0.heap.size + 1, 0, none⟩ = false ∧
    Hid (wr.ownsRow (w0.heap.size + 2) 49 1 (.slice A m c) m (uv (rep vs j))) ∧ Hid (wr.cell? ⟨w0.heap.size, 0, none⟩ = some (.int .i64 y) ∧ wr.frozen? ⟨w0.heap.size, 0, none⟩ = false) ∧ Hid (Below w0.heap.size w0 wr ∧ w0.heap.size + 2 ≤ wr.heap.size)

set_option maxRecDepth 100000 in
set_option maxHeartbeats 6400000 in
theorem lengthMany_walk (A : Option Addr) (n c : Nat) (vs : List Int) (x y : Int) (w : World) (h : Rd w A n c (uv vs)) (hwf : ∀ z ∈ vs, (Lit.int .u64 z).wf = true) (_hx : (Lit.int .i64 x).wf = true) (_hy : (Lit.int .i64 y).wf = true) :
    Calls Try.prog 12 #[.slice A n c, .int .i64 x, .int .i64 y] w fun e w' => e = .returned (.bool true) ∧ Below w.heap.size w w' := by
  obtain ⟨i0, hi, hz0, hz1, hz2⟩ := info_parts Try.info_u64m
  have hm := h.lenmax
  have hln := hide (show n = vs.length by have := h.1; rw [uv_length] at this; exact this)
  have H := hide h
  have hwf2 : Hid (∀ z ∈ vs, 0 ≤ z ∧ z < 18446744073709551616) := fun z hz => bd_u64 (hwf z hz)
  obtain ⟨R, hR⟩ : ∃ R : Nat, (x % 18446744073709551616 % 9).toNat = R := ⟨_, rfl⟩
  have hxR : (IntKind.u64.wrap x).tmod 9 = (R : Int) := by
    rw [Int.tmod_eq_emod_of_nonneg (by rw [IntKind.wrap_u64]; omega), IntKind.wrap_u64]
    omega
  have hR8 : (R : Int) ≤ 8 := by omega
  have hR0 : (0 : Int) ≤ (R : Int) := by omega
  clear h hwf hR _hx _hy
  obtain ⟨W0, hW0⟩ : ∃ W0, (w.alloc (.cells #[.int .i64 y] 3)).alloc (.cells #[.slice none 0 0] 76) = W0 := ⟨_, rfl⟩
  obtain ⟨hsz0, b0, y0, a0, af0⟩ := two w _ _ _ _ W0 hW0
  have yf0 : W0.frozen? ⟨w.heap.size, 0, none⟩ = false := by
    rw [← hW0]
    simp
  have B0 := hide b0
  go_enter Try.func12, Try.ntmps12
  go_wp2_with (fail)
  clear hW0 b0
  go_loopw [8] (LM1Rel vs R y w) (fun k _ => R - (intOf k).toNat)
  case atStart => exact ⟨0, 0, none, 0, Nat.zero_le _, rfl, ⟨by simp, fun _ => rfl⟩, a0, af0, World.ownsRow_nil _ _ _ _, ⟨y0, yf0⟩, ⟨B0.out, by omega⟩⟩
  case round =>
    obtain ⟨j, m, Aa, ca, hj, rfl, hmj, hac, haf, hown, hyc, hbw⟩ := hrel
    have hyf := hide hyc.out
    by_cases hlt : j < R ∧ n ≤ 60
    · have hj1 : (j : Int) < (R : Int) := by omega
      have hj0 : (0 : Int) ≤ (j : Int) := by omega
      have hn60 : (n : Int) ≤ 60 := by omega
      have hrd := hide (H.out.below hbw.out.1 (Nat.le_refl _))
      have hm480 : m ≤ 480 := by
        have h1 := hmj.out.1
        have h2 := hln.out
        have h3 : j * vs.length ≤ 8 * 60 := Nat.mul_le_mul (by omega) (by omega)
        omega
      have hmn := hide (show m + n ≤ 1099511627776 by omega)
      have hcap := (Rd.of_own hown.out).cap
      have hlt2 := hide hlt
      clear hlt
      go_wp2_with (at_builtin; refine wpList_app _ rfl (.tmp 32) (.tmp 33) _ rfl (w.heap.size + 2) 49 i0 (.int .u64 0) 8 Try.underlying76 hi hz0 hz1 hz2 rfl _ m (uv (rep vs j)) rfl hown.out _ _ _ _ rfl hrd.out (uv_one _) hmn.out (by omega) hbw.out.2 ?_)
      intro A3 c3 w3 hown3 hg3 hl3
      have hne : ∀ q, (Value.slice Aa m ca).ownBlock = some q → w.heap.size + 2 ≤ q := fun q hq => (hown.out.lt q hq).1
      have hne3 : ∀ q, (Value.slice A3 (m + n) c3).ownBlock = some q → w.heap.size + 2 ≤ q := fun q hq => (hown3.lt q hq).1
      have hac3 : w3.cell? ⟨w.heap.size + 1, 0, none⟩ = some (.slice Aa m ca) := (hg3.cell_far ⟨w.heap.size + 1, 0, none⟩ (lt_cell hac) (fun e => by have := hne _ e.symm; simp only at this; omega)).trans hac
      have haf3 : w3.frozen? ⟨w.heap.size + 1, 0, none⟩ = false := (hg3.frozen_far ⟨w.heap.size + 1, 0, none⟩ (lt_cell hac) (fun e => by have := hne _ e.symm; simp only at this; omega)).trans haf
      have hyc3 : w3.cell? ⟨w.heap.size, 0, none⟩ = some (.int .i64 y) := (hg3.cell_far ⟨w.heap.size, 0, none⟩ (lt_cell hyf.out.1) (fun e => by have := hne _ e.symm; simp only at this; omega)).trans hyf.out.1
      have hyf3 : w3.frozen? ⟨w.heap.size, 0, none⟩ = false := (hg3.frozen_far ⟨w.heap.size, 0, none⟩ (lt_cell hyf.out.1) (fun e => by have := hne _ e.symm; simp only at this; omega)).trans hyf.out.2
      have hb3 := hbw.out.1.grown hg3 hbw.out.1.size (fun q hq => by have := hne q hq; omega)
      have hsz3 := Nat.le_trans hbw.out.2 hg3.size
      rw [← uv_append, ← rep_succ] at hown3
      have HX := hide (And.intro hown3 (And.intro hyc3 (And.intro hyf3 (And.intro hb3 (And.intro hsz3 hne3)))))
      clear hown3 hyc3 hyf3 hb3 hsz3 hne hne3 hg3 hl3 hac haf
      go_wp2
      go_roundw
      case measure => simp [intOf]; omega
      case rel =>
        obtain ⟨g1, g2, g3, g4, g5, g6⟩ := HX.out
        refine ⟨j + 1, m + n, A3, c3, by have := hlt2.out; omega, by go_num, ⟨?_, ?_⟩, World.cell?_setCell_same _ _ _ hac3, ?_, ?_, ⟨?_, ?_⟩, ⟨g4.setCell (by simp) _, ?_⟩⟩
        · have h1 := hmj.out.1
          have h2 := hln.out
          rw [Nat.succ_mul]
          omega
        · have h2 := hln.out
          omega
        · rw [World.frozen?_setCell]
          exact haf3
        · exact ownsRow_setCell_other g1 (fun e => by have := g6 _ e; simp only at this; omega) _
        · exact (cell_setCell_ne _ (by simp only; omega)).trans g2
        · rw [World.frozen?_setCell]
          exact g3
        · simp only [World.setCell]
          simpa using g5
    · have hml := (Rd.of_own hown.out).1
      rw [uv_length] at hml
      have hm480 : m ≤ 480 := by
        have h1 := hmj.out.1
        have h2 := hln.out
        by_cases h60 : 60 < vs.length
        · rw [hmj.out.2 h60, Nat.zero_mul] at h1
          omega
        · have h3 : j * vs.length ≤ 8 * 60 := Nat.mul_le_mul (by omega) (by omega)
          omega
      have hwfl : Hid (∀ z ∈ rep vs j, 0 ≤ z ∧ z < 18446744073709551616) := fun z hz => hwf2.out z (rep_mem vs j z hz)
      have hrd1 := hide (Rd.of_own hown.out)
      have hrow := hide (fun q (hq : (Value.slice Aa m ca).ownBlock = some q) => (hown.out.lt q hq).1)
      have hmi0 : (0 : Int) ≤ (m : Int) := by omega
      have hmi9 : (m : Int) ≤ 480 := by omega
      have hex : ¬ (j : Int) < (R : Int) ∨ ((j : Int) < (R : Int) ∧ ¬ (n : Int) ≤ 60) := by omega
      have hcapa := hrd1.out.cap
      have hmaxa := hrd1.out.max
      generalize rep vs j = l at *
      have HML := hide hml.symm
      clear hlt hmj hown hml
      have hPK := hide (lm_put wr.heap.size (w.heap.size + 1) m l Aa ca wr rfl hac hrd1.out hwfl.out HML.out hm480)
      have hP0 := hide (putMany_any _ _ _ _ _ _ hPK.out (by omega) (wr.alloc (.cells #[.slice none 0 0, .int .i64 0] 53)) ⟨none, Wr.new wr wr.heap.size 53, (Below.refl _ _).alloc (Nat.le_refl _) _⟩)
      clear hPK
      have hac9 := hide hac
      have hacA : (wr.alloc (.cells #[.slice none 0 0, .int .i64 0] 53)).cell? ⟨w.heap.size + 1, 0, none⟩ = some (.slice Aa m ca) := (World.cell?_alloc_lt wr _ _ (lt_cell hac)).trans hac
      clear hac haf
      rcases hex with hex | ⟨hex, hex2⟩
      all_goals
        go_wp2_with (fail)
        refine hP0.out.mono ?_
        rintro e w2 ⟨rfl, g2, hw2, hb2⟩
        have hac2 := (hb2.cell (p := ⟨w.heap.size + 1, 0, none⟩) (lt_cell hac9.out)).trans hac9.out
        have W2 := hide hw2
        have B2 := hide hb2
        have N3 := hide (Wf.new w2 w2.heap.size 56)
        have hal := (Below.refl w2.heap.size w2).alloc (Nat.le_refl _) (.cells #[.slice none 0 0] 56)
        have HAL := hide hal
        have hac3 := (hal.cell (p := ⟨w.heap.size + 1, 0, none⟩) (lt_cell hac2)).trans hac2
        clear hw2 hb2 hal
        go_wp2_with (fail)
        refine (rdet_any (m : Int) w2.heap.size w2.heap.size none [] _ N3.out (by simp) HAL.out.size (by omega) (by omega)).mono ?_
        rintro e w3 ⟨rfl, g3, hw3, hu3, hm3⟩
        have W3 := hide hw3
        have B3 := hide (HAL.out.trans (hu3.below (B := w2.heap.size) (Nat.le_refl _) (fun q hq => by cases hq) HAL.out.size))
        clear hw3 hu3 hm3 hac3 N3
        go_wp2_with (fail)
        obtain ⟨wo, rfl⟩ : ∃ wo : World, wo = wr := ⟨_, rfl⟩
        go_loopw [11] (LM2Rel w2.heap.size m l w2) (fun i _ => m - (intOf i).toNat)
        case atStart => exact ⟨0, g3, Nat.zero_le _, rfl, by rw [itm_zero, List.append_nil]; exact W3.out, B3.out⟩
        case round =>
          obtain ⟨i, g, hi9, rfl, hwf9, hb9⟩ := hrel
          have hac4 := (hb9.out.cell (p := ⟨w.heap.size + 1, 0, none⟩) (lt_cell hac2)).trans hac2
          have B4 := hide (B2.out.trans (hb9.out.mono B2.out.size))
          by_cases hlt : i < m
          · have hil : i < l.length := by have := HML.out; omega
            obtain ⟨b7, o7, e7, hcell7⟩ := RdU.at_ (hrd1.out.below B4.out (Nat.le_refl _)) hil
            subst e7
            have hz7 := hwfl.out l[i] (List.getElem_mem hil)
            have kB := hide (rwBits_any l[i] 5 w2.heap.size w2.heap.size g _ wr hwf9.out (by have := det_small m; have := HML.out; rw [List.length_append, itm_len l i (by omega)]; omega) hb9.out.size hz7.1 hz7.2)
            have hsu := hide (itm_succ l i hil)
            rw [show cl64 5 = 5 by decide, List.append_assoc, ← hsu.out] at kB
            generalize l[i] = z7 at *
            have hi0 : (0 : Int) ≤ (i : Int) := by omega
            have him : (i : Int) < (m : Int) := by omega
            go_wp2_with (fail)
            refine kB.out.mono ?_
            rintro e w4 ⟨rfl, g4, hw4, hu4, hm4⟩
            have W4 := hide hw4
            have B5 := hide (hb9.out.trans (hu4.below (B := w2.heap.size) (Nat.le_refl _) (fun q hq => (hwf9.out.glt q hq).1) hb9.out.size))
            clear hw4 hu4 hm4 hcell7 hac4
            go_wp2
            go_roundw
            case rel => exact ⟨i + 1, g4, hlt, by go_num, W4.out, B5.out⟩
            case measure => simp [intOf]; omega
          · obtain rfl : i = m := by omega
            have him : ¬ (i : Int) < (i : Int) := by omega
            have WR := hide (W2.out.below hb9.out)
            have hLl : Hid ((det (i : Int) ++ itm l i).length ≤ 3000) := by
              have h1 := det_small i
              have h2 := HML.out
              show _ ≤ _
              rw [List.length_append, itm_len l i (by omega)]
              omega
            have WF := hide hwf9.out
            obtain ⟨L, hL⟩ : ∃ L, L = det (i : Int) ++ itm l i := ⟨_, rfl⟩
            rw [← hL] at WR WF hLl
            have HL := hide hL
            clear hL hlt
            go_wp2_with (fail)
            refine (awake18_any _).mono ?_
            rintro e w4 ⟨rfl, hb4⟩
            have WR4 := hide (WR.out.below hb4)
            have WF4 := hide (WF.out.below hb4)
            have B6 := hide (B4.out.trans (hb4.mono B4.out.size))
            clear hb4
            go_wp2_with (fail)
            refine (wBytes_any _ _ _ _ _ WR4.out (by have := hLl.out; omega)).mono ?_
            rintro e w5 ⟨A5, n5, c5, rfl, hf5⟩
            have WR5 := hide (WR4.out.below hf5.below)
            have WF5 := hide (WF4.out.below hf5.below)
            have B7 := hide (B6.out.trans (hf5.below.mono B6.out.size))
            have O5 := hide hf5.1
            clear hf5
            go_wp2_with (fail)
            refine (rwBytes_any _ _ _ _ _ WF5.out (by have := hLl.out; omega)).mono ?_
            rintro e w6 ⟨A6, n6, c6, rfl, hf6⟩
            have WR6 := hide (WR5.out.below hf6.below)
            have B8 := hide (B7.out.trans (hf6.below.mono B7.out.size))
            have kS := hide (sameBytes_any _ _ _ _ _ _ _ _ w6 ((Rd.of_own O5.out).below hf6.below (Nat.le_refl _)) hf6.rd)
            clear hf6 O5 WF5 WF4 WR5 WR4 B6 B7
            go_wp2_with (fail)
            refine kS.out.mono ?_
            rintro e w7 ⟨rfl, rfl⟩
            simp only [decide_true]
            go_wp2_with (fail)
            refine (wBytes_any _ _ _ _ _ WR6.out (by have := hLl.out; omega)).mono ?_
            rintro e w8 ⟨A8, n8, c8, rfl, hf8⟩
            have WR8 := hide (WR6.out.below hf8.below)
            have B9 := hide (B8.out.trans (hf8.below.mono B8.out.size))
            have R8 := hide hf8.rd
            have hpm := hide (packW_max L)
            have hn8 := hide (show n8 ≤ 1099511627776 by
              have h1 := RdB.length hf8.rd
              have h2 := hpm.out
              have := hLl.out
              omega)
            clear hf8 WR6 B8 kS
            go_wp2_with (fail)
            refine (wdNew_any A8 n8 c8 _ _ R8.out hn8.out).mono ?_
            rintro e w9 ⟨P1, q1, rfl, hr9, hb9', hq9⟩
            have P9 := hide hr9
            have WR9 := hide (WR8.out.below hb9')
            have B10 := hide (B9.out.trans (hb9'.mono B9.out.size))
            have HQ1 := hide (show wo.heap.size ≤ q1 from Nat.le_trans B9.out.size hq9)
            have hsz8 := hide (show wo.heap.size ≤ w8.heap.size from B9.out.size)
            clear hr9 hb9' hq9 R8 WR8 B9
            have HD1 : Hid (∀ z, z < wo.heap.size → ¬ (fun b => w8.heap.size ≤ b ∧ b < q1) z) := fun z hz (h : w8.heap.size ≤ z ∧ z < q1) => by have := hsz8.out; omega
            generalize (fun b => w8.heap.size ≤ b ∧ b < q1) = D1 at *
            go_wp2_with (fail)
            refine (wBytes_any _ _ _ _ _ WR9.out (by have := hLl.out; omega)).mono ?_
            rintro e w10 ⟨A10, n10, c10, rfl, hf10⟩
            have P10 := hide (P9.out.below hf10.below)
            have B11 := hide (B10.out.trans (hf10.below.mono B10.out.size))
            have R10 := hide hf10.rd
            have hn10 := hide (show n10 ≤ 1099511627776 by
              have h1 := RdB.length hf10.rd
              have h2 := hpm.out
              have := hLl.out
              omega)
            clear hf10 WR9 P9 B10
            go_wp2_with (fail)
            refine (wdNew_any A10 n10 c10 _ _ R10.out hn10.out).mono ?_
            rintro e w11 ⟨P2, q2, rfl, hr11, hb11, hq11⟩
            have Q11 := hide hr11
            have P11 := hide (P10.out.below hb11)
            have B12 := hide (B11.out.trans (hb11.mono B11.out.size))
            have HP := hide (show q1 < P1 ∧ P1 < w10.heap.size ∧ w10.heap.size ≤ q2 ∧ q2 < P2 ∧ P2 < w11.heap.size from ⟨P10.out.qp, P10.out.lt, hq11, hr11.qp, hr11.lt⟩)
            have HD2 : Hid (∀ z, z < w10.heap.size → ¬ (fun b => w10.heap.size ≤ b ∧ b < q2) z) := fun z hz (h : w10.heap.size ≤ z ∧ z < q2) => by omega
            clear hr11 hb11 hq11 R10 P10 B11
            generalize (fun b => w10.heap.size ≤ b ∧ b < q2) = D2 at *
            generalize hem : decide (packW L = [0]) = em at *
            have HEM := hide hem
            clear hem
            have hac12 := (B12.out.cell (p := ⟨w.heap.size + 1, 0, none⟩) (lt_cell hac9.out)).trans hac9.out
            obtain ⟨wA, hwA⟩ : ∃ wA, w11.alloc (.cells #[.slice none 0 0] 76) = wA := ⟨_, rfl⟩
            have hacA2 : wA.cell? ⟨w.heap.size + 1, 0, none⟩ = some (.slice Aa i ca) := by
              rw [← hwA]
              exact (World.cell?_alloc_lt w11 _ _ (lt_cell hac12)).trans hac12
            have hA9 : wA.heap.size = w11.heap.size + 1 ∧ Below w11.heap.size w11 wA ∧ wA.cell? ⟨w11.heap.size, 0, none⟩ = some (.slice none 0 0) ∧ wA.frozen? ⟨w11.heap.size, 0, none⟩ = false := by
              rw [← hwA]
              exact ⟨size_alloc _ _, (Below.refl _ _).alloc (Nat.le_refl _) _, cell_new rfl rfl, by simp⟩
            have GOT0 : Hid (Got P1 q1 D1 (packW L) em w11.heap.size (wA.heap.size + 3) w11 0 [] wA) := ⟨P11.out.below hA9.2.1, ⟨none, 0, 0, hA9.2.2.1, hA9.2.2.2, World.ownsRow_nil _ _ _ _⟩, Upd.of_below hA9.2.1, Nat.le_refl _, by have := HP.out; omega, by omega⟩
            have KT1 := hide (takeMany_any (D := D1) P1 q1 em L [] (itm l i) i 65 #[.pointer (some ⟨w11.heap.size, 0, none⟩)] (i : Int) (fun W => Got P1 q1 D1 (packW L) em w11.heap.size (wA.heap.size + 3) w11 0 [] W) _ _ (by rw [HL.out]; rfl) (by omega) (by omega) (by omega) wA (fun W h => h.wd) (fun W W' h hb => h.upd (h.wd.below hb) (Upd.of_below hb)) (fun W W' h hw hu => by simpa using h.upd hw hu) (lm_one2 P1 q1 em L i w11.heap.size wA.heap.size l w11 HL.out HML.out (by omega) (by omega)) GOT0.out)
            have hsA := hide hA9.1
            clear hA9 hac12 HAL
            go_wp2_with (fail)
            refine KT1.out.mono ?_
            clear hwA
            rintro e w12 (⟨rfl, hG⟩ | ⟨rfl, hF⟩)
            rotate_left
            · exact hF.elim
            have hu12 := hG.up
            have G12 := hide hG
            have Q12 := hide (Q11.out.upd hu12 (by have := HP.out; omega) (by have := HP.out; simp only [ne_eq, Option.some.injEq]; omega) (by have := HP.out; omega) (by have := HP.out; simp only [ne_eq, Option.some.injEq]; omega) (HD2.out _ HP.out.2.1) (fun z e => by cases e; exact HD2.out _ (by have := HP.out; omega)))
            have B13 := hide (B12.out.trans (hu12.below (B := wo.heap.size) (by have := HP.out; have := HQ1.out; omega) (fun z e => by cases e; exact HQ1.out) B12.out.size))
            clear hG hu12 KT1 GOT0 hacA2 Q11 P11 B12
            have hyc13 := (B13.out.cell (p := ⟨w.heap.size, 0, none⟩) (lt_cell hyf.out.1)).trans hyf.out.1
            have hyf13 := (B13.out.frozen (p := ⟨w.heap.size, 0, none⟩) (lt_cell hyf.out.1)).trans hyf.out.2
            have hac13 := (B13.out.cell (p := ⟨w.heap.size + 1, 0, none⟩) (lt_cell hac9.out)).trans hac9.out
            obtain ⟨M, hM⟩ : ∃ M : Nat, (y % 18446744073709551616 % ((i : Int) + 1)).toNat = M := ⟨_, rfl⟩
            have hMb : 0 ≤ y % 18446744073709551616 % ((i : Int) + 1) ∧ y % 18446744073709551616 % ((i : Int) + 1) < (i : Int) + 1 := ⟨Int.emod_nonneg _ (by omega), Int.emod_lt_of_pos _ (by omega)⟩
            have hyM : (IntKind.u64.wrap y).tmod ((i : Int) + 1) = (M : Int) := by
              rw [Int.tmod_eq_emod_of_nonneg (by rw [IntKind.wrap_u64]; omega), IntKind.wrap_u64]
              omega
            have hMi : (M : Int) ≤ (i : Int) := by omega
            have hM0 : (0 : Int) ≤ (M : Int) := by omega
            clear hM hMb
            obtain ⟨wB, hwB⟩ : ∃ wB, w12.setCell ⟨w.heap.size, 0, none⟩ (.int .i64 (M : Int)) = wB := ⟨_, rfl⟩
            have uM : Upd w.heap.size none w12 wB := hwB ▸ (Upd.refl w.heap.size none w12).cellp 0 _
            have hzo : w.heap.size + 2 ≤ wo.heap.size := hbw.out.2
            have PB := hide (G12.out.wd.upd uM (by have := HP.out; have := HQ1.out; omega) (by simp) (by have := HP.out; have := HQ1.out; omega) (by simp) (HD1.out _ (by omega)) (fun z e => by cases e))
            have QB := hide (Q12.out.upd uM (by have := HP.out; have := HQ1.out; omega) (by simp) (by have := HP.out; have := HQ1.out; omega) (by simp) (HD2.out _ (by have := HP.out; have := HQ1.out; omega)) (fun z e => by cases e))
            have hacB := hide ((uM.cell (a := ⟨w.heap.size + 1, 0, none⟩) (lt_cell hac13) (by simp) (by simp)).trans hac13)
            have hmbB : Hid (wB.cell? ⟨w.heap.size, 0, none⟩ = some (.int .i64 (M : Int))) := hwB ▸ World.cell?_setCell_same _ _ _ hyc13
            obtain ⟨Ag, mg, cg, gc, gf, go⟩ := G12.out.o
            have hgl := hide (lt_cell gc)
            have gcB := hide ((uM.cell (a := ⟨w11.heap.size, 0, none⟩) (lt_cell gc) (by have := HP.out; have := HQ1.out; simp only; omega) (by simp)).trans gc)
            have goB := hide (own_upd go uM (fun q hq => ⟨by have := (go.lt q hq).1; have := HP.out; have := HQ1.out; have := hsA.out; omega, by simp⟩))
            have hgo := hide (fun q (hq : (Value.slice Ag mg cg).ownBlock = some q) => (go.lt q hq).1)
            have rdB := hide ((hrd1.out.below B13.out (Nat.le_refl _)).upd uM (fun hn b o s e => ⟨by
              subst e
              have := hrow.out b rfl
              omega, by simp⟩))
            have BwB := hide ((hbw.out.1.trans (B13.out.mono (by omega))).trans (uM.below (B := w.heap.size) (Nat.le_refl _) (fun q hq => by cases hq) (by have := B13.out.size; omega)))
            have hsB := hide (show w12.heap.size ≤ wB.heap.size from uM.size)
            have hq12 := hide (show P2 < w12.heap.size from Q12.out.lt)
            obtain ⟨wC, hwC⟩ : ∃ wC, wB.alloc (.cells #[.int .i64 0] 3) = wC := ⟨_, rfl⟩
            have hC9 : wC.heap.size = wB.heap.size + 1 ∧ Below wB.heap.size wB wC ∧ wC.cell? ⟨wB.heap.size, 0, none⟩ = some (.int .i64 0) ∧ wC.frozen? ⟨wB.heap.size, 0, none⟩ = false := by
              rw [← hwC]
              exact ⟨size_alloc _ _, (Below.refl _ _).alloc (Nat.le_refl _) _, cell_new rfl rfl, by simp⟩
            have hacC := (hC9.2.1.cell (p := ⟨w.heap.size + 1, 0, none⟩) (lt_cell hacB.out)).trans hacB.out
            have TOLD0 : Hid (Told P2 q2 D2 (packW L) em wB.heap.size w.heap.size (M : Int) wB 0 0 wC) := ⟨QB.out.below hC9.2.1, hC9.2.2.1, hC9.2.2.2, (hC9.2.1.cell (p := ⟨w.heap.size, 0, none⟩) (lt_cell hmbB.out)).trans hmbB.out, Upd.of_below hC9.2.1, Nat.le_refl _, QB.out.lt, by have := HP.out; have := HQ1.out; omega, by have := HP.out; have := HQ1.out; omega, lt_cell hmbB.out⟩
            have KT2 := hide ((takeMany_any (D := D2) P2 q2 em L [] (itm l i) i 67 #[.pointer (some ⟨wB.heap.size, 0, none⟩), .pointer (some ⟨w.heap.size, 0, none⟩)] (i : Int) (fun W => Told P2 q2 D2 (packW L) em wB.heap.size w.heap.size (M : Int) wB 0 0 W) _ _ (by rw [HL.out]; rfl) (by omega) (by omega) (by omega) wC (fun W h => h.wd) (fun W W' h hb => h.upd (h.wd.below hb) (Upd.of_below hb)) (fun W W' h hw hu => ⟨by simpa using h.upd hw hu, .inl rfl⟩) (lm_one3 P2 q2 em L i wB.heap.size w.heap.size wC.heap.size (M : Int) l wB HL.out HML.out (by omega) (by omega)) TOLD0.out).mono (R' := fun e w' => ∃ (r : Int) (t a : Nat), e = .returned (.int .i64 r) ∧ Told P2 q2 D2 (packW L) em wB.heap.size w.heap.size (M : Int) wB a t w' ∧ (t : Int) = min (max 1 (M : Int)) (i : Int)) (by
              rintro e w' (⟨rfl, h1, h2⟩ | ⟨rfl, t, a, h1, h2, h3, h4, h5⟩)
              · exact ⟨_, i, _, rfl, h1, by omega⟩
              · exact ⟨_, t, a, rfl, h1, by omega⟩))
            have hacC2 : (wB.alloc (.cells #[.int .i64 0] 3)).cell? ⟨w.heap.size + 1, 0, none⟩ = some (.slice Aa i ca) := hwC.symm ▸ hacC
            have HWC := hide hwC
            clear hC9 uM gc gf go hwC hacC
            go_wp2_with (fail)
            rw [HWC.out]
            refine KT2.out.mono ?_
            rintro e w13 ⟨r13, t13, a13, rfl, hT, ht13⟩
            have hu13 : Upd P2 (some q2) wB w13 := hT.up
            have hsw11 := hide (show w11.heap.size < w12.heap.size from hgl.out)
            have P13 := PB.out.upd hu13 (by have := HP.out; omega) (by have := HP.out; simp only [ne_eq, Option.some.injEq]; omega) (by have := HP.out; omega) (by have := HP.out; simp only [ne_eq, Option.some.injEq]; omega) (PB.out.dnew (by have := HP.out; omega)) (fun z e => by cases e; exact PB.out.dnew (by have := HP.out; omega))
            have hpos : (det (i : Int)).length + 5 * i = L.length := by
              rw [HL.out, List.length_append, itm_len l i (by have := HML.out; omega)]
            rw [hpos] at P13
            have kN := wdEnd_any _ _ _ _ _ _ _ P13
            have hpe := back_end L
            rw [HEM.out] at hpe
            rw [hpe] at kN
            have KN := hide kN
            have gc13 := (hu13.cell (a := ⟨w11.heap.size, 0, none⟩) (Nat.lt_of_lt_of_le hsw11.out hsB.out) (by have := HP.out; simp only; omega) (by have := HP.out; simp only [ne_eq, Option.some.injEq]; omega)).trans gcB.out
            have go13 := hide (own_upd goB.out hu13 (fun q hq => by
              have h1 := hgo.out q hq
              have h2 := HP.out
              have h3 := hsA.out
              exact ⟨by omega, by simp only [ne_eq, Option.some.injEq]; omega⟩))
            have hac13' := (hu13.cell (a := ⟨w.heap.size + 1, 0, none⟩) (lt_cell hacB.out) (by have := HP.out; have := HQ1.out; simp only; omega) (by have := HP.out; have := HQ1.out; simp only [ne_eq, Option.some.injEq]; omega)).trans hacB.out
            have rd13 := hide (rdB.out.upd hu13 (fun hn b o s e => by
              have h1 := hrd1.out.lt_all b o s e hn
              have h2 := HP.out
              have h3 := HQ1.out
              exact ⟨by omega, by simp only [ne_eq, Option.some.injEq]; omega⟩))
            have hmg : i = mg := by
              have h1 := (Rd.of_own go13.out).1
              have h2 := HML.out
              rw [uv_length, List.length_map, List.length_take] at h1
              omega
            subst hmg
            have tc13 := hT.t
            have mc13 := hT.m
            have Bw13 := hide (BwB.out.trans (hu13.below (B := w.heap.size) (by have := HP.out; have := HQ1.out; omega) (fun z e => by cases e; have := HP.out; have := HQ1.out; omega) BwB.out.size))
            clear hT hu13 kN hpe hpos P13 KT2 TOLD0 hacC2 hyc13 hyf13 hac13
            go_wp2_with (fail)
            refine KN.out.mono ?_
            rintro e w14 ⟨rfl, hb14⟩
            have gc14 := (hb14.cell (p := ⟨w11.heap.size, 0, none⟩) (lt_cell gc13)).trans gc13
            have hac14 := (hb14.cell (p := ⟨w.heap.size + 1, 0, none⟩) (lt_cell hac13')).trans hac13'
            have tc14 := (hb14.cell (p := ⟨wB.heap.size, 0, none⟩) (lt_cell tc13)).trans tc13
            have mc14 := (hb14.cell (p := ⟨w.heap.size, 0, none⟩) (lt_cell mc13)).trans mc13
            have gr14 := hide ((Rd.of_own go13.out).below hb14 (Nat.le_refl _))
            have rd14 := hide (rd13.out.below hb14 (Nat.le_refl _))
            have Bw14 := hide (Bw13.out.trans (hb14.mono Bw13.out.size))
            have hcg := gr14.out.cap
            have hcx := gr14.out.max
            clear hb14 gc13 hac13' tc13 mc13 KN go13 rd13
            go_wp2_with (fail)
            go_loopw [17] (LM3Rel i w14) (fun k _ => i - (intOf k).toNat)
            case atStart => exact ⟨0, Nat.zero_le _, rfl, Below.refl _ _⟩
            case round =>
              obtain ⟨k, hk, rfl, hbk⟩ := hrel
              have gc15 := (hbk.out.cell (p := ⟨w11.heap.size, 0, none⟩) (lt_cell gc14)).trans gc14
              have hac15 := (hbk.out.cell (p := ⟨w.heap.size + 1, 0, none⟩) (lt_cell hac14)).trans hac14
              have hk0 : (0 : Int) ≤ (k : Int) := by omega
              by_cases hlt : k < i
              · have hkl : k < l.length := by have := HML.out; omega
                have hki : (k : Int) < (i : Int) := by omega
                have hlen2 : k < ((l.take i).map (· % 32)).length := by rw [List.length_map, List.length_take]; omega
                obtain ⟨b8, o8, e8, hcell8⟩ := RdU.at_ (gr14.out.below hbk.out (Nat.le_refl _)) hlen2
                obtain ⟨b7, o7, e7, hcell7⟩ := RdU.at_ (rd14.out.below hbk.out (Nat.le_refl _)) hkl
                have hval : ((l.take i).map (· % 32))[k] = l[k] % 32 := by simp
                rw [hval] at hcell8
                have hz7 := hwfl.out l[k] (List.getElem_mem hkl)
                have hand := and31u l[k] hz7.1 hz7.2
                clear hval hlen2
                subst e8
                subst e7
                generalize l[k] = z7 at *
                go_wp2_with (fail)
                go_quiet (fail)
                go_wp2
                go_roundw
                case rel => exact ⟨k + 1, hlt, by go_num, below_drewN _ hbk.out⟩
                case measure => simp [intOf]; omega
              · obtain rfl : k = i := by omega
                go_wp2
                go_ret
                exact ⟨rfl, Bw14.out.trans (hbk.out.mono Bw14.out.size)⟩
end Go.Proofs.Ytikfogepdmpfaaa
