import Derived.Test.YtikfogepdmpfaaaBit1
namespace Go.Proofs.Ytikfogepdmpfaaa
open Go.RowKit

/-- The bit set: the octet that it is in. -/
theorem or_mask_fin : ∀ (c : Fin 256) (k : Fin 8), bits BinOp.or IntKind.u8 (c.val : Int) ((128 : Int) / 2 ^ k.val) = ((Pl.setB (UInt8.ofNat c.val) k.val true).toNat : Int) := by decide +kernel
theorem or_mask (c : UInt8) (k : Nat) (h : k < 8) : bits BinOp.or IntKind.u8 (c.toNat : Int) ((128 : Int) / 2 ^ k) = ((Pl.setB c k true).toNat : Int) := by
  have := or_mask_fin ⟨c.toNat, c.toNat_lt⟩ ⟨k, h⟩
  simp only [Pl.of_toNat] at this
  exact this

theorem push_true (bs : List UInt8) (n k j : Nat) (hk : n / 8 = k) (hj : n % 8 = j) (h0 : j ≠ 0) (hkl : k < bs.length) : bs.set k (Pl.setB bs[k] j true) = Pl.push bs n true := by
  unfold Pl.push
  simp only [hk, hj, if_neg h0]
  rw [List.getD_eq_getElem?_getD, List.getElem?_eq_getElem hkl]
  rfl
theorem push_true0 (bs : List UInt8) (n k : Nat) (hk : n / 8 = k) (hj : n % 8 = 0) (hkl : bs.length = k) : (bs ++ [0]).set k (Pl.setB 0 0 true) = Pl.push bs n true := by
  unfold Pl.push
  simp only [hk, hj, if_true]
  rw [List.getD_eq_getElem?_getD, List.getElem?_append_right (by omega)]
  simp [hkl]
theorem push_false (bs : List UInt8) (n : Nat) (h0 : n % 8 ≠ 0) : bs = Pl.push bs n false := by
  unfold Pl.push
  rw [if_neg h0]
  simp only [Pl.setB, Bool.false_eq_true, if_false]
  by_cases h : n / 8 < bs.length
  · rw [List.getD_eq_getElem?_getD, List.getElem?_eq_getElem h]
    simp
  · rw [List.set_eq_of_length_le (by omega)]
theorem push_false0 (bs : List UInt8) (n : Nat) (h0 : n % 8 = 0) : bs ++ [0] = Pl.push bs n false := by
  unfold Pl.push
  rw [if_pos h0]
  simp only [Pl.setB, Bool.false_eq_true, if_false]
  by_cases h : n / 8 < (bs ++ [0]).length
  · rw [List.getD_eq_getElem?_getD, List.getElem?_eq_getElem h]
    simp
  · rw [List.set_eq_of_length_le (by omega)]

theorem half_block {w : World} {base p N : Nat} {g : Option Nat} {bs : List UInt8} (h : Half w base p g N bs) (hl : 0 < bs.length) : ∃ gA n c, g = some gA ∧ n = bs.length ∧ w.cell? ⟨p, 0, none⟩ = some (.slice (some ⟨gA, 0, none⟩) n c) ∧ w.cell? ⟨p, 1, none⟩ = some (.int .i64 (N : Int)) ∧ w.frozen? ⟨p, 1, none⟩ = false ∧ p ≠ gA ∧ n ≤ 9223372036854775807 ∧ (∀ k (hk : k < bs.length), w.cell? ⟨gA, k, none⟩ = some (.int .u8 (bs[k].toNat : Int))) ∧ (∀ k, w.frozen? ⟨gA, k, none⟩ = false) := by
  obtain ⟨A, n, c, h0, h1, f0, f1, ho, hg, hne⟩ := h
  have hn := RdB.length (Rd.of_own ho)
  have hm := (Rd.of_own ho).lenmax
  obtain ⟨gA, rfl⟩ : ∃ gA, A = some ⟨gA, 0, none⟩ := by
    rcases ho.2 with ⟨_, h0⟩ | ⟨g', cap, cur, hv, _⟩
    · omega
    · cases hv
      exact ⟨g', rfl⟩
  refine ⟨gA, n, c, hg.symm, hn, h0, h1, f1, fun e => hne (by rw [← hg, e]; rfl), hm, fun k hk => ?_, fun k => ho.frozenAt k⟩
  rw [ho.cellAt k (by omega), bv_at bs k hk]

set_option maxRecDepth 100000 in
set_option maxHeartbeats 800000 in
theorem bit_b1 (v : Int) (base p N : Nat) (g : Option Nat) (bs : List UInt8) (w : World) (h : Half w base p g N bs) (hpl : bs.length = (N + 7) / 8) (hl : N ≤ 1099511627776) (hv : (v != 0) = true) (hN8 : N % 8 ≠ 0) :
    Calls Try.prog 25 #[.pointer (some ⟨p, 0, none⟩), .int .i64 v] w (HalfPost w base p g (N + 1) (Pl.push bs N true)) := by
  have hH := hide h
  obtain ⟨gA, n, c, rfl, hn, h0, h1, f1, hpg, hnm, hcell, hfr⟩ := half_block h (by omega)
  obtain ⟨k, hk⟩ : ∃ k, N / 8 = k := ⟨_, rfl⟩
  obtain ⟨j, hj⟩ : ∃ j, N % 8 = j := ⟨_, rfl⟩
  have hkl : k < bs.length := by omega
  have hk' : (N : Int) / 8 = (k : Int) := by omega
  have hj' : (N : Int) % 8 = (j : Int) := by omega
  have hkn : k < n := by omega
  have hkn2 : (k : Int) < (n : Int) := by omega
  have hk0 : (0 : Int) ≤ (k : Int) := by omega
  have hj0 : (0 : Int) ≤ (j : Int) := by omega
  have hj8 : (j : Int) < 8 := by omega
  have hN0 : 0 ≤ (N : Int) := by omega
  have hjb : ((j : Int) == 0) = false := by simp; omega
  have hor := or_mask bs[k] j (by omega)
  have hp2 : gA ≠ p := fun e => hpg e.symm
  have hc := hcell k hkl
  have hf := hfr k
  have hpush := hide (push_true _ N k j hk hj (by omega) hkl)
  generalize bs[k] = x at *
  clear hk hj hn hpl h hN8 hcell hfr hkl
  go_enter Try.func25, Try.ntmps25
  go_wp2_with (fail)
  go_region
  all_goals
    go_wp2
    refine bodyPost_end (results_none rfl _ _ _) rfl ?_
    refine ⟨rfl, some gA, ?_, (((Upd.refl _ _ _).cellg _ _).cellp _ _).drew, Mv.refl _ _⟩
    have := (hH.out.set k (Pl.setB x j true)).count (N + 1)
    rw [hpush.out, show ((N + 1 : Nat) : Int) = (N : Int) + 1 by omega] at this
    exact this

set_option maxRecDepth 100000 in
set_option maxHeartbeats 800000 in
theorem bit_b2 (v : Int) (base p N : Nat) (g : Option Nat) (bs : List UInt8) (w : World) (h : Half w base p g N bs) (hl : N ≤ 1099511627776) (hv : (v != 0) = false) (hN8 : N % 8 ≠ 0) :
    Calls Try.prog 25 #[.pointer (some ⟨p, 0, none⟩), .int .i64 v] w (HalfPost w base p g (N + 1) (Pl.push bs N false)) := by
  have hH := hide h
  obtain ⟨A, n, c, h0, h1, f0, f1, _, _, _⟩ := h
  have hj : (((N : Int) % 8) == 0) = false := by simp; omega
  have hN0 : 0 ≤ (N : Int) := by omega
  have hpush := hide (push_false bs N hN8)
  clear hN8
  go_enter Try.func25, Try.ntmps25
  go_wp2
  refine bodyPost_end (results_none rfl _ _ _) rfl ?_
  refine ⟨rfl, g, ?_, (Upd.refl _ _ _).cellp _ _, Mv.refl _ _⟩
  have := hH.out.count (N + 1)
  rw [show ((N + 1 : Nat) : Int) = (N : Int) + 1 by omega] at this
  rw [← hpush.out]
  exact this

set_option maxRecDepth 100000 in
set_option maxHeartbeats 800000 in
theorem bit_b4 (v : Int) (base p N : Nat) (g : Option Nat) (bs : List UInt8) (w : World) (h : Half w base p g N bs) (hpl : bs.length = (N + 7) / 8) (hl : N ≤ 1099511627776) (hB : base ≤ w.heap.size) (hv : (v != 0) = false) (hN8 : N % 8 = 0) :
    Calls Try.prog 25 #[.pointer (some ⟨p, 0, none⟩), .int .i64 v] w (HalfPost w base p g (N + 1) (Pl.push bs N false)) := by
  obtain ⟨i0, hi, hz0, hz1, hz2⟩ := info_parts Try.info_byte
  have hH := hide h
  obtain ⟨A, n, c, h0, h1, f0, f1, ho, hg, hne⟩ := h
  have hn := RdB.length (Rd.of_own ho)
  have hj : (((N : Int) % 8) == 0) = true := by simp; omega
  have hN0 : 0 ≤ (N : Int) := by omega
  have hpush := hide (push_false0 bs N hN8)
  have hps := lt_cell h0
  simp only at hps
  have hO := hide (ho.alloc (.cells #[.int .u8 0] 5))
  have hR := hide (Rd.one w (.int .u8 0) 5)
  have hnb : n + 1 ≤ 1099511627776 := by omega
  have HB := hide hB
  have HG := hide hg
  have HNE := hide hne
  have HPS := hide hps
  clear hN8 hn hpl ho hg hne hps hB
  go_enter Try.func25, Try.ntmps25
  go_wp2_with (at_builtin; refine wpList_app _ rfl (.tmp 16) (.tmp 17) _ rfl base 5 i0 (.int .u8 0) 1 Try.underlying23 hi hz0 hz1 hz2 rfl _ _ _ rfl hO.out _ _ _ _ rfl hR.out (one_int _ _) hnb (by omega) ?_ ?_)
  · simp
    have := HB.out
    omega
  · intro A1 c1 w1 hown1 hg1 hl1
    rw [HG.out] at hg1 hl1
    have e0 : bv bs ++ [Value.int .u8 0] = bv (bs ++ [0]) := by rw [bv_append]; rfl
    rw [e0] at hown1
    obtain ⟨H1, H2, H3, c1', ⟨u0, c0'⟩, d0, d1⟩ := hH.out.app (w0 := w.alloc (.cells #[.int .u8 0] 5)) ((Upd.refl p none w).alloc _) hown1 hg1 (Below.heap_alloc _ _ _ HPS.out) (by simpa using hl1)
    have K1 := hide H1
    have K2 := hide H2
    have K3 := hide H3
    clear H1 H2 H3 hown1 hg1 hl1 e0
    go_wp2
    refine bodyPost_end (results_none rfl _ _ _) rfl ?_
    refine ⟨rfl, _, ?_, K2.out.cellp _ _, K3.out⟩
    have := K1.out.count (N + 1)
    rw [show ((N + 1 : Nat) : Int) = (N : Int) + 1 by omega] at this
    rw [← hpush.out]
    exact this

set_option maxRecDepth 100000 in
set_option maxHeartbeats 1600000 in
theorem bit_b3 (v : Int) (base p N : Nat) (g : Option Nat) (bs : List UInt8) (w : World) (h : Half w base p g N bs) (hpl : bs.length = (N + 7) / 8) (hl : N ≤ 1099511627776) (hB : base ≤ w.heap.size) (hv : (v != 0) = true) (hN8 : N % 8 = 0) :
    Calls Try.prog 25 #[.pointer (some ⟨p, 0, none⟩), .int .i64 v] w (HalfPost w base p g (N + 1) (Pl.push bs N true)) := by
  obtain ⟨i0, hi, hz0, hz1, hz2⟩ := info_parts Try.info_byte
  have hH := hide h
  obtain ⟨A, n, c, h0, h1, f0, f1, ho, hg, hne⟩ := h
  have hn := RdB.length (Rd.of_own ho)
  obtain ⟨k, hk⟩ : ∃ k, N / 8 = k := ⟨_, rfl⟩
  obtain rfl : n = k := by omega
  have hj : (((N : Int) % 8) == 0) = true := by simp; omega
  have hj' : (N : Int) % 8 = 0 := by omega
  have hk' : (N : Int) / 8 = (n : Int) := by omega
  have hN0 : 0 ≤ (N : Int) := by omega
  have hpush := hide (push_true0 bs N n hk hN8 hn.symm)
  have hor : bits BinOp.or IntKind.u8 0 128 = ((Pl.setB 0 0 true).toNat : Int) := by decide +kernel
  have hps := lt_cell h0
  simp only at hps
  have hO := hide (ho.alloc (.cells #[.int .u8 0] 5))
  have hR := hide (Rd.one w (.int .u8 0) 5)
  have hnb : n + 1 ≤ 1099511627776 := by omega
  have HB := hide hB
  have HG := hide hg
  have HNE := hide hne
  have HPS := hide hps
  have HN := hide hn
  clear hN8 hn hpl ho hg hne hps hB hk
  go_enter Try.func25, Try.ntmps25
  go_wp2_with (at_builtin; refine wpList_app _ rfl (.tmp 16) (.tmp 17) _ rfl base 5 i0 (.int .u8 0) 1 Try.underlying23 hi hz0 hz1 hz2 rfl _ _ _ rfl hO.out _ _ _ _ rfl hR.out (one_int _ _) hnb (by omega) ?_ ?_)
  · simp
    have := HB.out
    omega
  · intro A1 c1 w1 hown1 hg1 hl1
    rw [HG.out] at hg1 hl1
    have e0 : bv bs ++ [Value.int .u8 0] = bv (bs ++ [0]) := by rw [bv_append]; rfl
    rw [e0] at hown1
    obtain ⟨H1, H2, H3, c1', ⟨u0, c0'⟩, d0, d1⟩ := hH.out.app (w0 := w.alloc (.cells #[.int .u8 0] 5)) ((Upd.refl p none w).alloc _) hown1 hg1 (Below.heap_alloc _ _ _ HPS.out) (by simpa using hl1)
    obtain ⟨gA, n2, c2, hg2, hn2, h02, h12, f12, hpg, hnm, hcell, hfr⟩ := half_block H1 (by simp)
    have hx := hcell n (by have := HN.out; simp; omega)
    have hx0 : (bs ++ [0])[n]'(by have := HN.out; simp; omega) = 0 := by
      rw [List.getElem_append_right (by have := HN.out; omega)]
      simp
    rw [hx0] at hx
    have hf := hfr n
    have hA1 : A1 = some ⟨gA, 0, none⟩ ∧ c1 = c2 := by
      have := (World.cell?_setCell_same w1 ⟨p, 0, none⟩ (.slice A1 (n + 1) c1) c0').symm.trans h02
      cases this
      exact ⟨rfl, rfl⟩
    obtain ⟨rfl, rfl⟩ := hA1
    obtain rfl : n2 = n + 1 := by
      have := HN.out
      simp at hn2
      omega
    cases hg2
    obtain ⟨W, hW, K1, K2, K3, h02, h12, f12, hx, hf⟩ : ∃ W, W = w1.setCell ⟨p, 0, none⟩ (.slice (some ⟨gA, 0, none⟩) (n + 1) c1) ∧ Hid (Half W base p (some gA) N (bs ++ [0])) ∧ Hid (Upd p g w W) ∧ Hid (Mv w g (some gA)) ∧
        W.cell? ⟨p, 0, none⟩ = some (.slice (some ⟨gA, 0, none⟩) (n + 1) c1) ∧ W.cell? ⟨p, 1, none⟩ = some (.int .i64 (N : Int)) ∧ W.frozen? ⟨p, 1, none⟩ = false ∧ W.cell? ⟨gA, n, none⟩ = some (.int .u8 0) ∧ W.frozen? ⟨gA, n, none⟩ = false := ⟨_, rfl, H1, H2, H3, h02, h12, f12, hx, hf⟩
    have hp2 : gA ≠ p := fun e => hpg e.symm
    clear H1 H2 H3 hown1 hg1 hl1 e0 hcell hfr hn2 hx0
    go_wp2_with (fail)
    rw [← hW]
    clear hW
    have hn1 : n < n + 1 := by omega
    have hn2 : (n : Int) < ((n + 1 : Nat) : Int) := by omega
    have hn3 : (0 : Int) ≤ (n : Int) := by omega
    go_region
    all_goals
      go_wp2
      refine bodyPost_end (results_none rfl _ _ _) rfl ?_
      refine ⟨rfl, some gA, ?_, K2.out.trans K3.out (((Upd.refl _ _ _).cellg _ _).cellp _ _).drew, K3.out⟩
      have := (K1.out.set n (Pl.setB 0 0 true)).count (N + 1)
      rw [hpush.out, show ((N + 1 : Nat) : Int) = (N : Int) + 1 by omega] at this
      exact this

theorem bit_any (v : Int) (base p : Nat) (g : Option Nat) (l : List Bool) (w : World) (h : Wr w base p g l) (hl : l.length ≤ 1099511627776) (hB : base ≤ w.heap.size) :
    Calls Try.prog 25 #[.pointer (some ⟨p, 0, none⟩), .int .i64 v] w (BitPost w base p g (l ++ [decide (v ≠ 0)])) := by
  have hH := Half.of_wr h
  have hpl := Pl.pack_length l
  have fin : ∀ (b : Bool) (e : Ending) (w' : World), HalfPost w base p g (l.length + 1) (Pl.push (Pl.pack l) l.length b) e w' → BitPost w base p g (l ++ [b]) e w' := fun b e w' ⟨he, g', h1, h2, h3⟩ => ⟨he, g', h1.wr (by simp) (Pl.pack_snoc l b).symm, h2, h3⟩
  by_cases hv : v = 0
  · rw [show decide (v ≠ 0) = false by simp [hv]]
    have hv2 : (v != 0) = false := by simp [hv]
    by_cases h8 : l.length % 8 = 0
    · exact (bit_b4 v base p _ g _ w hH hpl hl hB hv2 h8).mono (fin _)
    · exact (bit_b2 v base p _ g _ w hH hl hv2 h8).mono (fin _)
  · rw [show decide (v ≠ 0) = true by simp [hv]]
    have hv2 : (v != 0) = true := by simp [hv]
    by_cases h8 : l.length % 8 = 0
    · exact (bit_b3 v base p _ g _ w hH hpl hl hB hv2 h8).mono (fin _)
    · exact (bit_b1 v base p _ g _ w hH hpl hl hv2 h8).mono (fin _)
end Go.Proofs.Ytikfogepdmpfaaa
