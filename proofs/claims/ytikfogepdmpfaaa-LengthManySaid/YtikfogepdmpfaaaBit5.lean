import Derived.Test.YtikfogepdmpfaaaBit4
namespace Go.Proofs.Ytikfogepdmpfaaa
open Go.RowKit

theorem wlen_any (base p : Nat) (g : Option Nat) (l : List Bool) (w : World) (h : Wr w base p g l) :
    Calls Try.prog 28 #[.pointer (some ⟨p, 0, none⟩)] w fun e w' => e = .returned (.int .i64 (l.length : Int)) ∧ w = w' := by
  obtain ⟨A, n, c, h0, h1, f0, f1, _⟩ := h
  go_enter Try.func28, Try.ntmps28
  go_wp2
  go_ret
  exact ⟨rfl, rfl⟩
theorem wlen_nil (w : World) :
    Calls Try.prog 28 #[.pointer none] w fun e w' => e = .returned (.int .i64 0) ∧ w = w' := by
  go_enter Try.func28, Try.ntmps28
  go_wp2
  go_ret
  exact ⟨rfl, rfl⟩

theorem wbytes_any (base p : Nat) (g : Option Nat) (l : List Bool) (w : World) (h : Wr w base p g l) (hl : l.length ≤ 1099511627776) :
    Calls Try.prog 27 #[.pointer (some ⟨p, 0, none⟩)] w fun e w' => ∃ A n c, e = .returned (.slice A n c) ∧ Fresh w w' 5 A n c (bv (Pl.pack l)) := by
  obtain ⟨i0, hi, hz0, hz1, hz2⟩ := info_parts Try.info_byte
  obtain ⟨A, n, c, h0, h1, f0, f1, ho, _⟩ := h
  have hn := RdB.length (Rd.of_own ho)
  have hnb : 0 + n ≤ 1099511627776 := by
    rw [Pl.pack_length] at hn
    omega
  have hR := hide (Rd.of_own ho)
  clear ho hn
  go_enter Try.func27, Try.ntmps27
  go_wp2_with (at_builtin; refine wpList_app _ rfl (.const (.slice none 0 0)) (.tmp 8) _ rfl w.heap.size 5 i0 (.int .u8 0) 1 Try.underlying23 hi hz0 hz1 hz2 rfl _ _ _ rfl (World.ownsRow_nil _ _ _ _) _ _ _ _ rfl hR.out (bv_one _) hnb (by omega) ?_ ?_)
  · exact Nat.le_refl _
  · intro A1 c1 w1 hown hg hl
    go_wp2
    go_ret
    exact ⟨A1, _, c1, rfl, hown, (Below.refl _ _).grown hg (Nat.le_refl _) (fun k hk => by simp [Value.ownBlock] at hk)⟩
theorem wbytes_nil (w : World) :
    Calls Try.prog 27 #[.pointer none] w fun e w' => e = .returned (.slice none 0 0) ∧ w = w' := by
  go_enter Try.func27, Try.ntmps27
  go_wp2
  go_ret
  exact ⟨rfl, rfl⟩

theorem bit_nil (v : Int) (w : World) :
    Calls Try.prog 25 #[.pointer none, .int .i64 v] w fun e w' => e = .returned (.tuple #[]) ∧ w = w' := by
  go_enter Try.func25, Try.ntmps25
  go_wp2
  refine bodyPost_ret (results_none rfl _ _ _) rfl ?_
  exact ⟨rfl, rfl⟩

def RfPost (w : World) (base p : Nat) (g : Option Nat) (l : List Bool) (e : Ending) (w' : World) : Prop :=
  e = .returned (.tuple #[]) ∧ ∃ g', Wf w' base p g' l ∧ Upd p g w w' ∧ Mv w g g'

/-- Behind an append to the reference's list, and the store of the new slice. -/
theorem Wf.app {w w0 w1 : World} {base p : Nat} {g : Option Nat} {l l2 : List Bool} (h : Wf w base p g l) (hw : Upd p none w w0) {A' : Option Addr} {m c' : Nat} (ho : w1.ownsRow base 5 1 (.slice A' m c') m (bv (b01 l2))) (hg : w0.grownBy w1 g) (hp0 : w0.heap[p]? = w.heap[p]?)
    (hl : (Value.slice A' m c').ownBlock = g ∨ (Value.slice A' m c').ownBlock = some w0.heap.size) :
    Wf (w1.setCell ⟨p, 0, none⟩ (.slice A' m c')) base p (Value.slice A' m c').ownBlock l2 ∧ Upd p g w (w1.setCell ⟨p, 0, none⟩ (.slice A' m c')) ∧ Mv w g (Value.slice A' m c').ownBlock ∧
      (∃ u, w1.cell? ⟨p, 0, none⟩ = some u) ∧ w1.frozen? ⟨p, 0, none⟩ = false := by
  obtain ⟨A, n, c, h0, f0, _, hgg, hne⟩ := h
  have hps : p < w.heap.size := lt_cell h0
  have hsz := hw.size
  have hp1 : w1.heap[p]? = w.heap[p]? := (hg.block p (by omega) (fun e => hne e.symm)).trans hp0
  have hne2 : (Value.slice A' m c').ownBlock ≠ some p := by
    rcases hl with e | e
    · rw [e]; exact hne
    · rw [e]
      intro e2
      cases e2
      omega
  have c0 := (World.cell?_of_block (a := ⟨p, 0, none⟩) hp1).trans h0
  have d0 := (World.frozen?_of_block (a := ⟨p, 0, none⟩) hp1).trans f0
  refine ⟨⟨A', m, c', World.cell?_setCell_same _ _ _ c0, ?_, ownsRow_setCell_other ho hne2 _, rfl, hne2⟩, ?_, ?_, ⟨_, c0⟩, d0⟩
  · rw [World.frozen?_setCell]; exact d0
  · have hu : Upd p g w w1 := ⟨hg.os.trans hw.os, hg.tape.trans hw.tape, hg.output.trans hw.output, Nat.le_trans hw.size hg.size, fun k hk h1 h2 => (hg.block k (by omega) h2).trans (hw.block k hk h1 (by simp))⟩
    exact hu.setCell rfl _
  · rcases hl with e | e
    · exact .inl e
    · exact .inr ⟨_, e, hsz⟩

theorem b01_snoc (l : List Bool) (b : Bool) : bv (b01 l) ++ [Value.int .u8 (if b then 1 else 0)] = bv (b01 (l ++ [b])) := by
  rw [b01_append, bv_append]
  cases b <;> rfl

set_option maxHeartbeats 800000 in
theorem refBit_any (v : Int) (base p : Nat) (g : Option Nat) (l : List Bool) (w : World) (h : Wf w base p g l) (hl : l.length ≤ 1099511627000) (hB : base ≤ w.heap.size) :
    Calls Try.prog 26 #[.pointer (some ⟨p, 0, none⟩), .int .i64 v] w (RfPost w base p g (l ++ [decide (v ≠ 0)])) := by
  obtain ⟨i0, hi, hz0, hz1, hz2⟩ := info_parts Try.info_byte
  have hH := hide h
  obtain ⟨A, n, c, h0, f0, ho, hg, hne⟩ := h
  have hn := RdB.length (Rd.of_own ho)
  rw [b01_length] at hn
  have hps := lt_cell h0
  simp only at hps
  have hnb : n + 1 ≤ 1099511627776 := by omega
  have HO := hide ho
  have HB := hide hB
  have HG := hide hg
  have HPS := hide hps
  clear hn ho hg hne hps hB
  by_cases hv : v = 0
  · rw [show decide (v ≠ 0) = false by simp [hv]]
    have hv2 : (v != 0) = false := by simp [hv]
    clear hv
    have e0 := hide (show bv (b01 l) ++ [Value.int .u8 0] = bv (b01 (l ++ [false])) from b01_snoc l false)
    go_enter Try.func26, Try.ntmps26
    go_wp2_with (at_builtin; refine wpList_app _ rfl (.tmp 19) (.tmp 20) _ rfl base 5 i0 (.int .u8 0) 1 Try.underlying23 hi hz0 hz1 hz2 rfl _ _ _ rfl (HO.out.alloc (.cells #[.int .u8 0] 5)) _ _ _ _ rfl (Rd.one w (.int .u8 0) 5) (one_int _ _) hnb (by omega) ?_ ?_)
    · have := HB.out
      first | omega | (simp; omega)
    · intro A1 c1 w1 hown1 hg1 hl1
      rw [HG.out] at hg1 hl1
      rw [e0.out] at hown1
      obtain ⟨H1, H2, H3, ⟨u0, c0'⟩, d0⟩ := hH.out.app (w0 := w.alloc (.cells #[.int .u8 0] 5)) ((Upd.refl p none w).alloc _) hown1 hg1 (Below.heap_alloc _ _ _ HPS.out) (by simpa using hl1)
      have K1 := hide H1
      have K2 := hide H2
      have K3 := hide H3
      clear H1 H2 H3 hown1 hg1 hl1
      go_wp2
      refine bodyPost_end (results_none rfl _ _ _) rfl ?_
      exact ⟨rfl, _, K1.out, K2.out, K3.out⟩
  · rw [show decide (v ≠ 0) = true by simp [hv]]
    have hv2 : (v != 0) = true := by simp [hv]
    clear hv
    have e0 := hide (show bv (b01 l) ++ [Value.int .u8 1] = bv (b01 (l ++ [true])) from b01_snoc l true)
    go_enter Try.func26, Try.ntmps26
    go_wp2_with (at_builtin; refine wpList_app _ rfl (.tmp 10) (.tmp 11) _ rfl base 5 i0 (.int .u8 0) 1 Try.underlying23 hi hz0 hz1 hz2 rfl _ _ _ rfl (HO.out.alloc (.cells #[.int .u8 1] 5)) _ _ _ _ rfl (Rd.one w (.int .u8 1) 5) (one_int _ _) hnb (by omega) ?_ ?_)
    · have := HB.out
      first | omega | (simp; omega)
    · intro A1 c1 w1 hown1 hg1 hl1
      rw [HG.out] at hg1 hl1
      rw [e0.out] at hown1
      obtain ⟨H1, H2, H3, ⟨u0, c0'⟩, d0⟩ := hH.out.app (w0 := w.alloc (.cells #[.int .u8 1] 5)) ((Upd.refl p none w).alloc _) hown1 hg1 (Below.heap_alloc _ _ _ HPS.out) (by simpa using hl1)
      have K1 := hide H1
      have K2 := hide H2
      have K3 := hide H3
      clear H1 H2 H3 hown1 hg1 hl1
      go_wp2
      refine bodyPost_end (results_none rfl _ _ _) rfl ?_
      exact ⟨rfl, _, K1.out, K2.out, K3.out⟩
end Go.Proofs.Ytikfogepdmpfaaa
