import Derived.Test.YtikfogepdmpfaaaRed6
namespace Go.Proofs.Ytikfogepdmpfaaa
open Go.RowKit
variable {D : Nat → Prop}

theorem num_true (bs : List UInt8) (a n k : Nat) (hk : k < n) (hb : Pl.bitAt bs (a + k) = true) : Pl.num (Pl.bitsAt bs a n) ≠ 0 := by
  intro h
  have := (Pl.num_zero _).1 h (Pl.bitAt bs (a + k)) (by
    unfold Pl.bitsAt
    exact List.mem_map.2 ⟨k, List.mem_range.2 hk, rfl⟩)
  rw [hb] at this
  cases this

theorem Pp.copy {w : World} {p : Nat} {bs : List UInt8} {a : Nat} (h : Pp w p D bs a) {A : Option Addr} {n c : Nat} (h0 : w.cell? ⟨p, 0, none⟩ = some (.slice A n c)) (t : TypeId) : Pp (w.alloc (.cells #[.slice A n c, .int .i64 (a : Int)] t)) w.heap.size D bs a := by
  have hp := h.lt
  obtain ⟨A', n', c', h0', h1, f0, f1, hr, ho, hb⟩ := h
  rw [h0] at h0'
  cases h0'
  exact ⟨A, n, c, cell_new rfl rfl, cell_new rfl rfl, by simp, by simp, hr.alloc _, ⟨fun b hd => Nat.lt_trans (ho.1 b hd) hp, ho.2⟩, hb⟩

set_option maxHeartbeats 800000 in
theorem rEnd_any (p : Nat) (bs : List UInt8) (a : Nat) (e : Int) (w : World) (h : Rr w p D bs a e) :
    Calls Try.prog 51 #[.pointer (some ⟨p, 0, none⟩)] w fun en w' => en = .returned (.int .i64 (Pl.endE bs a e)) ∧ Below w.heap.size w w' := by
  have H := hide h
  have kE := hide (rErr_any p bs a e w h)
  have hinb := h.inb
  have hL0 : 0 ≤ Pl.left bs a := by unfold Pl.left; omega
  have hLL : Pl.left bs a = 8 * (bs.length : Int) - (a : Int) := rfl
  obtain ⟨⟨A, n, c, h0, h1, _⟩, _⟩ := h
  have hC := hide (H.out.1.copy h0 98)
  have kL := hide (pleft_any _ bs a _ hC.out)
  have kP := fun (w' : World) (h : Pp w' w.heap.size D bs a) h1 h2 => pbits_any w.heap.size bs a (Pl.left bs a).toNat w' h h1 h2
  rw [Int.toNat_of_nonneg hL0] at kP
  have kP := hide kP
  unfold Pl.endE
  by_cases he : e = 0
  · subst he
    simp only [show ¬ ((0 : Int) ≠ 0) by simp, if_false]
    by_cases h8 : 8 ≤ Pl.left bs a
    · simp only [if_pos h8]
      clear hLL hinb kP
      generalize Pl.left bs a = L at *
      go_enter Try.func51, Try.ntmps51
      go_wp2_with (fail)
      refine kE.out.mono ?_
      rintro e1 w1 ⟨rfl, rfl⟩
      go_wp2_with (fail)
      refine kL.out.mono ?_
      rintro e1 w1 ⟨rfl, q, rfl⟩
      go_wp2
      go_ret
      exact ⟨rfl, below_drewN q ((Below.refl _ _).alloc (Nat.le_refl _) _)⟩
    · simp only [if_neg h8]
      have hn1 : (Pl.left bs a).toNat ≤ 32 := by omega
      have hn2 : a + (Pl.left bs a).toNat ≤ 8 * bs.length := by omega
      have HN := hide (And.intro hn1 hn2)
      clear hLL hinb hn1 hn2
      generalize Pl.num (Pl.bitsAt bs a (Pl.left bs a).toNat) = V at *
      generalize Pl.left bs a = L at *
      by_cases hV : V = 0
      · subst hV
        simp only [show ¬ ((0 : Int) ≠ 0) by simp, if_false]
        go_enter Try.func51, Try.ntmps51
        go_wp2_with (fail)
        refine kE.out.mono ?_
        rintro e1 w1 ⟨rfl, rfl⟩
        go_wp2_with (fail)
        refine kL.out.mono ?_
        rintro e1 w1 ⟨rfl, q, rfl⟩
        go_wp2_with (fail)
        refine (kP.out _ (hC.out.drewN q) HN.out.1 HN.out.2).mono ?_
        rintro e1 w2 ⟨rfl, _, _, hu2⟩
        have hb := (below_drewN q ((Below.refl w.heap.size w).alloc (Nat.le_refl _) (.cells #[.slice A n c, .int .i64 (a : Int)] 98))).trans (hu2.below (B := w.heap.size) (Nat.le_refl _) (fun _ e => by cases e) (below_drewN q ((Below.refl w.heap.size w).alloc (Nat.le_refl _) (.cells #[.slice A n c, .int .i64 (a : Int)] 98))).size)
        clear hu2
        go_wp2
        go_ret
        exact ⟨rfl, hb⟩
      · simp only [if_pos hV]
        have hV2 : (V != 0) = true := by simp [hV]
        clear hV
        go_enter Try.func51, Try.ntmps51
        go_wp2_with (fail)
        refine kE.out.mono ?_
        rintro e1 w1 ⟨rfl, rfl⟩
        go_wp2_with (fail)
        refine kL.out.mono ?_
        rintro e1 w1 ⟨rfl, q, rfl⟩
        go_wp2_with (fail)
        refine (kP.out _ (hC.out.drewN q) HN.out.1 HN.out.2).mono ?_
        rintro e1 w2 ⟨rfl, _, _, hu2⟩
        have hb := (below_drewN q ((Below.refl w.heap.size w).alloc (Nat.le_refl _) (.cells #[.slice A n c, .int .i64 (a : Int)] 98))).trans (hu2.below (B := w.heap.size) (Nat.le_refl _) (fun _ e => by cases e) (below_drewN q ((Below.refl w.heap.size w).alloc (Nat.le_refl _) (.cells #[.slice A n c, .int .i64 (a : Int)] 98))).size)
        clear hu2
        go_wp2
        go_ret
        exact ⟨rfl, hb⟩
  · have he2 : (e != 0) = true := by simp [he]
    simp only [if_pos he]
    clear he kP kL hC
    go_enter Try.func51, Try.ntmps51
    go_wp2_with (fail)
    refine kE.out.mono ?_
    rintro e1 w1 ⟨rfl, rfl⟩
    go_wp2
    go_ret
    exact ⟨rfl, Below.refl _ _⟩
theorem rEnd_nil (w : World) :
    Calls Try.prog 51 #[.pointer none] w fun en w' => en = .returned (.int .i64 2) ∧ w = w' := by
  go_enter Try.func51, Try.ntmps51
  go_wp2_with (fail)
  refine (rErr_nil _).mono ?_
  rintro e1 w1 ⟨rfl, rfl⟩
  go_wp2
  go_ret
  exact ⟨rfl, rfl⟩

def REndRel (bs : List UInt8) (a : Nat) (i : Value) : Prop :=
  ∃ k : Nat, a + k ≤ 8 * bs.length ∧ i = .int .i64 ((a + k : Nat) : Int) ∧ Hid (Pl.num (Pl.bitsAt bs a k) = 0)

set_option maxRecDepth 100000 in
set_option maxHeartbeats 800000 in
theorem refREnd_any (p : Nat) (bs : List UInt8) (a : Nat) (e : Int) (w : World) (h : Rr w p D bs a e) :
    Calls Try.prog 57 #[.pointer (some ⟨p, 0, none⟩)] w fun en w' => en = .returned (.int .i64 (Pl.endE bs a e)) ∧ Below w.heap.size w w' := by
  have H := hide h
  have hinb := h.inb
  have hL0 : 0 ≤ Pl.left bs a := by unfold Pl.left; omega
  have hLL : Pl.left bs a = 8 * (bs.length : Int) - (a : Int) := rfl
  have kL := hide (rleft_any p bs a w h.1)
  have KA := hide (fun (i : Nat) (w : World) (hw : Pp w p D bs a) (hk : i < 8 * bs.length) => rat_any p bs a i w hw hk)
  obtain ⟨⟨A, n, c, h0, h1, _, _, hr, _⟩, h2, _⟩ := h
  have hn := RdB.length hr
  subst hn
  clear hr
  have hl : Hid (∀ q, (w.drewN q).cell? ⟨p, 0, none⟩ = some (.slice A bs.length c) ∧ (w.drewN q).cell? ⟨p, 1, none⟩ = some (.int .i64 (a : Int))) := fun q => ⟨h0, h1⟩
  unfold Pl.endE
  by_cases he : e = 0
  · subst he
    simp only [show ¬ ((0 : Int) ≠ 0) by simp, if_false]
    by_cases h8 : 8 ≤ Pl.left bs a
    · simp only [if_pos h8]
      clear hLL hinb
      generalize Pl.left bs a = L at *
      go_enter Try.func57, Try.ntmps57
      go_wp2_with (fail)
      refine kL.out.mono ?_
      rintro e1 w1 ⟨rfl, q, rfl⟩
      go_wp2
      go_ret
      exact ⟨rfl, below_drewN q (Below.refl _ _)⟩
    · simp only [if_neg h8]
      have hN : a + (Pl.left bs a).toNat = 8 * bs.length := by omega
      obtain ⟨R, hR, hT, hF⟩ : ∃ R : Int, (if Pl.num (Pl.bitsAt bs a (Pl.left bs a).toNat) ≠ 0 then 4 else 0) = R ∧ Hid (∀ k, a + k < 8 * bs.length → Pl.bitAt bs (a + k) = true → R = 4) ∧ Hid (∀ k, a + k = 8 * bs.length → Pl.num (Pl.bitsAt bs a k) = 0 → R = 0) :=
        ⟨_, rfl, fun k hk hb => by rw [if_pos (num_true bs a _ k (by omega) hb)], fun k hk hb => by
          rw [show (Pl.left bs a).toNat = k by omega, if_neg (by simp [hb])]⟩
      rw [hR]
      clear hR
      have hlen := hinb.2
      clear hLL hinb hN
      generalize Pl.left bs a = L at *
      go_enter Try.func57, Try.ntmps57
      go_wp2_with (fail)
      refine kL.out.mono ?_
      rintro e1 w1 ⟨rfl, q, rfl⟩
      obtain ⟨g0, g1⟩ := hl.out q
      go_wp2
      go_loop [3] (REndRel bs a) (fun i => 8 * bs.length - (intOf i).toNat)
      case atStart => exact ⟨0, by have := H.out.inb; omega, rfl, rfl⟩
      case round =>
        obtain ⟨k, hk, rfl, hz⟩ := hrel
        generalize hak : a + k = ak at *
        have HAK := hide hak
        clear hak
        by_cases hlt : ak < 8 * bs.length
        · have kB := hide (KA.out ak (w.drewN q) (H.out.1.drewN q) hlt)
          have hak1 : (ak : Int) < 8 * (bs.length : Int) := by omega
          have hak0 : (0 : Int) ≤ (ak : Int) := by omega
          have hsn := hide (Pl.bitsAt_succ bs a k)
          have hbb := hide (show Pl.bitAt bs (a + k) = Pl.bitAt bs ak by rw [HAK.out])
          generalize Pl.bitAt bs ak = bb at *
          cases bb
          · simp only [Bool.false_eq_true, if_false] at kB
            go_wp2_with (fail)
            refine kB.out.mono ?_
            rintro e2 w2 ⟨rfl, rfl⟩
            go_wp2
            go_round
            case rel =>
              refine ⟨k + 1, by have := HAK.out; omega, ?_, hide ?_⟩
              · have := HAK.out
                rw [show ((a + (k + 1) : Nat) : Int) = (ak : Int) + 1 by omega]
              · rw [hsn.out, Pl.num_snoc, hz.out, hbb.out]
                simp
            case measure => simp [intOf]; omega
          · simp only [if_true] at kB
            have hV := hide (hT.out k (by have := HAK.out; omega) hbb.out)
            go_wp2_with (fail)
            refine kB.out.mono ?_
            rintro e2 w2 ⟨rfl, rfl⟩
            go_wp2
            go_ret
            exact ⟨ret_int hV.out.symm, below_drewN q (Below.refl _ _)⟩
        · have hV := hide (hF.out k (by have := HAK.out; omega) hz.out)
          have hak1 : ¬ (ak : Int) < 8 * (bs.length : Int) := by omega
          have hak0 : (0 : Int) ≤ (ak : Int) := by omega
          go_wp2
          go_ret
          exact ⟨ret_int hV.out.symm, below_drewN q (Below.refl _ _)⟩
  · have he2 : (e != 0) = true := by simp [he]
    simp only [if_pos he]
    clear he
    go_enter Try.func57, Try.ntmps57
    go_wp2
    go_ret
    exact ⟨rfl, Below.refl _ _⟩

def NewPost (w : World) (bs : List UInt8) (en : Ending) (w' : World) : Prop :=
  ∃ p, en = .returned (.pointer (some ⟨p, 0, none⟩)) ∧ Rr w' p (fun b => w.heap.size ≤ b ∧ b < p) bs 0 0 ∧ Below w.heap.size w w' ∧ w.heap.size ≤ p
theorem new_any (A : Option Addr) (n c : Nat) (bs : List UInt8) (w : World) (h : Rd w A n c (bv bs)) (hn : n ≤ 1099511627776) :
    Calls Try.prog 31 #[.slice A n c] w (NewPost w bs) := by
  obtain ⟨i0, hi, hz0, hz1, hz2⟩ := info_parts Try.info_byte
  have hl := hide (RdB.length h)
  go_enter Try.func31, Try.ntmps31
  go_wp2_with (at_builtin; refine wpList_app _ rfl (.const (.slice none 0 0)) (.tmp 3) _ rfl w.heap.size 5 i0 (.int .u8 0) 1 Try.underlying23 hi hz0 hz1 hz2 rfl _ _ _ rfl (World.ownsRow_nil _ _ _ _) _ _ _ _ rfl h (bv_one bs) ?_ (by omega) ?_ ?_)
  · omega
  · exact Nat.le_refl _
  · intro A1 c1 w1 hown hg hl1
    have O1 := hide hown
    have hb1 := hide ((Below.refl w.heap.size w).grown hg (Nat.le_refl _) (fun k hk => by simp [Value.ownBlock] at hk))
    clear hown hg hl1 h
    go_wp2
    go_ret
    have hlt : ∀ b o s, A1 = some ⟨b, o, s⟩ → w.heap.size ≤ b ∧ b < w1.heap.size := fun b o s e => by
      subst e
      exact O1.out.lt b rfl
    exact ⟨w1.heap.size, rfl, ⟨⟨A1, _, c1, cell_new rfl rfl, cell_new rfl rfl, by simp, by simp, (Rd.of_own O1.out).alloc _, ⟨fun b hd => hd.2, fun b o s e _ => hlt b o s e⟩, by omega, by have := hl.out; omega⟩, cell_new rfl rfl, by simp⟩, hb1.out.alloc hb1.out.size _, hb1.out.size⟩
end Go.Proofs.Ytikfogepdmpfaaa
