import Derived.Test.YtikfogepdmpfaaaBit6
namespace Go.Proofs.Ytikfogepdmpfaaa
open Go.RowKit

theorem push_eq (bs : List UInt8) (n k j : Nat) (b : Bool) (hk : n / 8 = k) (hj : n % 8 = j) (bs' : List UInt8) (hb : bs' = if j = 0 then bs ++ [0] else bs) (hkl : k < bs'.length) : bs'.set k (Pl.setB bs'[k] j b) = Pl.push bs n b := by
  unfold Pl.push
  simp only [hk, hj]
  rw [← hb, List.getD_eq_getElem?_getD, List.getElem?_eq_getElem hkl]
  rfl

theorem or_zero_fin : ∀ (c : Fin 256), bits BinOp.or IntKind.u8 (c.val : Int) 0 = (c.val : Int) := by decide +kernel
theorem or_zero_u8 (x : UInt8) : bits BinOp.or IntKind.u8 (x.toNat : Int) 0 = (x.toNat : Int) := or_zero_fin ⟨x.toNat, x.toNat_lt⟩
theorem or_mask2_fin : ∀ (c : Fin 256) (k : Fin 8), bits BinOp.or IntKind.u8 (c.val : Int) ((2 : Int) ^ (7 - k.val) % 256) = ((Pl.setB (UInt8.ofNat c.val) k.val true).toNat : Int) := by decide +kernel
theorem or_mask2 (c : UInt8) (k : Nat) (h : k < 8) : bits BinOp.or IntKind.u8 (c.toNat : Int) ((2 : Int) ^ (7 - k) % 256) = ((Pl.setB c k true).toNat : Int) := by
  have := or_mask2_fin ⟨c.toNat, c.toNat_lt⟩ ⟨k, h⟩
  simp only [Pl.of_toNat] at this
  exact this
theorem bv_set (bs : List UInt8) (k : Nat) (x : UInt8) : (bv bs).set k (.int .u8 (x.toNat : Int)) = bv (bs.set k x) := by
  unfold bv
  rw [List.map_set]

def RByRel (l : List Bool) (w0 : World) (oo ii : Value) (wr : World) : Prop :=
  ∃ (i : Nat) (A : Option Addr) (m c : Nat), i ≤ l.length ∧ ii = .int .i64 (i : Int) ∧ oo = .slice A m c ∧ Hid (wr.ownsRow w0.heap.size 5 1 (.slice A m c) m (bv (Pl.pack (l.take i)))) ∧ Hid (Below w0.heap.size w0 wr)

set_option maxRecDepth 100000 in
set_option maxHeartbeats 1600000 in
theorem refBytes_any (base p : Nat) (g : Option Nat) (l : List Bool) (w : World) (h : Wf w base p g l) (hl : l.length ≤ 1099511627000) :
    Calls Try.prog 30 #[.pointer (some ⟨p, 0, none⟩)] w fun e w' => ∃ A n c, e = .returned (.slice A n c) ∧ Fresh w w' 5 A n c (bv (Pl.pack l)) := by
  obtain ⟨i0, hi, hz0, hz1, hz2⟩ := info_parts Try.info_byte
  have H := hide h
  obtain ⟨LA, ln, lc, h0, f0, lo, hg, hne⟩ := h
  have hln := RdB.length (Rd.of_own lo)
  have hlm := (Rd.of_own lo).lenmax
  rw [b01_length] at hln
  have hps := lt_cell h0
  simp only at hps
  have LR := hide (Rd.of_own lo)
  have HL := hide hl
  have HLN := hide hln
  clear lo hg hne hl hln
  go_enter Try.func30, Try.ntmps30
  go_wp2
  go_loopw [3, 4] (RByRel l w) (fun _ i _ => ln - (intOf i).toNat)
  case atStart => exact ⟨0, none, 0, 0, Nat.zero_le _, rfl, rfl, hide (by simpa [Pl.pack_nil, bv] using World.ownsRow_nil _ _ _ _), Below.refl _ _⟩
  case round =>
    obtain ⟨i, A, m, c, hi2, rfl, rfl, ho, hb⟩ := hrel
    have hc0 := (hb.out.cell (p := ⟨p, 0, none⟩) hps).trans h0
    by_cases hlt : i < ln
    · have hil : i < l.length := by have := HLN.out; omega
      obtain ⟨lb, lo, rfl, hlb, hlc⟩ := RdB.at_ (LR.out.below hb.out (Nat.le_refl _)) (k := i) (by rw [b01_length]; exact hil)
      have hi0 : (0 : Int) ≤ (i : Int) := by omega
      have hi1 : (i : Int) < (ln : Int) := by omega
      have hpl := Pl.pack_length (l.take i)
      rw [List.length_take, Nat.min_eq_left (by omega)] at hpl
      have hn := RdB.length (Rd.of_own ho.out)
      have hxl : (b01 l)[i]'(by rw [b01_length]; exact hil) = if l[i] then 1 else 0 := by simp [b01]
      rw [hxl] at hlc
      clear hxl
      have hsn := hide (show Pl.pack (l.take (i + 1)) = Pl.push (Pl.pack (l.take i)) i l[i] by
        rw [List.take_succ_eq_append_getElem hil, Pl.pack_snoc, List.length_take, Nat.min_eq_left (by omega)])
      generalize Pl.pack (l.take i) = bs at *
      obtain ⟨k, hk⟩ : ∃ k, i / 8 = k := ⟨_, rfl⟩
      obtain ⟨j, hj⟩ : ∃ j, i % 8 = j := ⟨_, rfl⟩
      have hk' : (i : Int) / 8 = (k : Int) := by omega
      have hj' : (i : Int) % 8 = (j : Int) := by omega
      have hk0 : (0 : Int) ≤ (k : Int) := by omega
      have hj0 : (0 : Int) ≤ (j : Int) := by omega
      have hj8 : (j : Int) < 8 := by omega
      by_cases hz : j = 0
      · have hjb : ((j : Int) == 0) = true := by simp; omega
        have hkm : k = m := by omega
        have hmb : m + 1 ≤ 1099511627776 := by have := HLN.out; have := HL.out; omega
        obtain ⟨hpush, hx0⟩ : Hid ((bs ++ [0]).set k (Pl.setB 0 j l[i]) = Pl.push bs i l[i]) ∧ (bv (bs ++ [0]))[k]? = some (.int .u8 0) := by
          have hx0 : (bs ++ [0])[k]'(by simp; omega) = 0 := by
            rw [List.getElem_append_right (by omega)]
            simp
          have h1 := push_eq bs i k j l[i] hk hj (bs ++ [0]) (by rw [if_pos hz]) (by simp; omega)
          rw [hx0] at h1
          refine ⟨h1, ?_⟩
          rw [bv_at (bs ++ [0]) k (by simp; omega), hx0]
          rfl
        have hgA0 := ho.out.lt
        have HO := hide (ho.out.alloc (.cells #[.int .u8 0] 5))
        have HSZ := hide hb.out.size
        have hsub : IntKind.i64.wrap (7 - (j : Int)) = 7 - (j : Int) := IntWalk.i64_in _ ⟨by omega, by omega⟩
        have HPL := hide hpl
        have HN := hide hn
        have HG0 := hide hgA0
        have HX0 := hide hx0
        have LRW := hide (LR.out.below hb.out (Nat.le_refl _))
        clear hpl hn hgA0 hx0 hj hk
        go_wp2_with (at_builtin; refine wpList_app _ rfl (.tmp 17) (.tmp 18) _ rfl w.heap.size 5 i0 (.int .u8 0) 1 Try.underlying23 hi hz0 hz1 hz2 rfl _ _ _ rfl HO.out _ _ _ _ rfl (Rd.one wr _ 5) (one_int _ _) hmb (by omega) ?_ ?_)
        · have := HSZ.out
          first | omega | (simp; omega)
        · intro A1 c1 w1 hown1 hg1 hl1
          have hb1 : Below w.heap.size w w1 := (hb.out.alloc HSZ.out _).grown hg1 (by have := HSZ.out; simp; omega) (fun q hq => (HG0.out q hq).1)
          have e0 : bv bs ++ [Value.int .u8 0] = bv (bs ++ [0]) := by rw [bv_append]; rfl
          rw [e0] at hown1
          have hc1 := (hb1.cell (p := ⟨p, 0, none⟩) hps).trans h0
          have hlc1 : w1.cell? ⟨lb, lo + i, none⟩ = wr.cell? ⟨lb, lo + i, none⟩ := by
            obtain ⟨b9, o9, u9, hA9, hb9, hu9, hc9⟩ := LR.out.at_ (k := i) hlt
            cases hA9
            rw [hb1.cell (p := ⟨lb, lo + i, none⟩) hb9, hb.out.cell (p := ⟨lb, lo + i, none⟩) hb9]
          rw [hlc] at hlc1
          clear hlc hc0
          obtain ⟨gA, rfl⟩ : ∃ gA, A1 = some ⟨gA, 0, none⟩ := by
            rcases hown1.2 with ⟨_, h0⟩ | ⟨g', cap, cur, hv, _⟩
            · omega
            · cases hv
              exact ⟨g', rfl⟩
          have hgA := hown1.lt gA rfl
          have hcell := hown1.cellAt k (by omega)
          rw [HX0.out] at hcell
          have hfr := hown1.frozenAt k
          have hO1 := hide hown1
          have hB1 := hide hb1
          have hkm2 : (k : Int) < ((m + 1 : Nat) : Int) := by omega
          have hkm1 : k < m + 1 := by omega
          clear hown1 hg1 hl1 hb1 e0 hkm
          generalize l[i] = bb at *
          cases bb
          · simp only [Bool.false_eq_true, if_false] at hlc1
            have hlc0 : ((0 : UInt8).toNat : Int) = 0 := by decide
            rw [hlc0] at hlc1
            clear hlc0
            have hor := or_zero_u8 0
            go_wp2_with (fail)
            go_region
            all_goals
              go_wp2
              go_roundw
              case rel =>
                refine ⟨i + 1, _, m + 1, c1, by omega, by go_num, rfl, hide ?_, hide (hB1.out.setCell hgA.1 _).drew⟩
                have := (hO1.out.stored k (.int .u8 ((Pl.setB 0 j false).toNat : Int))).1
                rw [bv_set, hpush.out, ← hsn.out] at this
                first | exact this | (rw [← hor] at this; exact this)
              case measure => simp [intOf]; omega
          · simp only [if_true] at hlc1
            have hlc0 : ((1 : UInt8).toNat : Int) = 1 := by decide
            rw [hlc0] at hlc1
            clear hlc0
            have hor : bits BinOp.or IntKind.u8 0 128 = ((Pl.setB 0 j true).toNat : Int) := by rw [hz]; decide +kernel
            go_wp2_with (fail)
            go_region
            all_goals
              go_wp2
              go_roundw
              case rel =>
                refine ⟨i + 1, _, m + 1, c1, by omega, by go_num, rfl, hide ?_, hide (hB1.out.setCell hgA.1 _).drew⟩
                have := (hO1.out.stored k (.int .u8 ((Pl.setB 0 j true).toNat : Int))).1
                rw [bv_set, hpush.out, ← hsn.out] at this
                first | exact this | (rw [← hor] at this; exact this)
              case measure => simp [intOf]; omega
      · have hjb : ((j : Int) == 0) = false := by simp; omega
        have hkm : k < m := by omega
        have hkm2 : (k : Int) < (m : Int) := by omega
        obtain ⟨gA, rfl⟩ : ∃ gA, A = some ⟨gA, 0, none⟩ := by
          rcases ho.out.2 with ⟨_, h0⟩ | ⟨g', cap, cur, hv, _⟩
          · omega
          · cases hv
            exact ⟨g', rfl⟩
        have hgA := ho.out.lt gA rfl
        have hcell := ho.out.cellAt k (by omega)
        rw [bv_at bs k (by omega)] at hcell
        have hfr := ho.out.frozenAt k
        have hpush := hide (push_eq bs i k j l[i] hk hj bs (by rw [if_neg hz]) (by omega))
        generalize bs[k] = x at *
        generalize l[i] = bb at *
        cases bb
        · simp only [Bool.false_eq_true, if_false] at hlc
          have hlc0 : ((0 : UInt8).toNat : Int) = 0 := by decide
          rw [hlc0] at hlc
          clear hlc0
          have hsub : IntKind.i64.wrap (7 - (j : Int)) = 7 - (j : Int) := IntWalk.i64_in _ ⟨by omega, by omega⟩
          have hor : bits BinOp.or IntKind.u8 (x.toNat : Int) 0 = ((Pl.setB x j false).toNat : Int) := or_zero_u8 x
          go_wp2_with (fail)
          go_region
          all_goals
            go_wp2
            go_roundw
            case rel =>
              refine ⟨i + 1, _, m, c, by omega, by go_num, rfl, hide ?_, hide (hb.out.setCell hgA.1 _).drew⟩
              have := (ho.out.stored k (.int .u8 ((Pl.setB x j false).toNat : Int))).1
              rw [bv_set, hpush.out, ← hsn.out] at this
              exact this
            case measure => simp [intOf]; omega
        · simp only [if_true] at hlc
          have hlc0 : ((1 : UInt8).toNat : Int) = 1 := by decide
          rw [hlc0] at hlc
          clear hlc0
          have hsub : IntKind.i64.wrap (7 - (j : Int)) = 7 - (j : Int) := IntWalk.i64_in _ ⟨by omega, by omega⟩
          have hor := or_mask2 x j (by omega)
          go_wp2_with (fail)
          go_region
          all_goals
            go_wp2
            go_roundw
            case rel =>
              refine ⟨i + 1, _, m, c, by omega, by go_num, rfl, hide ?_, hide (hb.out.setCell hgA.1 _).drew⟩
              have := (ho.out.stored k (.int .u8 ((Pl.setB x j true).toNat : Int))).1
              rw [bv_set, hpush.out, ← hsn.out] at this
              exact this
            case measure => simp [intOf]; omega
    · go_wp2
      go_ret
      have e := ho.out
      rw [List.take_of_length_le (by have := HLN.out; omega)] at e
      exact ⟨A, m, c, rfl, e, hb.out⟩
end Go.Proofs.Ytikfogepdmpfaaa
