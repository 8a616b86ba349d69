import Derived.Test.YthflgoigbgnkoaaLawCompare
import Derived.Test.YthflgoigbgnkoaaLawRead
import Derived.Test.YthflgoigbgnkoaaJoin
import Derived.Test.YthflgoigbgnkoaaSpoil
namespace Go.Proofs.Ythflgoigbgnkoaa
open Go.RowKit

theorem Rd.drop {w : World} {b o n c : Nat} {xs : List Value} (h : Rd w (some ⟨b, o, none⟩) n c xs) {k : Nat} (hk : k ≤ n) : Rd w (some ⟨b, o + k, none⟩) (n - k) (c - k) (xs.drop k) := by
  refine ⟨by have := h.1; simp; omega, by have := h.cap; omega, by have := h.2.2.1; omega, fun hn => ⟨b, o + k, rfl, fun i u hu => ?_⟩⟩
  obtain ⟨b', o', e, hc⟩ := h.2.2.2 (by omega)
  cases e
  rw [List.getElem?_drop] at hu
  have := hc (k + i) u hu
  rwa [← Nat.add_assoc] at this

/-- Values of slices read as ls. -/
def PEl (w : World) (vs : List Value) (ls : List (List UInt8)) : Prop :=
  vs.length = ls.length ∧ ∀ (i : Nat) (l : List UInt8), ls[i]? = some l → ∃ A' n' c', vs[i]? = some (.slice A' n' c') ∧ Rd w A' n' c' (bv l)
theorem PEl.below {w w' : World} {vs : List Value} {ls : List (List UInt8)} (h : PEl w vs ls) {B : Nat} (hb : Below B w w') (hB : w.heap.size ≤ B) : PEl w' vs ls := by
  refine ⟨h.1, fun i l hi => ?_⟩
  obtain ⟨A', n', c', hv, hr⟩ := h.2 i l hi
  exact ⟨A', n', c', hv, hr.below hb hB⟩
theorem PEl.snoc {w : World} {vs : List Value} {ls : List (List UInt8)} (h : PEl w vs ls) {A : Option Addr} {n c : Nat} {l : List UInt8} (hr : Rd w A n c (bv l)) : PEl w (vs ++ [.slice A n c]) (ls ++ [l]) := by
  refine ⟨by simp [h.1], fun i l' hi => ?_⟩
  by_cases hlt : i < ls.length
  · rw [List.getElem?_append_left hlt] at hi
    obtain ⟨A', n', c', hv, hr'⟩ := h.2 i l' hi
    exact ⟨A', n', c', by rw [List.getElem?_append_left (by rw [h.1]; exact hlt)]; exact hv, hr'⟩
  · have he : i = ls.length := by
      have := (List.getElem?_eq_some_iff.1 hi).1
      simp at this
      omega
    subst he
    simp at hi
    subst hi
    exact ⟨A, n, c, by rw [← h.1]; simp, hr⟩
theorem PEl.rdp {w : World} {A : Option Addr} {n c : Nat} {vs : List Value} {ls : List (List UInt8)} (h : PEl w vs ls) (hr : Rd w A n c vs) : RdP w A n c ls := ⟨vs, hr, h.1, h.2⟩
theorem PEl.nil (w : World) : PEl w [] [] := ⟨rfl, fun i l h => by simp at h⟩

theorem Try.info_slice8 : (Try.prog.info? 27).map (fun i => (i.zero, i.size, i.bytes)) = some (some (.slice none 0 0), 1, 24) := by kernel_rfl

theorem one_slice (A : Option Addr) (n c : Nat) : ∀ u ∈ [Value.slice A n c], u.oneCell' = true := by
  intro u hu
  simp at hu
  subst hu
  rfl

/-- A new block of three slices, the first and the last one empty. -/
theorem RdP.three (w : World) (A : Option Addr) (n c : Nat) (b : List UInt8) (t : TypeId) (h : Rd w A n c (bv b)) :
    RdP (w.alloc (.cells #[.slice none 0 0, .slice A n c, .slice none 0 0] t)) (some ⟨w.heap.size, 0, none⟩) 3 3 [[], b, []] := by
  refine ⟨[.slice none 0 0, .slice A n c, .slice none 0 0], ⟨rfl, by omega, by unfold maxLen; omega, fun _ => ⟨_, _, rfl, fun i x hx => ?_⟩⟩, rfl, fun i l hi => ?_⟩
  · match i, hx with
    | 0, hx => simp at hx; subst hx; simp
    | 1, hx => simp at hx; subst hx; simp
    | 2, hx => simp at hx; subst hx; simp
  · match i, hi with
    | 0, hi => simp at hi; subst hi; exact ⟨_, _, _, rfl, Rd.nil _ _ _ (by unfold maxLen; omega)⟩
    | 1, hi => simp at hi; subst hi; exact ⟨_, _, _, rfl, h.alloc _⟩
    | 2, hi => simp at hi; subst hi; exact ⟨_, _, _, rfl, Rd.nil _ _ _ (by unfold maxLen; omega)⟩

def JnRel (nc : Nat) (b : List UInt8) (w0 : World) (p r i : Value) (wr : World) : Prop :=
  ∃ (k m cr cp : Nat) (Ap Ar : Option Addr) (vs : List Value) (ls : List (List UInt8)) (rs : List UInt8), k ≤ nc ∧ i = .int .i64 (k : Int) ∧ p = .slice Ap k cp ∧ r = .slice Ar m cr ∧
    wr.ownsRow w0.heap.size 27 1 (.slice Ap k cp) k vs ∧ m ≤ 2000 ∧ m ≤ cr ∧ cr ≤ 9223372036854775807 ∧ ((Ar = none ∧ m = 0 ∧ cr = 0) ∨ ∃ g o, Ar = some ⟨g, o, none⟩) ∧ Hid (PEl w0 vs ls ∧ Rd w0 Ar m cr (bv rs)) ∧ Below w0.heap.size w0 wr ∧ Hid (ls.flatten ++ rs = b)

set_option maxHeartbeats 1600000 in
theorem octetsJoin_main (A1 : Option Addr) (n1 c1 : Nat) (b : List UInt8) (A2 : Option Addr) (n2 c2 : Nat) (cuts : List Int) (w : World) (h1 : Rd w A1 n1 c1 (bv b)) (h2 : Rd w A2 n2 c2 (iv cuts)) (g1 : n1 ≤ 2000) (g2 : n2 ≤ 20) :
    Calls Try.prog 6 #[.slice A1 n1 c1, .slice A2 n2 c2] w fun e w' => e = .returned (.bool true) ∧ Below w.heap.size w w' := by
  obtain ⟨i0, hi, hz0, hz1, hz2⟩ := info_parts Try.info_slice8
  have hl1 := hide (RdB.length h1)
  have hl2 := hide (RdI.length h2)
  have H1 := hide h1
  have H2 := hide h2
  clear h1 h2
  go_enter Try.func6, Try.ntmps6
  go_wp2_with (fail)
  refine (copyBytes_any _ _ _ b _ H1.out (by omega)).mono ?_
  rintro e w1 ⟨A3, c3, rfl, hf⟩
  have hb1 := hf.below
  have hA3 : (A3 = none ∧ n1 = 0 ∧ c3 = 0) ∨ ∃ g o, A3 = some ⟨g, o, none⟩ := by
    rcases hf.1.2 with ⟨hv, hn⟩ | ⟨g, cap, cur, hv, _⟩
    · cases hv
      exact .inl ⟨rfl, hn, rfl⟩
    · cases hv
      exact .inr ⟨g, 0, rfl⟩
  have hr3 := hf.rd
  have hc3 := hr3.cap
  have hx3 := hr3.max
  clear hf
  go_wp2
  go_loopw [5, 6, 7] (JnRel n2 b w1) (fun _ _ i _ => n2 - (intOf i).toNat)
  case atStart => exact ⟨0, n1, c3, 0, none, A3, [], [], b, Nat.zero_le _, rfl, rfl, rfl, World.ownsRow_nil _ _ _ _, g1, hc3, hx3, hA3, ⟨PEl.nil _, hr3⟩, Below.refl _ _, rfl⟩
  case round =>
    obtain ⟨k, m, cr, cp, Ap, Ar, vs, ls, rs, hk, rfl, rfl, rfl, hown, hm, hmc, hcm, hAr, hel, hb, hfl⟩ := hrel
    clear hr3 hA3 hc3 hx3
    have hbw := below_next hb1 hb
    by_cases hlt : k < n2
    · obtain ⟨bb, o, rfl, hbz, hcell⟩ := RdI.at_ (H2.out.below hbw (Nat.le_refl _)) (k := k) (by have := hl2.out; omega)
      obtain ⟨q, hq, hT⟩ := mod_len (cuts[k]'(by have := hl2.out; omega)) m
      rcases hAr with ⟨rfl, rfl, rfl⟩ | ⟨g, oo, rfl⟩
      · obtain rfl : q = 0 := by omega
        go_wp2_with (at_builtin; refine wpList_app _ rfl (.tmp 38) (.tmp 42) _ rfl w1.heap.size 27 i0 (.slice none 0 0) 24 Try.underlying36 hi hz0 hz1 hz2 rfl _ _ _ rfl (own_below hown ((Below.refl _ _).alloc (Nat.le_refl _) _)) _ _ _ _ rfl (Rd.one _ _ _) (one_slice _ _ _) ?_ (by omega) ?_ ?_)
        · omega
        · have := hb.size
          simp
          omega
        · intro A5 c5 w5 hown5 hg5 hl5
          have hbel := (hb.alloc hb.size _).grown hg5 (by have := hb.size; simp; omega) (fun j hj => (hown.lt j hj).1)
          have HO := hide hown5
          clear hown5 hg5 hl5
          go_wp2
          go_roundw
          case measure => simp [intOf]; omega
          case rel =>
            refine ⟨k + 1, 0, 0, c5, A5, none, _, ls ++ [[]], rs, by omega, by go_num, rfl, rfl, HO.out, by omega, by omega, by omega, .inl ⟨rfl, rfl, rfl⟩, ⟨hel.out.1.snoc (l := []) (Rd.nil _ _ _ (by unfold maxLen; omega)), hel.out.2⟩, hbel, ?_⟩
            show (ls ++ [[]]).flatten ++ rs = b
            rw [← hfl.out]
            simp
      · go_wp2_with (at_builtin; refine wpList_app _ rfl (.tmp 38) (.tmp 42) _ rfl w1.heap.size 27 i0 (.slice none 0 0) 24 Try.underlying36 hi hz0 hz1 hz2 rfl _ _ _ rfl (own_below hown ((Below.refl _ _).alloc (Nat.le_refl _) _)) _ _ _ _ rfl (Rd.one _ _ _) (one_slice _ _ _) ?_ (by omega) ?_ ?_)
        · omega
        · have := hb.size
          simp
          omega
        · intro A5 c5 w5 hown5 hg5 hl5
          have hbel := (hb.alloc hb.size _).grown hg5 (by have := hb.size; simp; omega) (fun j hj => (hown.lt j hj).1)
          have HO := hide hown5
          clear hown5 hg5 hl5
          go_wp2
          go_roundw
          case measure => simp [intOf]; omega
          case rel =>
            have hrm := RdB.length hel.out.2
            refine ⟨k + 1, m - q, cr - q, c5, A5, _, _, ls ++ [rs.take q], rs.drop q, by omega, by go_num, rfl, rfl, HO.out, by omega, by omega, by omega, .inr ?_, ⟨hel.out.1.snoc (bv_take rs q ▸ hel.out.2.take hq), ?_⟩, hbel, ?_⟩
            · split
              · exact ⟨_, _, rfl⟩
              · exact ⟨_, _, rfl⟩
            · have hd := hel.out.2.drop hq
              rw [bv_drop] at hd
              split
              · rename_i he
                rw [show m - q = 0 by omega, List.drop_eq_nil_of_le (by omega)]
                exact Rd.nil _ _ _ (by unfold maxLen; omega)
              · exact hd
            · show (ls ++ [rs.take q]).flatten ++ rs.drop q = b
              rw [← hfl.out]
              simp
    · obtain rfl : k = n2 := by omega
      go_wp2_with (at_builtin; refine wpList_app _ rfl (.tmp 47) (.tmp 49) _ rfl w1.heap.size 27 i0 (.slice none 0 0) 24 Try.underlying36 hi hz0 hz1 hz2 rfl _ _ _ rfl (own_below hown ((Below.refl _ _).alloc (Nat.le_refl _) _)) _ _ _ _ rfl (Rd.one _ _ _) (one_slice _ _ _) ?_ (by omega) ?_ ?_)
      · omega
      · have := hb.size
        simp
        omega
      · intro A5 c5 w5 hown5 hg5 hl5
        have hbel := (hb.alloc hb.size _).grown hg5 (by have := hb.size; simp; omega) (fun j hj => (hown.lt j hj).1)
        have HO := hide hown5
        clear hown5 hg5 hl5
        have hel2 := hel.out.1.snoc hel.out.2
        have hflat : (ls ++ [rs]).flatten = b := by
          rw [← hfl.out]
          simp
        have hP : RdP w5 A5 (k + 1) c5 (ls ++ [rs]) := (hel2.below hbel (Nat.le_refl _)).rdp (Rd.of_own HO.out)
        generalize ls ++ [rs] = ps at *
        have hlen : ps.flatten.length ≤ 1099511627776 := by
          rw [hflat]
          have := hl1.out
          omega
        have J := hide (fun w (h : RdP w A5 (k + 1) c5 ps) => join_any A5 (k + 1) c5 ps w h hlen)
        rw [hflat, ← hl1.out] at J
        have J0 := hide (fun w => join_any none 0 0 [] w (RdP.nil _ _ _ (by unfold maxLen; omega)) (by simp))
        have J3 := hide (fun A n c w (h : RdP w A n c [[], b, []]) => join_any A n c [[], b, []] w h (by have := hl1.out; simp; omega))
        rw [show ([[], b, []] : List (List UInt8)).flatten = b by simp, ← hl1.out] at J3
        have hbw5 := below_next hb1 hbel
        have R5 := hide (And.intro (H1.out.below hbw5 (Nat.le_refl _)) (And.intro hP hbw5))
        clear hP hbw5 hel2 HO hfl hel hflat hlen hbel hb hbw hown
        go_wp2_with (fail)
        refine (J.out _ R5.out.2.1).mono ?_
        rintro e w6 ⟨A6, c6, rfl, hf6⟩
        have hb6 := hf6.below
        have ho6 := hide hf6.1
        clear hf6
        go_wp2_with (fail)
        refine (awake02_any _).mono ?_
        rintro e w7 ⟨rfl, hb7⟩
        have hb57 := below_next hb6 hb7
        have ho7 := hide (own_below ho6.out hb7)
        clear hb6 hb7 ho6
        go_wp2_with (fail)
        refine (sameBytes_any _ _ _ _ _ _ b b _ (Rd.of_own ho7.out) (R5.out.1.below hb57 (Nat.le_refl _))).mono ?_
        rintro e w8 ⟨rfl, rfl⟩
        rw [decide_eq_true (rfl : b = b)]
        go_wp2_with (fail)
        refine (J0.out _).mono ?_
        rintro e w8 ⟨A8, c8, rfl, hf8⟩
        have hb8 := hf8.below
        have hb58 := below_next hb57 hb8
        have ho8 := hide (own_below ho7.out hb8)
        clear hb57 hb8 ho7 hf8
        go_wp2_with (fail)
        refine (J3.out _ _ _ _ (RdP.three w8 A1 n1 c1 b _ (R5.out.1.below hb58 (Nat.le_refl _)))).mono ?_
        rintro e w9 ⟨A9, c9, rfl, hf9⟩
        have hb9 := below_call hf9.below
        have hb59 := below_next hb58 hb9
        have ho9 := hide (own_below ho8.out hb9)
        go_wp2_with (fail)
        refine (sameBytes_any _ _ _ _ _ _ b b _ hf9.rd (R5.out.1.below hb59 (Nat.le_refl _))).mono ?_
        rintro e w10 ⟨rfl, rfl⟩
        rw [decide_eq_true (rfl : b = b)]
        clear hf9 hb9 hb58 ho8
        go_wp2_with (fail)
        refine (spoil_any A6 n1 c6 w5.heap.size b _ ho9.out hb59.size).mono ?_
        rintro e w10 ⟨rfl, hb10⟩
        have hb510 := hb59.trans hb10
        clear hb10 hb59 ho9
        go_wp2_with (fail)
        refine (J.out _ (R5.out.2.1.below hb510 (Nat.le_refl _))).mono ?_
        rintro e w11 ⟨A11, c11, rfl, hf11⟩
        have hb11 : Below w5.heap.size w5 w11 := hb510.trans (hf11.below.mono hb510.size)
        go_wp2_with (fail)
        refine (sameBytes_any _ _ _ _ _ _ b b _ hf11.rd (R5.out.1.below hb11 (Nat.le_refl _))).mono ?_
        rintro e w12 ⟨rfl, rfl⟩
        rw [decide_eq_true (rfl : b = b)]
        have hend := below_next R5.out.2.2 hb11
        go_wp2
        go_ret
        exact ⟨rfl, hend⟩

theorem octetsJoin_walk (A1 : Option Addr) (n1 c1 : Nat) (b : List UInt8) (A2 : Option Addr) (n2 c2 : Nat) (cuts : List Int) (w : World) (h1 : Rd w A1 n1 c1 (bv b)) (h2 : Rd w A2 n2 c2 (iv cuts)) (_hw : ∀ z ∈ cuts, (Lit.int .i64 z).wf = true) :
    Calls Try.prog 6 #[.slice A1 n1 c1, .slice A2 n2 c2] w fun e w' => e = .returned (.bool true) ∧ Below w.heap.size w w' := by
  have m1 := h1.lenmax
  have m2 := h2.lenmax
  by_cases g1 : n1 ≤ 2000
  · by_cases g2 : n2 ≤ 20
    · exact octetsJoin_main A1 n1 c1 b A2 n2 c2 cuts w h1 h2 g1 g2
    · clear h1 h2 _hw
      go_enter Try.func6, Try.ntmps6
      go_wp2_with (fail)
      refine (awake02_any _).mono ?_
      rintro e w1 ⟨rfl, hb1⟩
      go_wp2
      go_ret
      exact ⟨rfl, hb1⟩
  · clear h1 h2 _hw
    go_enter Try.func6, Try.ntmps6
    go_wp2_with (fail)
    refine (awake02_any _).mono ?_
    rintro e w1 ⟨rfl, hb1⟩
    go_wp2
    go_ret
    exact ⟨rfl, hb1⟩

end Go.Proofs.Ythflgoigbgnkoaa
