import Derived.Test.YtnbjkkhjphjdkaaTakeOk
namespace Go.Proofs.Ytnbjkkhjphjdkaa
open Go.RowKit

theorem below_drewN {B : Nat} {a : World} : ∀ (q : Nat) {w : World}, Below B a w → Below B a (w.drewN q)
  | 0, _, h => h
  | q + 1, w, h => by
    have := below_drewN q (w := w) h
    exact ⟨this.os, this.tape, this.output, this.size, this.block⟩

/-- Elements within each other. -/
def nst (c : List UInt8) (ns : List Int) : List UInt8 := ns.foldl (fun b m => headL 2 m true b.length ++ b) c
theorem nst_snoc (c : List UInt8) (ns : List Int) (m : Int) : nst c (ns ++ [m]) = headL 2 m true (nst c ns).length ++ nst c ns := by simp [nst]
theorem nst_length (c : List UInt8) (ns : List Int) : (nst c ns).length ≤ c.length + 20 * ns.length := by
  have key : ∀ (ns : List Int) (b : List UInt8), (ns.foldl (fun b m => headL 2 m true b.length ++ b) b).length ≤ b.length + 20 * ns.length := by
    intro ns
    induction ns with
    | nil => intro b; simp
    | cons m ns ih =>
      intro b
      have h1 := ih (headL 2 m true b.length ++ b)
      have h2 := (headL_length 2 m b.length true).2
      rw [List.foldl_cons, List.length_cons]
      rw [List.length_append] at h1
      omega
  exact key ns c

def md5 (z : Int) : Int := (IntKind.u64.wrap z).tmod 5000
theorem md5_bd (z : Int) : 0 ≤ md5 z ∧ md5 z < 5000 := ⟨Int.tmod_nonneg _ (wrap_u64_nonneg z), Int.tmod_lt_of_pos _ (by omega)⟩

def NsRel (ns : List Int) (content : List UInt8) (w0 : World) (b i : Value) (wr : World) : Prop :=
  ∃ (k n c : Nat) (A : Option Addr), k ≤ ns.length ∧ k ≤ 12 ∧ n ≤ 600 ∧ i = .int .i64 (k : Int) ∧ b = .slice A n c ∧ Below w0.heap.size w0 wr ∧ Hid (Rd wr A n c (bv (nst content ((ns.take k).map md5))))
def NtRel (ns : List Int) (content : List UInt8) (w0 : World) (b i : Value) (wr : World) : Prop :=
  ∃ (k n c : Nat) (A : Option Addr) (z : Int), k ≤ ns.length ∧ k ≤ 12 ∧ n ≤ 600 ∧ z = (k : Int) - 1 ∧ i = .int .i64 z ∧ b = .slice A n c ∧ Below w0.heap.size w0 wr ∧ Hid (Rd wr A n c (bv (nst content ((ns.take k).map md5))))

theorem take_map_succ (ns : List Int) (k : Nat) (h : k < ns.length) : (ns.take (k + 1)).map md5 = (ns.take k).map md5 ++ [md5 ns[k]] := by
  rw [List.take_succ_eq_append_getElem h, List.map_append]
  rfl

set_option maxHeartbeats 1600000 in
theorem tlvNest_main (A1 : Option Addr) (n1 c1 : Nat) (ns : List Int) (A2 : Option Addr) (n2 c2 : Nat) (content : List UInt8) (w : World) (h1 : Rd w A1 n1 c1 (iv ns)) (h2 : Rd w A2 n2 c2 (bv content)) (g1 : n1 ≤ 12) (g2 : n2 ≤ 300) :
    Calls Try.prog 8 #[.slice A1 n1 c1, .slice A2 n2 c2] w fun e w' => e = .returned (.bool true) ∧ Below w.heap.size w w' := by
  have hl1 := hide (RdI.length h1)
  have hl2 := hide (RdB.length h2)
  have H1 := hide h1
  have H2 := hide h2
  have hlen : Hid (∀ k, k ≤ 12 → (nst content ((ns.take k).map md5)).length ≤ 540) := fun k hk => by
    have h := nst_length content ((ns.take k).map md5)
    have h3 := hl2.out
    rw [List.length_map, List.length_take] at h
    omega
  clear h1 h2
  go_enter Try.func8, Try.ntmps8
  go_wp2_with (fail)
  refine (copyBytes_any _ _ _ content _ H2.out (by omega)).mono ?_
  rintro e w1 ⟨A3, c3, rfl, hf⟩
  have hb1 := hf.below
  have hr1 := hide hf.rd
  clear hf
  go_wp2
  go_loopw [5, 6] (NsRel ns content w) (fun _ i _ => n1 - (intOf i).toNat)
  case atStart => exact ⟨0, n2, c3, A3, Nat.zero_le _, by omega, by omega, rfl, rfl, hb1, hr1.out⟩
  case round =>
    obtain ⟨k, n, c, A, hk, hk12, hn, rfl, rfl, hb, hr⟩ := hrel
    clear hr1 hb1
    by_cases hlt : k < n1
    · have hkl : k < ns.length := by have := hl1.out; omega
      obtain ⟨bb, o, rfl, hbz, hcell⟩ := RdI.at_ (H1.out.below hb (Nat.le_refl _)) hkl
      have hmd := md5_bd ns[k]
      have hT : (IntKind.u64.wrap ns[k]).tmod 5000 = md5 ns[k] := rfl
      have hsnoc := nst_snoc content ((ns.take k).map md5) (md5 ns[k])
      rw [← take_map_succ ns k hkl] at hsnoc
      have hl3 := hlen.out (k + 1) (by omega)
      rw [hsnoc] at hl3
      have kE := hide (fun A n c w (h : RdP w A n c [nst content ((ns.take k).map md5)]) => element_any 2 (md5 ns[k]) true A n c [nst content ((ns.take k).map md5)] w (by omega) h (by have := hlen.out k (by omega); rw [show ([nst content ((ns.take k).map md5)] : List (List UInt8)).flatten = nst content ((ns.take k).map md5) by simp]; omega))
      rw [show ([nst content ((ns.take k).map md5)] : List (List UInt8)).flatten = nst content ((ns.take k).map md5) by simp, ← hsnoc] at kE
      rw [← hsnoc] at hl3
      have HS := hide hl3
      clear hsnoc hl3
      generalize hz : md5 ns[k] = mm at *
      clear hz
      generalize ns[k] = zk at *
      go_wp2_with (fail)
      refine (kE.out _ _ _ _ (RdP.mk1 _ hr.out)).mono ?_
      rintro e w2 ⟨A4, n4, c4, rfl, hf⟩
      have hn4 := hide (RdB.length hf.rd)
      have hb2 := below_next hb (below_call hf.below)
      have hr2 := hide hf.rd
      clear hf
      go_wp2
      go_roundw
      case measure => simp [intOf]; omega
      case rel => exact ⟨k + 1, n4, c4, A4, by omega, by omega, by have := hn4.out; have := HS.out; omega, by go_num, rfl, hb2, hr2.out⟩
    · obtain rfl : k = n1 := by have := hl1.out; omega
      go_wp2
      go_loopw [5, 7] (NtRel ns content w) (fun _ i _ => (intOf i + 1).toNat)
      case atStart => exact ⟨k, n, c, A, (k : Int) - 1, hk, hk12, hn, rfl, rfl, rfl, hb, hr.out⟩
      case round =>
        clear hr hb
        obtain ⟨j, m, d, B, z, hj, hj12, hm, hz, rfl, rfl, hb, hr⟩ := hrel
        by_cases h0 : z < 0
        · obtain rfl : j = 0 := by omega
          go_wp2_with (fail)
          refine (awake03_any _).mono ?_
          rintro e w5 ⟨rfl, hb5⟩
          go_wp2_with (fail)
          refine (sameBytes_any _ _ _ _ _ _ content content _ (hr.out.below hb5 (Nat.le_refl _)) (H2.out.below (below_next hb hb5) (Nat.le_refl _))).mono ?_
          rintro e w6 ⟨rfl, rfl⟩
          rw [decide_eq_true (rfl : content = content)]
          have hend := below_next hb hb5
          go_wp2
          go_ret
          exact ⟨rfl, hend⟩
        · obtain ⟨j, rfl⟩ : ∃ i, j = i + 1 := ⟨j - 1, by omega⟩
          obtain rfl : z = (j : Int) := by omega
          clear hz h0
          have hjl : j < ns.length := by omega
          obtain ⟨bb, o, rfl, hbz, hcell⟩ := RdI.at_ (H1.out.below hb (Nat.le_refl _)) hjl
          have hmd := md5_bd ns[j]
          have hT : (IntKind.u64.wrap ns[j]).tmod 5000 = md5 ns[j] := rfl
          have hsnoc := nst_snoc content ((ns.take j).map md5) (md5 ns[j])
          rw [← take_map_succ ns j hjl] at hsnoc
          have hpl := hlen.out j (by omega)
          have hth := thead_headL 2 (md5 ns[j]) true (nst content ((ns.take j).map md5)).length (nst content ((ns.take j).map md5)) hmd.1 (by omega) (by omega) (by omega)
          rw [← hsnoc] at hth
          have hml := RdB.length hr.out
          rw [hsnoc, List.length_append] at hml
          have hh2 := headL_length 2 (md5 ns[j]) (nst content ((ns.take j).map md5)).length true
          have hpart : ((nst content ((ns.take (j + 1)).map md5)).drop (headL 2 (md5 ns[j]) true (nst content ((ns.take j).map md5)).length).length).take (nst content ((ns.take j).map md5)).length = nst content ((ns.take j).map md5) := by
            rw [hsnoc, List.drop_left, List.take_length]
          obtain ⟨bq, oq, rfl⟩ : ∃ bq oq, B = some ⟨bq, oq, none⟩ := by
            obtain ⟨bq, oq, hB, _⟩ := hr.out.2.2.2 (by omega)
            exact ⟨bq, oq, hB⟩
          have kT := hide (fun w h => takeOk_any bq oq m d _ w h _ _ _ _ _ hth (by omega) (by omega))
          rw [hpart] at kT
          simp only [show (2 : Int) % 4 = 2 by decide] at kT
          have hsum : ((((headL 2 (md5 ns[j]) true (nst content ((ns.take j).map md5)).length).length : Nat) : Int) + (((nst content ((ns.take j).map md5)).length : Nat) : Int) != (m : Int)) = false := by
            rw [show ((((headL 2 (md5 ns[j]) true (nst content ((ns.take j).map md5)).length).length : Nat) : Int) + (((nst content ((ns.take j).map md5)).length : Nat) : Int)) = (m : Int) by omega]
            simp
          have HM := hide hml
          clear hsnoc hth hml hpart hh2
          generalize (headL 2 (md5 ns[j]) true (nst content ((ns.take j).map md5)).length).length = hk2 at *
          generalize hpv : nst content ((ns.take j).map md5) = prev at *
          have HPV := hide hpv
          clear hpv
          generalize prev.length = pl at *
          generalize hzz : md5 ns[j] = mm at *
          clear hzz
          generalize ns[j] = zk at *
          go_wp2_with (fail)
          refine (kT.out _ hr.out).mono ?_
          rintro e w5 ⟨A5, c5, rfl, hf⟩
          have hb5 := below_next hb hf.below
          have hcell5 := ((Below.refl w5.heap.size w5).alloc (Nat.le_refl _) (.cells #[.int .i64 2, .int .i64 mm] 23)).cell (p := ⟨bb, o + j, none⟩) (Nat.lt_of_lt_of_le hbz hf.below.size)
          have hcell6 := hcell5.trans ((hf.below.cell (p := ⟨bb, o + j, none⟩) hbz).trans hcell)
          have hr5 := hide (hf.rd.alloc (.cells #[.int .i64 2, .int .i64 mm] 23))
          have hb6 := below_new hb5 (.cells #[.int .i64 2, .int .i64 mm] 23)
          clear hf hcell5
          go_wp2
          have hj0 : (j : Int) < (k : Int) := by have := hl1.out; omega
          have hj1 : (0 : Int) ≤ (j : Int) := by omega
          have hj2 : j < k := by omega
          have hi64 : IntKind.i64.wrap mm = mm := IntWalk.i64_in _ ⟨by omega, by omega⟩
          go_quiet (fail)
          go_wp2
          go_roundw
          case measure => simp [intOf]
          case rel =>
            refine ⟨j, pl, c5, A5, (j : Int) - 1, by omega, by omega, by omega, rfl, rfl, rfl, below_drewN _ hb6, ?_⟩
            rw [HPV.out]
            exact hr5.out.drewN _

theorem tlvNest_walk (A1 : Option Addr) (n1 c1 : Nat) (ns : List Int) (A2 : Option Addr) (n2 c2 : Nat) (content : List UInt8) (w : World) (h1 : Rd w A1 n1 c1 (iv ns)) (_hw : ∀ z ∈ ns, (Lit.int .i64 z).wf = true) (h2 : Rd w A2 n2 c2 (bv content)) :
    Calls Try.prog 8 #[.slice A1 n1 c1, .slice A2 n2 c2] w fun e w' => e = .returned (.bool true) ∧ Below w.heap.size w w' := by
  have m1 := h1.lenmax
  have m2 := h2.lenmax
  by_cases g1 : n1 ≤ 12
  · by_cases g2 : n2 ≤ 300
    · exact tlvNest_main A1 n1 c1 ns A2 n2 c2 content w h1 h2 g1 g2
    · clear h1 h2 _hw
      go_enter Try.func8, Try.ntmps8
      go_wp2_with (fail)
      refine (awake03_any _).mono ?_
      rintro e w1 ⟨rfl, hb1⟩
      go_wp2
      go_ret
      exact ⟨rfl, hb1⟩
  · clear h1 h2 _hw
    go_enter Try.func8, Try.ntmps8
    go_wp2_with (fail)
    refine (awake03_any _).mono ?_
    rintro e w1 ⟨rfl, hb1⟩
    go_wp2
    go_ret
    exact ⟨rfl, hb1⟩

end Go.Proofs.Ytnbjkkhjphjdkaa
