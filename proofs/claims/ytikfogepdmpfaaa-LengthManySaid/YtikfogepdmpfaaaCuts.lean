import Derived.Test.YtikfogepdmpfaaaMem
import Derived.Test.YtikfogepdmpfaaaPlLen
import Derived.Test.YtikfogepdmpfaaaProg
import Derived.KernelRfl
namespace Go.Proofs.Ytikfogepdmpfaaa
open Go.RowKit

theorem cut_small (n : Int) (h : n < 16384) (w : World) :
    Calls Try.prog 113 #[.int .i64 n] w fun e w' => e = .returned (.tuple #[.int .i64 n, .bool false]) ∧ w = w' := by
  go_enter Try.func113, Try.ntmps113
  go_wp2
  go_ret2
  exact ⟨rfl, rfl⟩

/-- How many things stand behind the next determinant, of 16384 or more. -/
def cutI (n : Int) : Int := min (n / 16384) 4 * 16384
theorem cutI_bd (n : Int) (h : 16384 ≤ n) : 16384 ≤ cutI n ∧ cutI n ≤ n ∧ cutI n ≤ 65536 := by
  unfold cutI
  omega
theorem cutI_nat (n : Nat) : cutI (n : Int) = ((Pl.cutK n : Nat) : Int) := by
  unfold cutI Pl.cutK
  omega

theorem cut_big (n : Int) (h : 16384 ≤ n) (h1 : n ≤ 16777216) (w : World) :
    Calls Try.prog 113 #[.int .i64 n] w fun e w' => e = .returned (.tuple #[.int .i64 (cutI n), .bool true]) ∧ w = w' := by
  go_enter Try.func113, Try.ntmps113
  go_wp2
  all_goals
    go_ret2
    exact ⟨ret_int2 (by unfold cutI; omega), rfl⟩

theorem Try.info_int : (Try.prog.info? 3).map (fun i => (i.zero, i.size, i.bytes)) = some (some (.int .i64 0), 1, 8) := by kernel_rfl

def natsI (l : List Nat) : List Int := l.map fun (n : Nat) => (n : Int)
theorem natsI_length (l : List Nat) : (natsI l).length = l.length := by simp [natsI]
theorem natsI_snoc (l : List Nat) (n : Nat) : natsI (l ++ [n]) = natsI l ++ [(n : Int)] := by simp [natsI]

/-- The loop's relation: what is done, what is still to come. -/
def CutsRel (B N : Nat) (w0 : World) (k : Nat) (n v b : Value) (wr : World) : Prop :=
  ∃ (m : Nat) (more : Bool) (done : List Nat) (A : Option Addr) (c : Nat), n = .int .i64 (m : Int) ∧ b = .bool more ∧ v = .slice A done.length c ∧ (m : Int) ≤ 16777216 ∧ done.length + m / 16384 ≤ 1024 + (if more then 0 else 1) ∧
    wr.ownsRow B 3 1 (.slice A done.length c) done.length (iv (natsI done)) ∧ Below B w0 wr ∧ k = (if more then m + 1 else 0) ∧ Pl.cuts N = done ++ (if more then Pl.cuts m else [])

def RefCutsRel (B N : Nat) (w0 : World) (k : Nat) (n v : Value) (wr : World) : Prop :=
  ∃ (z : Int) (done : List Nat) (A : Option Addr) (c : Nat), n = .int .i64 z ∧ v = .slice A done.length c ∧ 0 ≤ z ∧ z ≤ 16777216 ∧ done.length + z / 16384 ≤ 1024 ∧
    wr.ownsRow B 3 1 (.slice A done.length c) done.length (iv (natsI done)) ∧ Below B w0 wr ∧ k = z.toNat + 1 ∧ Pl.cuts N = done ++ Pl.cuts z.toNat

theorem one_cell {w : World} {o : Nat} {u : Value} (h : w.cell? ⟨o, 0, none⟩ = some u) : ∀ (j : Nat) (x : Value), [u][j]? = some x → w.cell? ((⟨o, 0, none⟩ : Addr).add j) = some x := by
  intro j x hj
  match j, hj with
  | 0, hj => simp at hj; subst hj; simpa [Addr.add] using h

set_option maxRecDepth 100000 in
set_option maxHeartbeats 400000 in
theorem cuts_any (n : Int) (h1 : n ≤ 16777216) (w : World) :
    Calls Try.prog 94 #[.int .i64 n] w fun e w' => ∃ A c, e = .returned (.slice A (Pl.cuts n.toNat).length c) ∧ Fresh w w' 3 A (Pl.cuts n.toNat).length c (iv (natsI (Pl.cuts n.toNat))) := by
  obtain ⟨i0, hi, hz0, hz1, hz2⟩ := info_parts Try.info_int
  obtain ⟨N, hN⟩ : ∃ N, N = n.toNat := ⟨_, rfl⟩
  have HN : Hid (N = n.toNat) := hN
  go_enter Try.func94, Try.ntmps94
  go_wp2
  all_goals
    go_loopg [0, 3, 4] (N + 1) (CutsRel w.heap.size N w)
    case atStart => exact ⟨N, true, [], none, 0, by rw [HN.out]; congr 1; omega, rfl, rfl, by have := HN.out; omega, by have := HN.out; simp; omega, World.ownsRow_nil _ _ _ _, Below.refl _ _, rfl, rfl⟩
    case round =>
      obtain ⟨m, more, done, A, c, rfl, rfl, rfl, hm, hd, hown, hb, hk, hc⟩ := hrel
      cases more
      · have HK := hide hk
        have HC := hide hc
        have HD := hide hd
        have HO := hide hown
        clear hk hc hd hown
        go_wp2
        go_ret
        have e : Pl.cuts n.toNat = done := by rw [← hN, HC.out]; simp
        exact ⟨A, c, by rw [e]; rfl, by rw [e]; exact ⟨HO.out, hb⟩⟩
      · have HK := hide hk
        have HC := hide hc
        have HD := hide hd
        clear hk hc hd
        by_cases hs : (m : Int) < 16384
        · go_wp2_with (first
            | (go_at_call 113; refine (cut_small _ hs _).mono ?_; rintro e w' ⟨rfl, rfl⟩)
            | (at_builtin; refine wpList_app _ rfl (.tmp 14) (.tmp 16) _ rfl w.heap.size 3 i0 (.int .i64 0) 8 Try.underlying103 hi hz0 hz1 hz2 rfl _ _ _ rfl (hown.alloc _) _ _ _ _ rfl (Rd.one _ _ _) (one_int _ _) ?_ (by omega) ?_ ?_))
          · have := HD.out
            simp at this
            omega
          · have := hb.size
            simp
            omega
          · intro A1 c1 w1 hown1 hg1 hl1
            go_wp2
            go_roundg 0
            case measure => rw [HK.out]; simp
            case rel =>
              refine ⟨0, false, done ++ [m], A1, c1, by simp, rfl, by simp, by omega, by have := HD.out; simp at this ⊢; omega, ?_, ?_, rfl, ?_⟩
              · rw [natsI_snoc, iv_append, List.length_append]
                exact hown1
              · exact (hb.alloc hb.size _).grown hg1 (by have := hb.size; simp; omega) (fun k hk => (hown.lt k hk).1)
              · rw [HC.out, Pl.cuts_small m (by omega)]; simp
        · have hcb := cutI_bd (m : Int) (by omega)
          have hcn := hide (cutI_nat m)
          go_wp2_with (first
            | (go_at_call 113; refine (cut_big _ (by omega) hm _).mono ?_; rintro e w' ⟨rfl, rfl⟩)
            | (at_builtin; refine wpList_app _ rfl (.tmp 14) (.tmp 16) _ rfl w.heap.size 3 i0 (.int .i64 0) 8 Try.underlying103 hi hz0 hz1 hz2 rfl _ _ _ rfl (hown.alloc _) _ _ _ _ rfl (Rd.one _ _ _) (one_int _ _) ?_ (by omega) ?_ ?_))
          · have := HD.out
            simp at this
            omega
          · have := hb.size
            simp
            omega
          · intro A1 c1 w1 hown1 hg1 hl1
            go_wp2
            have hk1 := Pl.cutK_pos m (by omega)
            go_roundg (m - Pl.cutK m + 1)
            case measure => rw [HK.out]; simp; omega
            case rel =>
              refine ⟨m - Pl.cutK m, true, done ++ [Pl.cutK m], A1, c1, ?_, rfl, by simp, by omega, by have := HD.out; simp at this ⊢; omega, ?_, ?_, rfl, ?_⟩
              · rw [hcn.out]; congr 1; omega
              · rw [natsI_snoc, iv_append, List.length_append]
                have := hcn.out
                rw [this] at hown1
                exact hown1
              · exact (hb.alloc hb.size _).grown hg1 (by have := hb.size; simp; omega) (fun k hk => (hown.lt k hk).1)
              · rw [HC.out, Pl.cuts_big m (by omega)]; simp

set_option maxRecDepth 100000 in
set_option maxHeartbeats 400000 in
theorem refCuts_any (n : Int) (h1 : n ≤ 16777216) (w : World) :
    Calls Try.prog 97 #[.int .i64 n] w fun e w' => ∃ A c, e = .returned (.slice A (Pl.cuts n.toNat).length c) ∧ Fresh w w' 3 A (Pl.cuts n.toNat).length c (iv (natsI (Pl.cuts n.toNat))) := by
  obtain ⟨i0, hi, hz0, hz1, hz2⟩ := info_parts Try.info_int
  obtain ⟨N, hN⟩ : ∃ N, N = n.toNat := ⟨_, rfl⟩
  have HN : Hid (N = n.toNat) := hN
  go_enter Try.func97, Try.ntmps97
  go_wp2
  all_goals
    go_loopg [0, 3] (N + 1) (RefCutsRel w.heap.size N w)
    case atStart => exact ⟨_, [], none, 0, rfl, rfl, by omega, by omega, by simp only [List.length_nil]; omega, World.ownsRow_nil _ _ _ _, Below.refl _ _, by have := HN.out; omega, by rw [HN.out]; first | rfl | (congr 1; omega)⟩
    case round =>
      obtain ⟨z, done, A, c, rfl, rfl, hz, hm, hd, hown, hb, hk, hc⟩ := hrel
      have HK := hide hk
      have HC := hide hc
      have HD := hide hd
      clear hk hc hd
      by_cases hs : z < 16384
      · go_wp2_with (first
          | (at_builtin; refine wpList_app _ rfl (.tmp 21) (.tmp 23) _ rfl w.heap.size 3 i0 (.int .i64 0) 8 Try.underlying103 hi hz0 hz1 hz2 rfl _ _ _ rfl (hown.alloc _) _ _ _ _ rfl (Rd.one _ _ _) (one_int _ _) ?_ (by omega) ?_ ?_))
        · have := HD.out
          omega
        · have := hb.size
          simp
          omega
        · intro A1 c1 w1 hown1 hg1 hl1
          go_wp2
          go_ret
          have e : Pl.cuts n.toNat = done ++ [z.toNat] := by rw [← hN, HC.out, Pl.cuts_small z.toNat (by omega)]
          rw [e]
          refine ⟨A1, c1, by rw [List.length_append]; rfl, ?_, ?_⟩
          · rw [natsI_snoc, iv_append, List.length_append, Int.toNat_of_nonneg hz]
            exact hown1
          · exact (hb.alloc hb.size _).grown hg1 (by have := hb.size; simp; omega) (fun k hk => (hown.lt k hk).1)
      · have hcb := cutI_bd z (by omega)
        by_cases h4 : z / 16384 ≤ 4
        · have hE := hide (show cutI z = z / 16384 * 16384 from by unfold cutI; omega)
          go_wp2_with (first
            | (at_builtin; refine wpList_app _ rfl (.tmp 12) (.tmp 15) _ rfl w.heap.size 3 i0 (.int .i64 0) 8 Try.underlying103 hi hz0 hz1 hz2 rfl _ _ _ rfl (hown.alloc _) _ _ _ _ rfl (Rd.one _ _ _) (one_int _ _) ?_ (by omega) ?_ ?_))
          · have := HD.out
            omega
          · have := hb.size
            simp
            omega
          · intro A1 c1 w1 hown1 hg1 hl1
            go_wp2
            have hk1 := Pl.cutK_pos z.toNat (by omega)
            have hcn := cutI_nat z.toNat
            rw [Int.toNat_of_nonneg hz] at hcn
            have hE' := hE.out
            go_roundg (z.toNat - Pl.cutK z.toNat + 1)
            case measure => rw [HK.out]; omega
            case rel =>
              refine ⟨z - cutI z, done ++ [Pl.cutK z.toNat], A1, c1, ?_, by simp, by omega, by omega, by have := HD.out; simp at this ⊢; omega, ?_, ?_, by omega, ?_⟩
              · rw [hE']
              · rw [natsI_snoc, iv_append, List.length_append, ← hcn, hE']
                exact hown1
              · exact (hb.alloc hb.size _).grown hg1 (by have := hb.size; simp; omega) (fun k hk => (hown.lt k hk).1)
              · rw [HC.out, Pl.cuts_big z.toNat (by omega)]
                rw [show (z - cutI z).toNat = z.toNat - Pl.cutK z.toNat from by omega]
                simp
        · have hE := hide (show cutI z = 65536 from by unfold cutI; omega)
          go_wp2_with (first
            | (at_builtin; refine wpList_app _ rfl (.tmp 12) (.tmp 15) _ rfl w.heap.size 3 i0 (.int .i64 0) 8 Try.underlying103 hi hz0 hz1 hz2 rfl _ _ _ rfl (hown.alloc _) _ _ _ _ rfl (Rd.one _ _ _) (one_int _ _) ?_ (by omega) ?_ ?_))
          · have := HD.out
            omega
          · have := hb.size
            simp
            omega
          · intro A1 c1 w1 hown1 hg1 hl1
            go_wp2
            have hk1 := Pl.cutK_pos z.toNat (by omega)
            have hcn := cutI_nat z.toNat
            rw [Int.toNat_of_nonneg hz] at hcn
            have hE' := hE.out
            go_roundg (z.toNat - Pl.cutK z.toNat + 1)
            case measure => rw [HK.out]; omega
            case rel =>
              refine ⟨z - cutI z, done ++ [Pl.cutK z.toNat], A1, c1, ?_, by simp, by omega, by omega, by have := HD.out; simp at this ⊢; omega, ?_, ?_, by omega, ?_⟩
              · rw [hE']
              · rw [natsI_snoc, iv_append, List.length_append, ← hcn, hE']
                exact hown1
              · exact (hb.alloc hb.size _).grown hg1 (by have := hb.size; simp; omega) (fun k hk => (hown.lt k hk).1)
              · rw [HC.out, Pl.cuts_big z.toNat (by omega)]
                rw [show (z - cutI z).toNat = z.toNat - Pl.cutK z.toNat from by omega]
                simp


end Go.Proofs.Ytikfogepdmpfaaa
