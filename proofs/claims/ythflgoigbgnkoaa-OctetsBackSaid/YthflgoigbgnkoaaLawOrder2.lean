import Derived.Test.YthflgoigbgnkoaaLawOrder
namespace Go.Proofs.Ythflgoigbgnkoaa
open Go.RowKit

theorem keepS2 {w wa wb : World} {p q : Addr} {u v : Value} (h : wa.cell? p = some u ∧ wa.cell? q = some v ∧ Below w.heap.size w wa) (hb : Below wa.heap.size wa wb) :
    wb.cell? p = some u ∧ wb.cell? q = some v ∧ Below w.heap.size w wb :=
  ⟨(hb.cell (World.block_lt_of_cell? wa _ h.1)).trans h.1, (hb.cell (World.block_lt_of_cell? wa _ h.2.1)).trans h.2.1, below_next h.2.2 hb⟩
theorem keepS3 {w w3 wa wb : World} {p q : Addr} {u v : Value} (h : wa.cell? p = some u ∧ wa.cell? q = some v ∧ Below w3.heap.size w3 wa ∧ Below w.heap.size w wa) (hb : Below wa.heap.size wa wb) :
    wb.cell? p = some u ∧ wb.cell? q = some v ∧ Below w3.heap.size w3 wb ∧ Below w.heap.size w wb :=
  ⟨(hb.cell (World.block_lt_of_cell? wa _ h.1)).trans h.1, (hb.cell (World.block_lt_of_cell? wa _ h.2.1)).trans h.2.1, below_next h.2.2.1 hb, below_next h.2.2.2 hb⟩

/-- Fresh octets, as long as nothing but new memory comes. -/
theorem Fresh.later {w w' : World} {T : TypeId} {A : Option Addr} {n c : Nat} {xs : List Value} (h : Fresh w w' T A n c xs) : ∀ w'', Below w'.heap.size w' w'' → Rd w'' A n c xs :=
  fun _ hb => h.rd.below hb (Nat.le_refl _)

theorem uns_later (v : Int) (h0 : 0 ≤ v) (w : World) : Calls Try.prog 22 #[.int .u64 v] w fun e w' => ∃ A c, e = .returned (.slice A (Pl.dlenF 256 7 v) c) ∧ (∀ w'', Below w'.heap.size w' w'' → Rd w'' A (Pl.dlenF 256 7 v) c (bv (Pl.be (Pl.dlenF 256 7 v) v))) ∧ Below w.heap.size w w' :=
  (unsigned_any v h0 w).mono fun _ _ ⟨A, c, he, hf⟩ => ⟨A, c, he, hf.later, hf.below⟩
theorem grp_later (v : Int) (h0 : 0 ≤ v) (h1 : v < 18446744073709551616) (w : World) : Calls Try.prog 23 #[.int .u64 v] w fun e w' => ∃ A c, e = .returned (.slice A (Pl.dlenF 128 9 v) c) ∧ (∀ w'', Below w'.heap.size w' w'' → Rd w'' A (Pl.dlenF 128 9 v) c (bv (Pl.gr (Pl.dlenF 128 9 v) v))) ∧ Below w.heap.size w w' :=
  (groups_any v h0 h1 w).mono fun _ _ ⟨A, c, he, hf⟩ => ⟨A, c, he, hf.later, hf.below⟩

set_option maxHeartbeats 3200000 in
theorem octetsOrder_walk (a b : Int) (w : World) (ha : (Lit.int .u64 a).wf = true) (hb : (Lit.int .u64 b).wf = true) :
    Calls Try.prog 8 #[.int .u64 a, .int .u64 b] w fun e w' => e = .returned (.bool true) ∧ Below w.heap.size w w' := by
  obtain ⟨a0, a1⟩ := bd_u64 ha
  obtain ⟨b0, b1⟩ := bd_u64 hb
  clear ha hb
  go_enter Try.func8, Try.ntmps8
  go_wp2
  go_region
  obtain ⟨m, hm⟩ : ∃ m, (if b < a then b else a) = m := ⟨_, rfl⟩
  obtain ⟨M, hM⟩ : ∃ M, (if a < b then b else a) = M := ⟨_, rfl⟩
  rw [hm, hM]
  have hmM : 0 ≤ m ∧ m ≤ M ∧ M < 18446744073709551616 := by
    rw [← hm, ← hM]
    refine ⟨?_, ?_, ?_⟩ <;> (repeat' split) <;> omega
  clear hm hM a0 a1 b0 b1
  obtain ⟨m0, mM, M1⟩ := hmM
  have hO1 := hide (Pl.order_be m M m0 mM M1)
  have hO2 := hide (Pl.order_gr m M m0 mM M1)
  have u1 := hide (fun w => uns_later m m0 w)
  have u2 := hide (fun w => uns_later M (by omega) w)
  have g1 := hide (fun w => grp_later m m0 (by omega) w)
  have g2 := hide (fun w => grp_later M (by omega) M1 w)
  generalize Pl.dlenF 256 7 m = n1 at *
  generalize Pl.dlenF 256 7 M = n2 at *
  generalize Pl.dlenF 128 9 m = n3 at *
  generalize Pl.dlenF 128 9 M = n4 at *
  have H0 : Hid (((w.alloc (.cells #[.int .u64 m] 32)).alloc (.cells #[.int .u64 M] 32)).drew.cell? ⟨w.heap.size, 0, none⟩ = some (.int .u64 m) ∧ ((w.alloc (.cells #[.int .u64 m] 32)).alloc (.cells #[.int .u64 M] 32)).drew.cell? ⟨w.heap.size + 1, 0, none⟩ = some (.int .u64 M) ∧ Below w.heap.size w ((w.alloc (.cells #[.int .u64 m] 32)).alloc (.cells #[.int .u64 M] 32)).drew) := by
    refine ⟨?_, ?_, ((((Below.refl _ _).alloc (Nat.le_refl _) _).alloc (by simp) _)).drew⟩
    · show ((w.alloc _).alloc _).cell? _ = _
      rw [World.cell?_alloc_lt _ _ _ (by simp)]
      simp
    · show ((w.alloc _).alloc _).cell? _ = _
      rw [show w.heap.size + 1 = (w.alloc (Obj.cells #[.int .u64 m] 32)).heap.size by simp]
      simp
  generalize ((w.alloc (.cells #[.int .u64 m] 32)).alloc (.cells #[.int .u64 M] 32)).drew = W at *
  have S0 := H0.out
  clear H0
  go_wp2
  have S1 := hide (show W.drew.cell? ⟨w.heap.size, 0, none⟩ = some (.int .u64 m) ∧ W.drew.cell? ⟨w.heap.size + 1, 0, none⟩ = some (.int .u64 M) ∧ Below w.heap.size w W.drew from ⟨S0.1, S0.2.1, S0.2.2.drew⟩)
  clear S0
  go_region_held3 (fun w' => w'.cell? ⟨w.heap.size, 0, none⟩ = some (.int .u64 m) ∧ w'.cell? ⟨w.heap.size + 1, 0, none⟩ = some (.int .u64 M) ∧ Below w.heap.size w w')
    (first | with_reducible exact S1.out | with_reducible exact keepS2 ‹_› ‹_› | with_reducible assumption)
    (first
      | (go_at_call 22; with_reducible refine (u1.out _).mono ?_; rintro e w3 ⟨A3, c3, rfl, hf3, hb3⟩)
      | (go_at_call 22; with_reducible refine (u2.out _).mono ?_; rintro e w3 ⟨A3, c3, rfl, hf3, hb3⟩))
  all_goals
    have r1 : ∀ w', Below w3.heap.size w3 w' → Rd w' _ _ _ (bv (Pl.be n1 m)) := fun w' hb => ‹∀ w'', Below _ _ w'' → Rd w'' _ n1 _ (bv (Pl.be n1 m))› w' (by first | exact hb | exact below_next hb3 hb)
    have r2 : ∀ w', Below w3.heap.size w3 w' → Rd w' _ _ _ (bv (Pl.be n2 M)) := fun w' hb => ‹∀ w'', Below _ _ w'' → Rd w'' _ n2 _ (bv (Pl.be n2 M))› w' (by first | exact hb | exact below_next hb3 hb)
    have S2 := ‹_ ∧ _ ∧ _›
    have R1 := hide r1
    have R2 := hide r2
    clear r1 r2
    go_wp2
    have S3 := hide (show w3.drew.cell? ⟨w.heap.size, 0, none⟩ = some (.int .u64 m) ∧ w3.drew.cell? ⟨w.heap.size + 1, 0, none⟩ = some (.int .u64 M) ∧ Below w3.heap.size w3 w3.drew ∧ Below w.heap.size w w3.drew from ⟨S2.1, S2.2.1, (Below.refl _ _).drew, S2.2.2.drew⟩)
    clear S2
    go_region_held3 (fun w' => w'.cell? ⟨w.heap.size, 0, none⟩ = some (.int .u64 m) ∧ w'.cell? ⟨w.heap.size + 1, 0, none⟩ = some (.int .u64 M) ∧ Below w3.heap.size w3 w' ∧ Below w.heap.size w w')
      (first | with_reducible exact S3.out | with_reducible exact keepS3 ‹_› ‹_› | with_reducible assumption)
      (first
        | (go_at_call 23; with_reducible refine (g1.out _).mono ?_; rintro e w5 ⟨A5, c5, rfl, hf5, hb5⟩)
        | (go_at_call 23; with_reducible refine (g2.out _).mono ?_; rintro e w5 ⟨A5, c5, rfl, hf5, hb5⟩))
    all_goals
      have r3 : ∀ w', Below w5.heap.size w5 w' → Rd w' _ _ _ (bv (Pl.gr n3 m)) := fun w' hb => ‹∀ w'', Below _ _ w'' → Rd w'' _ n3 _ (bv (Pl.gr n3 m))› w' (by first | exact hb | exact below_next hb5 hb)
      have r4 : ∀ w', Below w5.heap.size w5 w' → Rd w' _ _ _ (bv (Pl.gr n4 M)) := fun w' hb => ‹∀ w'', Below _ _ w'' → Rd w'' _ n4 _ (bv (Pl.gr n4 M))› w' (by first | exact hb | exact below_next hb5 hb)
      have S4 := ‹_ ∧ _ ∧ Below w3.heap.size w3 w5 ∧ _›
      have R3 := hide r3
      have R4 := hide r4
      have S4 := hide S4
      clear r3 r4
      go_wp2_with (fail)
      refine (awake02_any _).mono ?_
      rintro e w6 ⟨rfl, hb6⟩
      have S6 := hide (keepS3 S4.out hb6)
      go_wp2_with (fail)
      refine (orderLess_any _ _ _ _ _ _ _ _ ⟨w.heap.size + 1, 0, none⟩ ⟨w.heap.size, 0, none⟩ m M _ (R1.out _ S6.out.2.2.1) (R2.out _ S6.out.2.2.1) S6.out.2.1 S6.out.1 m0 mM M1 hO1.out).mono ?_
      rintro e w7 ⟨rfl, hb7⟩
      have S7 := hide (keepS3 S6.out hb7)
      go_wp2_with (fail)
      refine (orderLess_any _ _ _ _ _ _ _ _ ⟨w.heap.size + 1, 0, none⟩ ⟨w.heap.size, 0, none⟩ m M _ (R3.out _ (below_next hb6 hb7)) (R4.out _ (below_next hb6 hb7)) S7.out.2.1 S7.out.1 m0 mM M1 hO2.out).mono ?_
      rintro e w8 ⟨rfl, hb8⟩
      have hend := below_next S7.out.2.2.2 hb8
      go_wp2
      go_ret
      exact ⟨rfl, hend⟩

end Go.Proofs.Ythflgoigbgnkoaa
