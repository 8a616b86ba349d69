import Derived.Test.YthflgoigbgnkoaaAwake02
import Derived.Test.YthflgoigbgnkoaaPlOrder
import Derived.Test.YthflgoigbgnkoaaOpen
import Derived.Test.YthflgoigbgnkoaaLawRead
import Derived.Deep.RegionHeld3
import Derived.Deep.CutRange
namespace Go.Proofs.Ythflgoigbgnkoaa
open Go.RowKit

theorem Rd.second (w : World) (u : Value) (t : TypeId) (o : Obj) : Rd ((w.alloc o).alloc (.cells #[u] t)) (some ⟨w.heap.size + 1, 0, none⟩) 1 1 [u] := by
  have := Rd.one (w.alloc o) u t
  rwa [show (w.alloc o).heap.size = w.heap.size + 1 by simp] at this

/-- What stays while the order is asked: the two numbers, the two texts. -/
theorem keepOrd {w wa : World} {p q : Addr} {u v : Value} {A1 A2 : Option Addr} {n1 c1 n2 c2 : Nat} {xs ys : List Value} (o : Obj) (h : wa.cell? p = some u ∧ wa.cell? q = some v ∧ Rd wa A1 n1 c1 xs ∧ Rd wa A2 n2 c2 ys ∧ Below w.heap.size w wa) :
    (wa.alloc o).cell? p = some u ∧ (wa.alloc o).cell? q = some v ∧ Rd (wa.alloc o) A1 n1 c1 xs ∧ Rd (wa.alloc o) A2 n2 c2 ys ∧ Below w.heap.size w (wa.alloc o) :=
  ⟨(World.cell?_alloc_lt wa o p (World.block_lt_of_cell? wa _ h.1)).trans h.1, (World.cell?_alloc_lt wa o q (World.block_lt_of_cell? wa _ h.2.1)).trans h.2.1, h.2.2.1.alloc o, h.2.2.2.1.alloc o, below_new h.2.2.2.2 o⟩

theorem keepOrdD {w wa : World} {p q : Addr} {u v : Value} {A1 A2 : Option Addr} {n1 c1 n2 c2 : Nat} {xs ys : List Value} (o : Obj) (h : wa.drew.cell? p = some u ∧ wa.drew.cell? q = some v ∧ Rd wa.drew A1 n1 c1 xs ∧ Rd wa.drew A2 n2 c2 ys ∧ Below w.heap.size w wa.drew) :
    (wa.alloc o).drew.cell? p = some u ∧ (wa.alloc o).drew.cell? q = some v ∧ Rd (wa.alloc o).drew A1 n1 c1 xs ∧ Rd (wa.alloc o).drew A2 n2 c2 ys ∧ Below w.heap.size w (wa.alloc o).drew := by
  have hb : Below w.heap.size w wa := ⟨h.2.2.2.2.os, h.2.2.2.2.tape, h.2.2.2.2.output, h.2.2.2.2.size, h.2.2.2.2.block⟩
  have := keepOrd (w := w) (wa := wa) o ⟨h.1, h.2.1, h.2.2.1, h.2.2.2.1, hb⟩
  exact ⟨this.1, this.2.1, this.2.2.1.drew, this.2.2.2.1.drew, this.2.2.2.2.drew⟩

set_option maxHeartbeats 1600000 in
theorem orderLess_any (A1 : Option Addr) (n1 c1 : Nat) (x : List UInt8) (A2 : Option Addr) (n2 c2 : Nat) (y : List UInt8) (p q : Addr) (a b : Int) (w : World) (h1 : Rd w A1 n1 c1 (bv x)) (h2 : Rd w A2 n2 c2 (bv y))
    (hp : w.cell? p = some (.int .u64 b)) (hq : w.cell? q = some (.int .u64 a)) (a0 : 0 ≤ a) (ab : a ≤ b) (b1 : b < 18446744073709551616) (H : n1 < n2 ∨ n1 = n2 ∧ Pl.cmpB x y = if a < b then -1 else 0) :
    Calls Try.prog 31 #[.slice A1 n1 c1, .slice A2 n2 c2, .pointer (some p), .pointer (some q)] w fun e w' => e = .returned (.bool true) ∧ Below w.heap.size w w' := by
  have m1 := h1.lenmax
  have m2 := h2.lenmax
  rcases H with hl | ⟨rfl, hc⟩
  · clear h1 h2 hp hq
    go_enter Try.func31, Try.ntmps31
    go_wp2
    go_quiet (fail)
    go_wp2
    go_ret
    exact ⟨rfl, below_drewN _ (Below.refl _ _)⟩
  · have hcmp := Pl.order_cmp a b ab
    have k1 := hide (fun w h1 h2 => hc ▸ compare_any A1 A2 n1 c1 n1 c2 x y w h1 h2)
    have hby : bv [Pl.by8 (min 1 (b - a))] = [.int .u8 (IntKind.u8.wrap (if b - a < 1 then b - a else 1))] := by
      unfold bv
      simp only [List.map_cons, List.map_nil, Pl.by8_val, IntKind.wrap_u8]
      rw [show min 1 (b - a) = (if b - a < 1 then b - a else 1) by split <;> omega]
    have k2 := hide (fun w B1 B2 (h1 : Rd w B1 1 1 [.int .u8 0]) (h2 : Rd w B2 1 1 [.int .u8 (IntKind.u8.wrap (if b - a < 1 then b - a else 1))]) => hcmp ▸ compare_any B1 B2 1 1 1 1 [0] [Pl.by8 (min 1 (b - a))] w h1 (hby ▸ h2))
    have hba : IntKind.u64.wrap (b - a) = b - a := by rw [IntKind.wrap_u64]; omega
    generalize (if a < b then (-1 : Int) else 0) = r at *
    have H0 := hide (show w.drew.cell? p = some (.int .u64 b) ∧ w.drew.cell? q = some (.int .u64 a) ∧ Rd w.drew A1 n1 c1 (bv x) ∧ Rd w.drew A2 n1 c2 (bv y) ∧ Below w.heap.size w w.drew from ⟨hp, hq, h1.drew, h2.drew, (Below.refl _ _).drew⟩)
    clear h1 h2 hp hq hc hcmp hby
    obtain ⟨X, hm, hX⟩ : ∃ X : Int, (if b - a < 1 then b - a else 1) = X ∧ ((b - a < 1 ∧ X = b - a) ∨ (¬ b - a < 1 ∧ X = 1)) := ⟨_, rfl, by split <;> simp_all⟩
    have k3 := hm ▸ k2
    rcases hX with ⟨hd, rfl⟩ | ⟨hd, rfl⟩
    all_goals
      have HM := hide hm
      clear hm
      go_enter Try.func31, Try.ntmps31
      go_wp2
      go_region_held3 (fun w' => w'.cell? p = some (.int .u64 b) ∧ w'.cell? q = some (.int .u64 a) ∧ Rd w' A1 n1 c1 (bv x) ∧ Rd w' A2 n1 c2 (bv y) ∧ Below w.heap.size w w')
        (first | with_reducible exact H0.out | with_reducible exact keepOrdD _ ‹_› | with_reducible assumption | (have hk := ‹_ ∧ _ ∧ _ ∧ _ ∧ _›; simp only [HM.out] at hk; exact hk))
        (first
          | (go_at_call 19; with_reducible refine (k1.out _ ?_ ?_).mono ?_; exact (And.left (And.right (And.right ‹_ ∧ _ ∧ _ ∧ _ ∧ _›))); exact (And.left (And.right (And.right (And.right ‹_ ∧ _ ∧ _ ∧ _ ∧ _›)))); rintro e w3 ⟨rfl, rfl⟩)
          | (go_at_call 19; with_reducible refine (k3.out _ _ _ ?_ ?_).mono ?_; ((try simp only [HM.out]); with_reducible first | exact (Rd.second _ _ _ _).drew | exact ((Rd.one _ _ _).alloc _).drew); ((try simp only [HM.out]); with_reducible first | exact (Rd.second _ _ _ _).drew | exact ((Rd.one _ _ _).alloc _).drew); rintro e w3 ⟨rfl, rfl⟩))
      all_goals
        have hend := (And.right (And.right (And.right (And.right ‹_ ∧ _ ∧ _ ∧ _ ∧ _›))))
        go_wp2
        go_ret
        exact ⟨ret_bool (by simp), hend⟩

end Go.Proofs.Ythflgoigbgnkoaa
