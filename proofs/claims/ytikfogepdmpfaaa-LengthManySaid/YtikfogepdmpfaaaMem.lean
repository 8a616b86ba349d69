/-
  Words for memory: a slice that reads as a list of one-cell values; a slice that a call has made; worlds that part in named blocks alone. No program in sight.
-/
import Derived.WalkKit
import Derived.WalkLawsBesides
import Derived.Deep.AppendLies
import Derived.Laws.AppendOwnNone
import Derived.Deep.LoopGhost
import Derived.Deep.QuietTactic
import Derived.BigQuiet
import Derived.OneCell
import Derived.Test.YtikfogepdmpfaaaPlOct
namespace Go.Proofs.Ytikfogepdmpfaaa
open Go.RowKit

/-- A fact kept from the walk; and back. -/
theorem hide {p : Prop} (h : p) : Hid p := h

/-- The cells of octets, of ints. -/
def bv (l : List UInt8) : List Value := l.map fun c => .int .u8 (c.toNat : Int)
def iv (l : List Int) : List Value := l.map (.int .i64)

theorem bv_length (l : List UInt8) : (bv l).length = l.length := by simp [bv]
theorem iv_length (l : List Int) : (iv l).length = l.length := by simp [iv]
theorem bv_append (a b : List UInt8) : bv (a ++ b) = bv a ++ bv b := by simp [bv]
theorem iv_append (a b : List Int) : iv (a ++ b) = iv a ++ iv b := by simp [iv]
theorem bv_take (l : List UInt8) (k : Nat) : (bv l).take k = bv (l.take k) := by simp [bv, List.map_take]
theorem bv_drop (l : List UInt8) (k : Nat) : (bv l).drop k = bv (l.drop k) := by simp [bv, List.map_drop]
theorem bv_one (l : List UInt8) : ∀ u ∈ bv l, u.oneCell' = true := by
  intro u hu
  obtain ⟨_, _, rfl⟩ := List.mem_map.1 hu
  rfl
theorem iv_one (l : List Int) : ∀ u ∈ iv l, u.oneCell' = true := by
  intro u hu
  obtain ⟨_, _, rfl⟩ := List.mem_map.1 hu
  rfl
theorem bv_at (l : List UInt8) (i : Nat) (h : i < l.length) : (bv l)[i]? = some (.int .u8 (l[i].toNat : Int)) := by
  simp [bv, h]
theorem iv_at (l : List Int) (i : Nat) (h : i < l.length) : (iv l)[i]? = some (.int .i64 l[i]) := by
  simp [iv, h]

/-- The slice value '.slice A n c' reads as the one-cell values xs. -/
def Rd (w : World) (A : Option Addr) (n c : Nat) (xs : List Value) : Prop :=
  n = xs.length ∧ n ≤ c ∧ c ≤ maxLen ∧ (0 < n → ∃ b o, A = some ⟨b, o, none⟩ ∧ ∀ (i : Nat) (u : Value), xs[i]? = some u → w.cell? ⟨b, o + i, none⟩ = some u)

section
variable {w w' : World} {A : Option Addr} {n c : Nat} {xs : List Value}

theorem Rd.len (h : Rd w A n c xs) : n = xs.length := h.1
theorem Rd.cap (h : Rd w A n c xs) : n ≤ c := h.2.1
theorem Rd.max (h : Rd w A n c xs) : c ≤ 9223372036854775807 := by
  have := h.2.2.1
  unfold maxLen at this
  exact this
theorem Rd.lenmax (h : Rd w A n c xs) : n ≤ 9223372036854775807 := Nat.le_trans h.cap h.max

theorem Rd.at_ (h : Rd w A n c xs) {k : Nat} (hk : k < n) : ∃ b o u, A = some ⟨b, o, none⟩ ∧ b < w.heap.size ∧ xs[k]? = some u ∧ w.cell? ⟨b, o + k, none⟩ = some u := by
  obtain ⟨b, o, e, hc⟩ := h.2.2.2 (by omega)
  have hl : k < xs.length := by have := h.1; omega
  have hcell := hc k _ (List.getElem?_eq_getElem hl)
  exact ⟨b, o, xs[k], e, World.block_lt_of_cell? w _ hcell, List.getElem?_eq_getElem hl, hcell⟩

theorem Rd.keep (h : Rd w A n c xs) (hk : ∀ p : Addr, p.block < w.heap.size → w'.cell? p = w.cell? p) : Rd w' A n c xs := by
  refine ⟨h.1, h.2.1, h.2.2.1, fun hn => ?_⟩
  obtain ⟨b, o, e, hc⟩ := h.2.2.2 hn
  refine ⟨b, o, e, fun i u hu => ?_⟩
  have hcell := hc i u hu
  exact (hk _ (World.block_lt_of_cell? w _ hcell)).trans hcell

theorem Rd.below (h : Rd w A n c xs) {B : Nat} (hb : Below B w w') (hB : w.heap.size ≤ B) : Rd w' A n c xs :=
  h.keep fun _ hp => hb.cell (by omega)
theorem Rd.drewN (h : Rd w A n c xs) (k : Nat) : Rd (w.drewN k) A n c xs := h
theorem Rd.drew (h : Rd w A n c xs) : Rd w.drew A n c xs := h
theorem Rd.alloc (h : Rd w A n c xs) (o : Obj) : Rd (w.alloc o) A n c xs := h.keep fun p hp => World.cell?_alloc_lt w o p hp

theorem Rd.nil (w : World) (A : Option Addr) (c : Nat) (hc : c ≤ maxLen) : Rd w A 0 c [] := ⟨rfl, by omega, hc, fun h => absurd h (by omega)⟩

theorem Rd.take (h : Rd w A n c xs) {k : Nat} (hk : k ≤ n) : Rd w A k c (xs.take k) := by
  refine ⟨by have := h.1; simp; omega, by have := h.cap; omega, h.2.2.1, fun hn => ?_⟩
  obtain ⟨b, o, e, hc⟩ := h.2.2.2 (by omega)
  refine ⟨b, o, e, fun i u hu => hc i u ?_⟩
  rw [List.getElem?_take] at hu
  split at hu
  · exact hu
  · cases hu

theorem Rd.of_own {base : Nat} {e : TypeId} (h : w.ownsRow base e 1 (.slice A n c) n xs) : Rd w A n c xs := by
  rcases h.2 with ⟨hv, hn⟩ | ⟨g, cap, cur, hv, _, hh, hnc, hcm, _, ht⟩
  · cases hv
    have hx : xs = [] := List.eq_nil_of_length_eq_zero (by have := h.1; omega)
    subst hx
    exact Rd.nil w _ _ (by unfold maxLen; omega)
  · cases hv
    refine ⟨by have := h.1; omega, hnc, hcm, fun _ => ⟨g, 0, rfl, fun i u hu => ?_⟩⟩
    have := h.cells (g := g) rfl i u hu
    simpa [Addr.add_lit] using this

/-- A slice that has a row of the call's own is a slice. -/
theorem own_slice {base : Nat} {e : TypeId} {v : Value} (h : w.ownsRow base e 1 v n xs) : ∃ A c, v = .slice A n c := by
  rcases h.2 with ⟨hv, rfl⟩ | ⟨g, cap, cur, hv, _⟩
  · exact ⟨_, _, hv⟩
  · exact ⟨_, _, hv⟩
end

/-- A slice of octets reads as l. -/
abbrev RdB (w : World) (A : Option Addr) (n c : Nat) (l : List UInt8) : Prop := Rd w A n c (bv l)
theorem RdB.length {w : World} {A : Option Addr} {n c : Nat} {l : List UInt8} (h : Rd w A n c (bv l)) : n = l.length := h.1.trans (bv_length l)
theorem RdB.at_ {w : World} {A : Option Addr} {n c : Nat} {l : List UInt8} (h : Rd w A n c (bv l)) {k : Nat} (hk : k < l.length) :
    ∃ b o, A = some ⟨b, o, none⟩ ∧ b < w.heap.size ∧ w.cell? ⟨b, o + k, none⟩ = some (.int .u8 (l[k].toNat : Int)) := by
  obtain ⟨b, o, u, e, hb, hx, hc⟩ := Rd.at_ h (k := k) (by rw [RdB.length h]; exact hk)
  rw [bv_at l k hk] at hx
  cases hx
  exact ⟨b, o, e, hb, hc⟩
theorem RdI.length {w : World} {A : Option Addr} {n c : Nat} {l : List Int} (h : Rd w A n c (iv l)) : n = l.length := h.1.trans (iv_length l)
theorem RdI.at_ {w : World} {A : Option Addr} {n c : Nat} {l : List Int} (h : Rd w A n c (iv l)) {k : Nat} (hk : k < l.length) :
    ∃ b o, A = some ⟨b, o, none⟩ ∧ b < w.heap.size ∧ w.cell? ⟨b, o + k, none⟩ = some (.int .i64 l[k]) := by
  obtain ⟨b, o, u, e, hb, hx, hc⟩ := Rd.at_ h (k := k) (by rw [RdI.length h]; exact hk)
  rw [iv_at l k hk] at hx
  cases hx
  exact ⟨b, o, e, hb, hc⟩

/-- WHAT A CALL LEAVES THAT HANDS BACK A SLICE OF ITS OWN: the slice lies in a block of the call's own; nothing that was there has turned. -/
def Fresh (w w' : World) (T : TypeId) (A : Option Addr) (n c : Nat) (xs : List Value) : Prop :=
  w'.ownsRow w.heap.size T 1 (.slice A n c) n xs ∧ Below w.heap.size w w'
theorem Fresh.rd {w w' : World} {T : TypeId} {A : Option Addr} {n c : Nat} {xs : List Value} (h : Fresh w w' T A n c xs) : Rd w' A n c xs := Rd.of_own h.1
theorem Fresh.below {w w' : World} {T : TypeId} {A : Option Addr} {n c : Nat} {xs : List Value} (h : Fresh w w' T A n c xs) : Below w.heap.size w w' := h.2

/-- Behind a call that only makes memory: what was there reads as before. -/
theorem old_cells {W w1 : World} (hb : Below W.heap.size W w1) : ∀ b o, b < W.heap.size → w1.cell? ⟨b, o, none⟩ = W.cell? ⟨b, o, none⟩ := fun b o h => hb.cell (p := ⟨b, o, none⟩) h
theorem old_frozen {W w1 : World} (hb : Below W.heap.size W w1) : ∀ b o, b < W.heap.size → w1.frozen? ⟨b, o, none⟩ = W.frozen? ⟨b, o, none⟩ := fun b o h => hb.frozen (p := ⟨b, o, none⟩) h
/-- Behind an allocation and a call that only makes memory. -/
theorem below_call {w w1 : World} {o : Obj} (hb : Below (w.alloc o).heap.size (w.alloc o) w1) : Below w.heap.size w w1 :=
  ((Below.refl _ _).alloc (Nat.le_refl _) _).trans (hb.mono (by simp))
theorem below_call2 {w w1 : World} {o o' : Obj} (hb : Below ((w.alloc o).alloc o').heap.size ((w.alloc o).alloc o') w1) : Below w.heap.size w w1 :=
  below_call (below_call hb)
theorem below_next {a w w1 : World} (h : Below a.heap.size a w) (hb : Below w.heap.size w w1) : Below a.heap.size a w1 := h.trans (hb.mono h.size)
theorem below_new {a w : World} (h : Below a.heap.size a w) (o : Obj) : Below a.heap.size a (w.alloc o) := h.alloc h.size _

theorem ret_int {k : IntKind} {a b : Int} (h : a = b) : Ending.returned (.int k a) = .returned (.int k b) := by rw [h]
theorem ret_bool {a b : Bool} (h : a = b) : Ending.returned (.bool a) = .returned (.bool b) := by rw [h]
theorem ret_int2 {k : IntKind} {a b : Int} {v : Value} (h : a = b) : Ending.returned (.tuple #[.int k a, v]) = .returned (.tuple #[.int k b, v]) := by rw [h]

/-- One new block of one cell. -/
theorem Rd.one (w : World) (u : Value) (t : TypeId) : Rd (w.alloc (.cells #[u] t)) (some ⟨w.heap.size, 0, none⟩) 1 1 [u] := by
  refine ⟨rfl, by omega, by unfold maxLen; omega, fun _ => ⟨_, _, rfl, fun i x hx => ?_⟩⟩
  match i, hx with
  | 0, hx => simp at hx; subst hx; simp

/-- A new block of one cell is a row of the call's own. -/
theorem own_one (w : World) (u : Value) (t : TypeId) (B : Nat) (hB : B ≤ w.heap.size) : (w.alloc (.cells #[u] t)).ownsRow B t 1 (.slice (some ⟨w.heap.size, 0, none⟩) 1 1) 1 [u] :=
  ⟨rfl, .inr ⟨w.heap.size, 1, #[u], rfl, hB, heap_alloc_new w _, Nat.le_refl _, by unfold maxLen; omega, rfl, rfl⟩⟩

section
variable {P : Program}
/-- append onto a row of the call's own, whatever the source is: nil, empty or not. -/
theorem run_app (w : World) (base : Nat) (t ty e : TypeId) (i : TypeInfo) (z : Value) (bytes : Nat) (ht : P.underlying t = some (.slice e)) (hi : P.info? e = some i) (hz : i.zero = some z)
    (hsize : i.size = 1) (hby : i.bytes = bytes) (hzs : z.cells.size = 1)
    (v : Value) (n : Nat) (xs : List Value) (hown : w.ownsRow base e 1 v n xs)
    (A : Option Addr) (m c : Nat) (news : List Value) (hr : Rd w A m c news) (h1 : ∀ u ∈ news, u.oneCell' = true)
    (hn : n + m ≤ 1099511627776) (hb : bytes ≤ 64) (hbase : base ≤ w.heap.size) :
    ∃ A' c' w', (Builtin.append_ #[t, t] ty #[v, .slice A m c]).run P w = .ok (.slice A' (n + m) c') w' ∧ w'.ownsRow base e 1 (.slice A' (n + m) c') (n + m) (xs ++ news) ∧ w.grownBy w' v.ownBlock ∧
      ((Value.slice A' (n + m) c').ownBlock = v.ownBlock ∨ (Value.slice A' (n + m) c').ownBlock = some w.heap.size) := by
  have hbytes : (n + m) * bytes ≤ 140737488355328 := Nat.le_trans (Nat.mul_le_mul hn hb) (by omega)
  have h63 : n + m ≤ maxLen := by unfold maxLen; omega
  rcases A with _ | ad
  · have h0 : m = 0 := by
      rcases Nat.eq_zero_or_pos m with h0 | h0
      · exact h0
      · obtain ⟨_, _, h, _⟩ := hr.2.2.2 h0
        cases h
    subst h0
    have hx : news = [] := List.eq_nil_of_length_eq_zero (by have := hr.1; omega)
    subst hx
    obtain ⟨A', c', rfl⟩ := own_slice hown
    refine ⟨A', c', w, ?_, by simpa using hown, World.grownBy.refl _ _, .inl rfl⟩
    rcases hown.2 with ⟨hv, hn0⟩ | ⟨g, cap, cur, hv, _, _, hnc, _⟩
    · cases hv
      simp [Builtin.append_, run_underlying ht, sizeOf, typeInfo, hi, Builtin.lenOf, Builtin.firstCells]
    · cases hv
      simp [Builtin.append_, run_underlying ht, sizeOf, typeInfo, hi, Builtin.lenOf, Builtin.firstCells, hnc, storeCells]
  · have hnews : ∀ (j : Nat) (u : Value), news[j]? = some u → w.cell? (ad.add j) = some u := by
      intro j u hu
      have hj : j < news.length := by
        rcases Nat.lt_or_ge j news.length with h | h
        · exact h
        · rw [List.getElem?_eq_none h] at hu
          cases hu
      obtain ⟨b, o, h, hc⟩ := hr.2.2.2 (by have := hr.1; omega)
      cases h
      rw [Addr.add_lit]
      exact hc j u hu
    obtain ⟨v', w', hrun, h2, h3, _, h5⟩ := run_append_own_at (P := P) w base t ty e i z 1 bytes ht hi hz hsize hby hzs (by omega) v n xs hown ad m c news (by have := hr.1; omega) hnews h1 h63 hbytes hbase
    obtain ⟨A', c', rfl⟩ := own_slice h2
    exact ⟨A', c', w', hrun, h2, h3, h5⟩

theorem wpList_app {ops : Array Oper} {rest : List Oper} {o : Oper} {a : Act} {Q : Exit → Act → World → Prop} (w : World) (hgd : o.guard = none) (s x : Operand) (t : TypeId)
    (ho : o.op = .call { callee := .builtin .append, args := #[s, x], argTypes := #[t, t] })
    (base : Nat) (e : TypeId) (i : TypeInfo) (z : Value) (bytes : Nat) (ht : P.underlying t = some (.slice e)) (hi : P.info? e = some i) (hz : i.zero = some z)
    (hsize : i.size = 1) (hby : i.bytes = bytes) (hzs : z.cells.size = 1)
    (v : Value) (n : Nat) (xs : List Value) (hs : a.eval s = v) (hown : w.ownsRow base e 1 v n xs)
    (A : Option Addr) (m c : Nat) (news : List Value) (hx : a.eval x = .slice A m c) (hr : Rd w A m c news) (h1 : ∀ u ∈ news, u.oneCell' = true)
    (hn : n + m ≤ 1099511627776) (hb : bytes ≤ 64) (hbase : base ≤ w.heap.size)
    (h : ∀ A' c' w', w'.ownsRow base e 1 (.slice A' (n + m) c') (n + m) (xs ++ news) → w.grownBy w' v.ownBlock → ((Value.slice A' (n + m) c').ownBlock = v.ownBlock ∨ (Value.slice A' (n + m) c').ownBlock = some w.heap.size) →
      wpList P ops Q rest (a.put o.dst (.slice A' (n + m) c')) w') : wpList P ops Q (o :: rest) a w := by
  refine wpList_plain hgd fun K hK => ?_
  obtain ⟨A', c', w', hr, h2, h3, h4⟩ := run_app (P := P) w base t o.type e i z bytes ht hi hz hsize hby hzs v n xs hown A m c news hr h1 hn hb hbase
  unfold Oper.wp execOp
  simp only [ho, resolve, invoke, builtin, Sem.run_bind, Sem.run_pure, Result.andThen_ok, List.map_toArray, List.map_cons, List.map_nil, hs, hx, hr]
  exact hK _ _ (h A' c' w' h2 h3 h4)
end

theorem one_int (k : IntKind) (n : Int) : ∀ u ∈ [Value.int k n], u.oneCell' = true := by
  intro u hu
  simp at hu
  subst hu
  rfl

theorem info_byte {P : Program} {e : TypeId} (h : (P.info? e).map (fun i => (i.zero, i.size, i.bytes)) = some (some (.int .u8 0), 1, 1)) :
    ∃ i, P.info? e = some i ∧ i.zero = some (.int .u8 0) ∧ i.size = 1 ∧ i.bytes = 1 := info_parts h

end Go.Proofs.Ytikfogepdmpfaaa
