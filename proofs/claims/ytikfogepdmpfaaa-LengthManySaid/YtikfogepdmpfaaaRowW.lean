/-
  A row of the call's own taken whole, its spare room with it; many cells written into it. No program in sight.
-/
import Derived.Test.YtikfogepdmpfaaaMem
import Derived.ArgAppend
namespace Go.Proofs.Ytikfogepdmpfaaa
open Go.RowKit

theorem own_full {w : World} {B : Nat} {e : TypeId} {g n c : Nat} {xs : List Value} (h : w.ownsRow B e 1 (.slice (some ⟨g, 0, none⟩) n c) n xs) :
    ∃ ys, ys.take n = xs ∧ w.ownsRow B e 1 (.slice (some ⟨g, 0, none⟩) c c) c ys := by
  rcases h.2 with ⟨hv, _⟩ | ⟨g', cap, cur, hv, hB, hh, hnc, hcm, hsz, ht⟩
  · cases hv
  · cases hv
    refine ⟨cur.toList, by simpa using ht, by simp [hsz], .inr ⟨g, c, cur, rfl, hB, hh, Nat.le_refl _, hcm, hsz, ?_⟩⟩
    rw [List.take_of_length_le (by simp [hsz])]

theorem Rd.of_full {w : World} {B : Nat} {e : TypeId} {g c n : Nat} {ys : List Value} (h : w.ownsRow B e 1 (.slice (some ⟨g, 0, none⟩) c c) c ys) (hn : n ≤ c) : Rd w (some ⟨g, 0, none⟩) n c (ys.take n) :=
  (Rd.of_own h).take hn

theorem own_setCells {B : Nat} {e : TypeId} {g c : Nat} : ∀ (news : List Value) (o : Nat) (w : World) (ys : List Value), w.ownsRow B e 1 (.slice (some ⟨g, 0, none⟩) c c) c ys → o + news.length ≤ c →
    (w.setCells g o news).ownsRow B e 1 (.slice (some ⟨g, 0, none⟩) c c) c (ys.take o ++ news ++ ys.drop (o + news.length))
  | [], o, w, ys, h, _ => by simpa [World.setCells] using h
  | u :: news, o, w, ys, h, hl => by
    simp at hl
    have h1 := (h.stored o u).1
    have h2 := own_setCells news (o + 1) _ _ h1 (by omega)
    have hlen : ys.length = c := by have := h.1; omega
    have e1 : (ys.set o u).take (o + 1) = ys.take o ++ [u] := by
      rw [List.set_eq_take_append_cons_drop, if_pos (by omega), List.take_append, List.take_of_length_le (by simp; omega)]
      congr 1
      rw [List.length_take, show o + 1 - min o ys.length = 1 from by omega]
      rfl
    have e2 : (ys.set o u).drop (o + 1 + news.length) = ys.drop (o + (u :: news).length) := by
      rw [List.drop_set_of_lt (by omega)]
      congr 1
      simp
      omega
    rw [e1, e2] at h2
    have e3 : ys.take o ++ u :: news = ys.take o ++ [u] ++ news := by simp
    rw [e3]
    exact h2

section
variable {P : Program}
/-- append where there is room: the block stays, the cells behind are written. -/
theorem run_app_room (w : World) (t ty e : TypeId) (i : TypeInfo) (ht : P.underlying t = some (.slice e)) (hi : P.info? e = some i) (hsize : i.size = 1)
    (B g n k : Nat) (ys : List Value) (hown : w.ownsRow B e 1 (.slice (some ⟨g, 0, none⟩) k k) k ys)
    (A : Option Addr) (m c : Nat) (news : List Value) (hr : Rd w A m c news) (h1 : ∀ u ∈ news, u.oneCell' = true) (hroom : n + m ≤ k) :
    (Builtin.append_ #[t, t] ty #[.slice (some ⟨g, 0, none⟩) n k, .slice A m c]).run P w = .ok (.slice (some ⟨g, 0, none⟩) (n + m) k) (w.setCells g n news) := by
  have hln := hr.1
  rcases A with _ | ad
  · have h0 : m = 0 := by
      rcases Nat.eq_zero_or_pos m with h0 | h0
      · exact h0
      · obtain ⟨_, _, h, _⟩ := hr.2.2.2 h0
        cases h
    subst h0
    have hx : news = [] := List.eq_nil_of_length_eq_zero (by omega)
    subst hx
    simp [Builtin.append_, run_underlying ht, sizeOf, typeInfo, hi, Builtin.lenOf, Builtin.firstCells, show n ≤ k by omega, storeCells, World.setCells]
  · have hnews : ∀ (j : Nat) (u : Value), news[j]? = some u → w.cell? (ad.add j) = some u := by
      intro j u hu
      have hj : j < news.length := by
        rcases Nat.lt_or_ge j news.length with h | h
        · exact h
        · rw [List.getElem?_eq_none h] at hu
          cases hu
      obtain ⟨b, o, h, hc⟩ := hr.2.2.2 (by omega)
      cases h
      rw [Addr.add_lit]
      exact hc j u hu
    have hys : ys.length = k := by have := hown.1; omega
    have := run_append_room_cells (P := P) w t ty e i ht hi g 0 n k ad m c news (by rw [hsize]; omega) hnews h1 hroom (fun j hj => by
      rw [hsize, Nat.zero_add, Nat.mul_one]
      have hcell := hown.cellAt (n + j) (by omega)
      rw [hcell, List.getElem?_eq_getElem (by omega)]
      rfl) (fun j hj => by
      rw [hsize, Nat.zero_add, Nat.mul_one]
      exact hown.frozenAt (n + j))
    rw [hsize, Nat.zero_add, Nat.mul_one] at this
    exact this

theorem wpList_app_room {ops : Array Oper} {rest : List Oper} {o : Oper} {a : Act} {Q : Exit → Act → World → Prop} (w : World) (hgd : o.guard = none) (s x : Operand) (t : TypeId)
    (ho : o.op = .call { callee := .builtin .append, args := #[s, x], argTypes := #[t, t] })
    (e : TypeId) (i : TypeInfo) (ht : P.underlying t = some (.slice e)) (hi : P.info? e = some i) (hsize : i.size = 1)
    (B g n k : Nat) (ys : List Value) (hs : a.eval s = .slice (some ⟨g, 0, none⟩) n k) (hown : w.ownsRow B e 1 (.slice (some ⟨g, 0, none⟩) k k) k ys)
    (A : Option Addr) (m c : Nat) (news : List Value) (hx : a.eval x = .slice A m c) (hr : Rd w A m c news) (h1 : ∀ u ∈ news, u.oneCell' = true) (hroom : n + m ≤ k)
    (h : wpList P ops Q rest (a.put o.dst (.slice (some ⟨g, 0, none⟩) (n + m) k)) (w.setCells g n news)) : wpList P ops Q (o :: rest) a w := by
  refine wpList_plain hgd fun K hK => ?_
  have hr := run_app_room (P := P) w t o.type e i ht hi hsize B g n k ys hown A m c news hr h1 hroom
  unfold Oper.wp execOp
  simp only [ho, resolve, invoke, builtin, Sem.run_bind, Sem.run_pure, Result.andThen_ok, List.map_toArray, List.map_cons, List.map_nil, hs, hx, hr]
  exact hK _ _ h
end

end Go.Proofs.Ytikfogepdmpfaaa
