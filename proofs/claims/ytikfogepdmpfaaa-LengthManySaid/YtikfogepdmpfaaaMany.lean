import Derived.Test.YtikfogepdmpfaaaTak
namespace Go.Proofs.Ytikfogepdmpfaaa
open Go.RowKit
variable {D : Nat → Prop}

/-- What is known of what PutMany goes through: I0 ahead of the determinant, I j behind j things. -/
structure PutK (p F n : Nat) (caps : Array Value) (I0 : World → Prop) (I : Nat → World → Prop) : Prop where
  below : ∀ (W W' : World), I0 W → Below W.heap.size W W' → I0 W'
  put : ∀ (W : World), I0 W → Calls Try.prog 96 #[.pointer (some ⟨p, 0, none⟩), .int .i64 (n : Int), .bool false] W fun e w' => e = .returned (.tuple #[]) ∧ I 0 w'
  call : ∀ (j : Nat) (W : World), j < n → I j W → Calls Try.prog F (#[.pointer (some ⟨p, 0, none⟩), .int .i64 (j : Int)] ++ caps) W fun e w' => e = .returned (.tuple #[]) ∧ I (j + 1) w'
  fn : ∀ (j : Int) (w : World), (callFunc F (#[.pointer (some ⟨p, 0, none⟩), .int .i64 j] ++ caps)).run Try.prog w = .ok (.enter F (#[.pointer (some ⟨p, 0, none⟩), .int .i64 j] ++ caps)) w

def PMRel (bk ok n : Nat) (I0 : World → Prop) (I : Nat → World → Prop) (at_ idx : Value) (wr : World) : Prop :=
  (idx = .int .i64 0 ∧ at_ = .int .i64 0 ∧ Hid (I0 wr) ∧ wr.cell? ⟨bk, ok, none⟩ = some (.int .i64 (n : Int))) ∨ (idx = .int .i64 1 ∧ Hid (I n wr))
def PMRel2 (n : Nat) (I : Nat → World → Prop) (at_ k : Value) (wr : World) : Prop :=
  ∃ j : Nat, j ≤ n ∧ at_ = .int .i64 (j : Int) ∧ k = .int .i64 (j : Int) ∧ Hid (I j wr)
set_option maxRecDepth 100000 in
set_option maxHeartbeats 1600000 in
theorem putMany_any (p F n : Nat) (caps : Array Value) (I0 : World → Prop) (I : Nat → World → Prop) (K : PutK p F n caps I0 I) (hn : n < 16384) (w : World) (h : I0 w) :
    Calls Try.prog 60 #[.pointer (some ⟨p, 0, none⟩), .int .i64 (n : Int), .func (.func F) #[] caps] w fun e w' => e = .returned (.tuple #[]) ∧ I n w' := by
  have HK := hide K
  have H := hide h
  have kC := hide (cuts_any (n : Int) (by omega) w)
  simp only [Int.toNat_natCast, Pl.cuts_small n hn] at kC
  have hd9 : decide ((16384 : Int) ≤ (n : Int)) = false := decide_eq_false (by omega)
  have hn0 : (0 : Int) ≤ (n : Int) := by omega
  clear K h
  go_enter Try.func60, Try.ntmps60
  go_wp2_with (fail)
  refine kC.out.mono ?_
  rintro e w1 ⟨A1, c1, rfl, hf1⟩
  obtain ⟨bk, ok, rfl, _, hcell⟩ := RdI.at_ hf1.rd (show 0 < (natsI [n]).length by simp [natsI])
  simp only [natsI, List.map_cons, List.map_nil, List.getElem_cons_zero, Nat.add_zero] at hcell
  have I1 := hide (HK.out.below _ _ H.out hf1.below)
  clear hf1
  simp only [List.length_cons, List.length_nil]
  go_wp2_with (fail)
  go_loopw [6, 12] (PMRel bk ok n I0 I) (fun _ i _ => 1 - (intOf i).toNat)
  case atStart => exact .inl ⟨rfl, rfl, I1.out, hcell⟩
  case round =>
    rcases hrel with ⟨rfl, rfl, hI, hc0⟩ | ⟨rfl, hI⟩
    · have kp := hide (HK.out.put _ hI.out)
      have kf := HK.out.fn
      go_wp2_with (fail)
      refine kp.out.mono ?_
      rintro e w2 ⟨rfl, h2⟩
      have I2 := hide h2
      clear h2
      go_wp2_with (fail)
      go_loopw [6, 22] (PMRel2 n I) (fun _ i _ => n - (intOf i).toNat)
      case atStart => exact ⟨0, Nat.zero_le _, rfl, rfl, I2.out⟩
      case round =>
        obtain ⟨j, hj, rfl, rfl, hIj⟩ := hrel
        by_cases hlt : j < n
        · have kc := hide (HK.out.call j _ hlt hIj.out)
          have hji : (j : Int) < (n : Int) := by omega
          go_wp2_with (fail)
          refine kc.out.mono ?_
          rintro e w3 ⟨rfl, h3⟩
          have I3 := hide h3
          clear h3
          go_wp2
          go_roundw
          case rel => exact ⟨j + 1, hlt, by go_num, by go_num, I3.out⟩
          case measure => simp [intOf]; omega
        · obtain rfl : j = n := by omega
          have hji : ¬ (j : Int) < (j : Int) := by omega
          go_wp2
          exact ⟨⟨_, _, _, .inr ⟨rfl, hIj.out⟩, rfl, rfl, rfl⟩, by simp [intOf]⟩
    · go_wp2
      refine bodyPost_end (results_none rfl _ _ _) rfl ?_
      exact ⟨rfl, hI.out⟩
/-- What is known of what TakeMany calls: J j behind j things; Z behind a call that ends it. The three variables of TakeMany lie at N0 .. N0 + 2. -/
structure OneK (P q : Nat) (D : Nat → Prop) (bs : List UInt8) (em : Bool) (n F : Nat) (caps : Array Value) (N0 : Nat) (J : Nat → World → Prop) (Z : World → Prop) : Prop where
  wd : ∀ (j : Nat) (W : World), J j W → ∃ a, Wd W P q D bs a 0 em
  set : ∀ (j : Nat) (W : World) (b : Nat) (v : Value), N0 ≤ b → b < N0 + 3 → J j W → J j (W.setCell ⟨b, 0, none⟩ v)
  call : ∀ (j : Nat) (W : World), j < n → N0 + 3 ≤ W.heap.size → J j W → Calls Try.prog F (#[.pointer (some ⟨P, 0, none⟩), .int .i64 (j : Int)] ++ caps) W fun e w' => ((e = .returned (.bool true) ∧ J (j + 1) w') ∨ (e = .returned (.bool false) ∧ Z w')) ∧ W.heap.size ≤ w'.heap.size ∧ ∀ b, N0 ≤ b → b < N0 + 3 → w'.heap[b]? = W.heap[b]?
  fn : ∀ (j : Int) (w : World), (callFunc F (#[.pointer (some ⟨P, 0, none⟩), .int .i64 j] ++ caps)).run Try.prog w = .ok (.enter F (#[.pointer (some ⟨P, 0, none⟩), .int .i64 j] ++ caps)) w
/-- TakeMany's own variables. -/
structure Bx (P F : Nat) (caps : Array Value) (N0 : Nat) (j : Nat) (W : World) : Prop where
  r : W.cell? ⟨N0, 0, none⟩ = some (.pointer (some ⟨P, 0, none⟩))
  one : W.cell? ⟨N0 + 1, 0, none⟩ = some (.func (.func F) #[] caps)
  at_ : W.cell? ⟨N0 + 2, 0, none⟩ = some (.int .i64 (j : Int))
  fr : W.frozen? ⟨N0 + 2, 0, none⟩ = false
  sz : N0 + 3 ≤ W.heap.size
theorem Bx.keep {P F N0 j : Nat} {caps : Array Value} {W W' : World} (h : Bx P F caps N0 j W) (hs : W.heap.size ≤ W'.heap.size) (hk : ∀ b, N0 ≤ b → b < N0 + 3 → W'.heap[b]? = W.heap[b]?) : Bx P F caps N0 j W' :=
  ⟨(World.cell?_of_block (a := ⟨N0, 0, none⟩) (hk N0 (by omega) (by omega))).trans h.r, (World.cell?_of_block (a := ⟨N0 + 1, 0, none⟩) (hk (N0 + 1) (by omega) (by omega))).trans h.one, (World.cell?_of_block (a := ⟨N0 + 2, 0, none⟩) (hk (N0 + 2) (by omega) (by omega))).trans h.at_, (World.frozen?_of_block (a := ⟨N0 + 2, 0, none⟩) (hk (N0 + 2) (by omega) (by omega))).trans h.fr, Nat.le_trans h.sz hs⟩
theorem Bx.next {P F N0 j : Nat} {caps : Array Value} {W : World} (h : Bx P F caps N0 j W) : Bx P F caps N0 (j + 1) (W.setCell ⟨N0 + 2, 0, none⟩ (.int .i64 ((j : Int) + 1))) := by
  refine ⟨(cell_setCell_ne _ (by simp only; omega)).trans h.r, (cell_setCell_ne _ (by simp only; omega)).trans h.one, ?_, ?_, by simpa [World.setCell] using h.sz⟩
  · have := World.cell?_setCell_same W ⟨N0 + 2, 0, none⟩ (.int .i64 ((j : Int) + 1)) h.at_
    rw [this]
    congr 2
  · rw [World.frozen?_setCell]
    exact h.fr

def TMRel (P F n N0 : Nat) (caps : Array Value) (J : Nat → World → Prop) (k : Value) (wr : World) : Prop :=
  ∃ j : Nat, j ≤ n ∧ k = .int .i64 (j : Int) ∧ Hid (J j wr) ∧ Hid (Bx P F caps N0 j wr)
set_option maxRecDepth 100000 in
set_option maxHeartbeats 1600000 in
theorem takeManyC_any (P q : Nat) (bs : List UInt8) (em : Bool) (n F : Nat) (caps : Array Value) (N0 : Nat) (J : Nat → World → Prop) (Z : World → Prop) (K : OneK P q D bs em n F caps N0 J Z) (hn : n < 16384) (w : World) (h : J 0 w) (hb : Bx P F caps N0 0 w) :
    Calls Try.prog 101 #[.int .i64 (n : Int), .pointer (some ⟨N0 + 1, 0, none⟩), .pointer (some ⟨N0, 0, none⟩), .pointer (some ⟨N0 + 2, 0, none⟩)] w fun e w' => (e = .returned (.bool true) ∧ J n w') ∨ (e = .returned (.bool false) ∧ Z w') := by
  have HK := hide K
  have H := hide h
  have HB := hide hb
  clear K h hb
  go_enter Try.func101, Try.ntmps101
  go_wp2_with (fail)
  go_loopw [7] (TMRel P F n N0 caps J) (fun i _ => n - (intOf i).toNat)
  case atStart => exact ⟨0, Nat.zero_le _, rfl, H.out, HB.out⟩
  case round =>
    obtain ⟨j, hj, rfl, hJ, hB⟩ := hrel
    by_cases hlt : j < n
    · have hji : (j : Int) < (n : Int) := by omega
      have kc := hide (HK.out.call j _ hlt hB.out.sz hJ.out)
      have kf := HK.out.fn
      have b0 := hB.out.r
      have b1 := hB.out.one
      have b2 := hB.out.at_
      have hj9 : (j : Int) ≤ 16384 := by omega
      have hj0 : (0 : Int) ≤ (j : Int) := by omega
      go_wp2_with (fail)
      refine kc.out.mono ?_
      rintro e w2 ⟨⟨rfl, hJ2⟩ | ⟨rfl, hZ⟩, hs2, hk2⟩
      · have J2 := hide hJ2
        have B2 := hide (hB.out.keep hs2 hk2)
        have c2 := B2.out.at_
        have f2 := B2.out.fr
        clear hJ2 hs2 hk2 b0 b1 b2
        go_wp2
        go_roundw
        case rel => exact ⟨j + 1, hlt, by go_num, HK.out.set _ _ _ _ (by omega) (by omega) J2.out, B2.out.next⟩
        case measure => simp [intOf]; omega
      · have Z2 := hide hZ
        clear hZ hs2 hk2 b0 b1 b2
        go_wp2
        go_ret
        exact .inr ⟨rfl, Z2.out⟩
    · obtain rfl : j = n := by omega
      go_wp2
      go_ret
      exact .inl ⟨rfl, hJ.out⟩

def TmI (P F n N0 : Nat) (caps : Array Value) (I0 : World → Prop) (J : Nat → World → Prop) (j : Nat) (W : World) : Prop := match j with
  | 0 => I0 W ∧ Bx P F caps N0 0 W
  | _ + 1 => J n W
theorem takeMany_each (P q : Nat) (em : Bool) (L pre post : List Bool) (n F : Nat) (caps : Array Value) (N0 : Nat) (mx : Int) (I0 : World → Prop) (J : Nat → World → Prop) (Z : World → Prop) (hL : L = pre ++ det (n : Int) ++ post) (hn : n < 16384)
    (h0wd : ∀ W, I0 W → Wd W P q D (packW L) pre.length 0 em) (hdet : ∀ W W', I0 W → Wd W' P q D (packW L) (pre.length + (det (n : Int)).length) 0 em → Upd P (some q) W W' → J 0 W') (K : OneK P q D (packW L) em n F caps N0 J Z) (hP : P < N0) :
    EachK P 101 #[.pointer (some ⟨N0 + 1, 0, none⟩), .pointer (some ⟨N0, 0, none⟩), .pointer (some ⟨N0 + 2, 0, none⟩)] [n] mx (TmI P F n N0 caps I0 J) (fun _ W => J 0 W ∧ Bx P F caps N0 0 W) Z (fun W => ∃ a, Wd W P q D (packW L) a 5 em) := by
  refine ⟨fun j W hj h => ?_, fun j W h => ?_, fun j W h => ?_, fun j W h => ?_, fun W h => ?_, fun j W hj h => ?_, fun j hj => ?_, fun k w => by kernel_rfl⟩
  · obtain rfl : j = 0 := by simpa using hj
    obtain ⟨h1, h2⟩ := h
    have hw := h0wd W h1
    have hqp := hw.qp
    refine (ltake_det (D := D) P q em L pre post n false (.inl hn) hL W hw).mono ?_
    rintro e w' ⟨rfl, hw', hu⟩
    refine ⟨?_, hdet _ _ h1 hw' hu, h2.keep hu.size fun b hb1 hb2 => hu.block b (by have := h2.sz; omega) (by omega) (by simp only [ne_eq, Option.some.injEq]; omega)⟩
    rw [decide_eq_false (show ¬ 16384 ≤ n by omega)]
    rfl
  · obtain ⟨a, hw⟩ := K.wd 0 W h.1
    exact wdErr_any P q _ _ 0 em W hw
  · match j, h with
    | 0, h => exact wdErr_any P q _ _ 0 em W (h0wd W h.1)
    | j + 1, h =>
      obtain ⟨a, hw⟩ := K.wd n W h
      exact wdErr_any P q _ _ 0 em W hw
  · obtain ⟨a, hw⟩ := K.wd 0 W h.1
    refine (wdFail_any P q _ _ 0 5 em W hw).mono ?_
    rintro e w' ⟨rfl, hw', _⟩
    exact ⟨rfl, _, hw'⟩
  · obtain ⟨a, hw⟩ := h
    exact wdErr_any P q _ _ 5 em W hw
  · obtain rfl : j = 0 := by simpa using hj
    exact takeManyC_any P q (packW L) em n F caps N0 J Z K hn W h.1 h.2
  · simp at hj

set_option maxRecDepth 100000 in
set_option maxHeartbeats 1600000 in
theorem takeMany_any (P q : Nat) (em : Bool) (L pre post : List Bool) (n F : Nat) (caps : Array Value) (most : Int) (I0 : World → Prop) (J : Nat → World → Prop) (Z : World → Prop) (hL : L = pre ++ det (n : Int) ++ post) (hn : n < 16384) (hmx : (n : Int) ≤ max most 0) (hm : most ≤ 9223372036854775807) (w : World)
    (h0wd : ∀ W, I0 W → Wd W P q D (packW L) pre.length 0 em) (h0b : ∀ W W', I0 W → Below W.heap.size W W' → I0 W') (hdet : ∀ W W', I0 W → Wd W' P q D (packW L) (pre.length + (det (n : Int)).length) 0 em → Upd P (some q) W W' → J 0 W') (K : OneK P q D (packW L) em n F caps w.heap.size J Z) (h : I0 w) :
    Calls Try.prog 64 #[.pointer (some ⟨P, 0, none⟩), .int .i64 most, .func (.func F) #[] caps] w fun e w' => (e = .returned (.int .i64 (n : Int)) ∧ J n w') ∨ (e = .returned (.int .i64 0) ∧ Z w') := by
  have hP := (h0wd w h).lt
  have KE := hide (takeMany_each P q em L pre post n F caps w.heap.size (max most 0) I0 J Z hL hn h0wd hdet K hP)
  have H0B := hide h0b
  have H := hide h
  have hup : upTo [n] [n].length = n := by simp [upTo]
  have KA := hide (fun (W : World) (hI : TmI P F n w.heap.size caps I0 J 0 W) => each_any P 101 _ [n] (max most 0) most _ _ _ _ KE.out (by simp) rfl (by omega) (by rw [hup]; omega) W hI)
  unfold EachPost at KA
  rw [hup] at KA
  clear h0wd h0b hdet K h KE
  go_enter Try.func64, Try.ntmps64
  go_wp2_with (fail)
  obtain ⟨W, hW⟩ : ∃ W, ((w.alloc (.cells #[.pointer (some ⟨P, 0, none⟩)] 80)).alloc (.cells #[.func (.func F) #[] caps] 84)).alloc (.cells #[.int .i64 0] 3) = W := ⟨_, rfl⟩
  obtain ⟨hsz, b3, c0, c1, c2, f2⟩ := three w _ _ _ _ _ _ W hW
  rw [hW]
  clear hW
  have HI := hide (show TmI P F n w.heap.size caps I0 J 0 W from ⟨H0B.out _ _ H.out b3, c0, c1, c2, f2, by omega⟩)
  refine (KA.out W HI.out).mono ?_
  rintro e w2 (⟨rfl, _, hI⟩ | ⟨rfl, hZ | ⟨hlt, _⟩⟩)
  · have I2 := hide (show J n w2 from hI)
    clear hI c0 c1 c2 f2
    go_wp2
    go_ret
    exact .inl ⟨rfl, I2.out⟩
  · have Z2 := hide hZ
    clear hZ c0 c1 c2 f2
    go_wp2
    go_ret
    exact .inr ⟨rfl, Z2.out⟩
  · exfalso
    omega
/-- The cells of numbers without a sign. -/
def uv (l : List Int) : List Value := l.map (.int .u64)
theorem uv_length (l : List Int) : (uv l).length = l.length := by simp [uv]
theorem uv_append (a b : List Int) : uv (a ++ b) = uv a ++ uv b := by simp [uv]
theorem uv_at (l : List Int) (i : Nat) (h : i < l.length) : (uv l)[i]? = some (.int .u64 l[i]) := by simp [uv, h]
theorem uv_one (l : List Int) : ∀ u ∈ uv l, u.oneCell' = true := by
  intro u hu
  obtain ⟨_, _, rfl⟩ := List.mem_map.1 hu
  rfl
theorem RdU.at_ {w : World} {A : Option Addr} {n c : Nat} {l : List Int} (h : Rd w A n c (uv l)) {k : Nat} (hk : k < l.length) :
    ∃ b o, A = some ⟨b, o, none⟩ ∧ w.cell? ⟨b, o + k, none⟩ = some (.int .u64 l[k]) := by
  obtain ⟨b, o, u, e, hb, hx, hc⟩ := Rd.at_ h (k := k) (by have := h.1; rw [uv_length] at this; omega)
  rw [uv_at l k hk] at hx
  cases hx
  exact ⟨b, o, e, hc⟩

set_option maxHeartbeats 800000 in
theorem many1_any (base p : Nat) (g : Option Nat) (bits : List Bool) (A : Option Addr) (n c : Nat) (l : List Int) (i ab : Nat) (W : World) (hab : W.cell? ⟨ab, 0, none⟩ = some (.slice A n c)) (hr : Rd W A n c (uv l)) (hwf : ∀ z ∈ l, 0 ≤ z ∧ z < 18446744073709551616) (hi : i < l.length) (h : Wr W base p g bits) (hl : bits.length ≤ 1099511610000) (hB : base ≤ W.heap.size) :
    Calls Try.prog 61 #[.pointer (some ⟨p, 0, none⟩), .int .i64 (i : Int), .pointer (some ⟨ab, 0, none⟩)] W (BitPost W base p g (bits ++ Pl.bitsOf l[i] 5)) := by
  have hn := hr.1
  rw [uv_length] at hn
  have hm := hr.lenmax
  obtain ⟨b, o, rfl, hcell⟩ := RdU.at_ hr hi
  have hz := hwf l[i] (List.getElem_mem hi)
  have kB := hide (wBits_any l[i] 5 base p g bits W h hl hB hz.1 hz.2)
  rw [show cl64 5 = 5 by decide] at kB
  generalize l[i] = z at *
  have hi0 : (0 : Int) ≤ (i : Int) := by omega
  have hin : (i : Int) < (n : Int) := by omega
  clear h hr hl hB hn
  go_enter Try.func61, Try.ntmps61
  go_wp2_with (fail)
  refine kB.out.mono ?_
  rintro e w2 ⟨rfl, hx⟩
  have HX := hide hx
  clear hx
  go_wp2
  refine bodyPost_end (results_none rfl _ _ _) rfl ?_
  exact ⟨rfl, HX.out⟩

/-- The numbers that were taken so far, in the variable at block gb. -/
structure Got (P q : Nat) (D : Nat → Prop) (bs : List UInt8) (em : Bool) (gb base : Nat) (w0 : World) (a : Nat) (out : List Int) (W : World) : Prop where
  wd : Wd W P q D bs a 0 em
  o : ∃ A m c, W.cell? ⟨gb, 0, none⟩ = some (.slice A m c) ∧ W.frozen? ⟨gb, 0, none⟩ = false ∧ W.ownsRow base 49 1 (.slice A m c) m (uv out)
  up : Upd P (some q) w0 W
  bd : w0.heap.size ≤ gb ∧ P < gb ∧ gb < base
section
variable {P q : Nat} {bs : List UInt8} {em : Bool} {gb base a a2 : Nat} {w0 W W' w9 w10 : World} {out l : List Int}
theorem Got.drew (h : Got P q D bs em gb base w0 a out W) : Got P q D bs em gb base w0 a out W.drew := ⟨h.wd, h.o, h.up.drew, h.bd⟩
theorem Got.set (h : Got P q D bs em gb base w0 a out W) {b : Nat} (v : Value) (h1 : gb < b) (h2 : b < base) : Got P q D bs em gb base w0 a out (W.setCell ⟨b, 0, none⟩ v) := by
  obtain ⟨A, m, c, c1, c2, c3⟩ := h.o
  obtain ⟨b1, b2, b3⟩ := h.bd
  refine ⟨h.wd.setb (by omega) _, ⟨A, m, c, (cell_setCell_ne _ (by simp only; omega)).trans c1, by rw [World.frozen?_setCell]; exact c2, ownsRow_setCell_other c3 (fun e => by have := (c3.lt _ e).1; simp only at this; omega) _⟩, ?_, b1, b2, b3⟩
  have hu := h.up
  exact ⟨hu.os, hu.tape, hu.output, by simpa [World.setCell] using hu.size, fun k hk e1 e2 => (Below.heap_setCell _ _ _ _ (by simp only; omega)).trans (hu.block k hk e1 e2)⟩
theorem Got.upd (h : Got P q D bs em gb base w0 a out W) (hw : Wd W' P q D bs a2 0 em) (u : Upd P (some q) W W') : Got P q D bs em gb base w0 a2 out W' := by
  obtain ⟨A, m, c, h1, h2, h3⟩ := h.o
  have hqp := h.wd.qp
  obtain ⟨b1, b2, b3⟩ := h.bd
  refine ⟨hw, ⟨A, m, c, ?_, ?_, own_upd h3 u fun k hk => ?_⟩, h.up.trans (Mv.refl _ _) u, b1, b2, b3⟩
  · exact (u.cell (a := ⟨gb, 0, none⟩) (lt_cell h1) (by simp only; omega) (by simp only [ne_eq, Option.some.injEq]; omega)).trans h1
  · exact (u.frozen (a := ⟨gb, 0, none⟩) (lt_cell h1) (by simp only; omega) (by simp only [ne_eq, Option.some.injEq]; omega)).trans h2
  · have := (h3.lt k hk).1
    exact ⟨by omega, by simp only [ne_eq, Option.some.injEq]; omega⟩
theorem Got.alloc (h : Got P q D bs em gb base w0 a out W) (o : Obj) : Got P q D bs em gb base w0 a out (W.alloc o) := by
  have u : Upd P (some q) W (W.alloc o) := (Upd.refl P (some q) W).alloc o
  exact h.upd (h.wd.below ((Below.refl _ _).alloc (Nat.le_refl _) o)) u
theorem Got.app (h : Got P q D bs em gb base w0 a out w9) {A A' : Option Addr} {m c m' c' : Nat} (hc : w9.cell? ⟨gb, 0, none⟩ = some (.slice A m c)) (hf : w9.frozen? ⟨gb, 0, none⟩ = false) (ho : w9.ownsRow base 49 1 (.slice A m c) m (uv out))
    (hg : w9.grownBy w10 (Value.slice A m c).ownBlock) (ho' : w10.ownsRow base 49 1 (.slice A' m' c') m' (uv out ++ uv l)) :
    Got P q D bs em gb base w0 a (out ++ l) (w10.setCell ⟨gb, 0, none⟩ (.slice A' m' c')) := by
  have hqp := h.wd.qp
  obtain ⟨b1, b2, b3⟩ := h.bd
  have hk : ∀ k, (Value.slice A m c).ownBlock = some k → base ≤ k := fun k hk => (ho.lt k hk).1
  have hk' : ∀ k, (Value.slice A' m' c').ownBlock = some k → base ≤ k := fun k hk => (ho'.lt k hk).1
  have hwd : Wd w10 P q D bs a 0 em := h.wd.grown hg (fun e => by have := hk _ e.symm; omega) (fun e => by have := hk _ e.symm; omega) (fun j hj => h.wd.dnew (by have := hk j hj; omega))
  have hob : w10.cell? ⟨gb, 0, none⟩ = some (.slice A m c) := (hg.cell_far ⟨gb, 0, none⟩ (lt_cell hc) (fun e => by have := hk _ e.symm; simp only at this; omega)).trans hc
  have hfb : w10.frozen? ⟨gb, 0, none⟩ = false := (hg.frozen_far ⟨gb, 0, none⟩ (lt_cell hc) (fun e => by have := hk _ e.symm; simp only at this; omega)).trans hf
  refine ⟨hwd.setb b2 _, ⟨A', m', c', World.cell?_setCell_same _ _ _ hob, ?_, ?_⟩, ?_, b1, b2, b3⟩
  · rw [World.frozen?_setCell]
    exact hfb
  · rw [uv_append]
    exact ownsRow_setCell_other ho' (fun e => by have := hk' _ e; simp only at this; omega) _
  · have hg' := hg.size
    have hu := h.up
    refine ⟨hg.os.trans hu.os, hg.tape.trans hu.tape, hg.output.trans hu.output, ?_, fun k hk1 h1 h2 => (Below.heap_setCell _ _ _ _ (fun e => ?_)).trans ((hg.block k (Nat.lt_of_lt_of_le hk1 hu.size) (fun e => ?_)).trans (hu.block k hk1 h1 h2))⟩
    · have := hu.size
      simp only [World.setCell]
      simpa using (by omega : w0.heap.size ≤ w10.heap.size)
    · simp only at e
      omega
    · have := hk _ e.symm
      omega
end
theorem Got.mid {D : Nat → Prop} {P q : Nat} {bs : List UInt8} {em : Bool} {gb N0 a a2 : Nat} {w0 W w9 : World} {out : List Int} (h : Got P q D bs em gb (N0 + 3) w0 a out W) (hw : Wd w9 P q D bs a2 0 em) (u : Upd P (some q) W w9) (hN : N0 + 3 ≤ W.heap.size) (hgN : gb < N0)
    {A : Option Addr} {m c : Nat} (d1 : W.cell? ⟨gb, 0, none⟩ = some (.slice A m c)) (f1 : W.frozen? ⟨gb, 0, none⟩ = false) (o3 : W.ownsRow (N0 + 3) 49 1 (.slice A m c) m (uv out)) (o : Obj) :
    Got P q D bs em gb (N0 + 3) w0 a2 out (w9.alloc o) ∧ (w9.alloc o).ownsRow (N0 + 3) 49 1 (.slice A m c) m (uv out) ∧ (w9.alloc o).cell? ⟨gb, 0, none⟩ = some (.slice A m c) ∧ (w9.alloc o).frozen? ⟨gb, 0, none⟩ = false ∧ w9.cell? ⟨gb, 0, none⟩ = some (.slice A m c) ∧ (∀ b, N0 ≤ b → b < N0 + 3 → (w9.alloc o).heap[b]? = W.heap[b]?) ∧ W.heap.size ≤ (w9.alloc o).heap.size := by
  have hqp := h.wd.qp
  obtain ⟨b1, b2, b3⟩ := h.bd
  have hal : Below w9.heap.size w9 (w9.alloc o) := (Below.refl _ _).alloc (Nat.le_refl _) o
  have hl := lt_cell d1
  have hs := u.size
  have e1 : w9.cell? ⟨gb, 0, none⟩ = some (.slice A m c) := (u.cell (a := ⟨gb, 0, none⟩) hl (by simp only; omega) (by simp only [ne_eq, Option.some.injEq]; omega)).trans d1
  have e2 : w9.frozen? ⟨gb, 0, none⟩ = false := (u.frozen (a := ⟨gb, 0, none⟩) hl (by simp only; omega) (by simp only [ne_eq, Option.some.injEq]; omega)).trans f1
  refine ⟨(h.upd hw u).alloc o, (own_upd o3 u fun k hk => ?_).alloc o, (hal.cell (lt_cell e1)).trans e1, (hal.frozen (lt_cell e1)).trans e2, e1, fun b hb1 hb2 => ?_, Nat.le_trans u.size hal.size⟩
  · have := (o3.lt k hk).1
    exact ⟨by omega, by simp only [ne_eq, Option.some.injEq]; omega⟩
  · refine (hal.block b (by omega)).trans (u.block b (by omega) (by omega) fun e => ?_)
    cases e
    omega
theorem Try.info_u64m : (Try.prog.info? 49).map (fun i => (i.zero, i.size, i.bytes)) = some (some (.int .u64 0), 1, 8) := by kernel_rfl

set_option maxRecDepth 100000 in
set_option maxHeartbeats 1600000 in
theorem many2_any (P q : Nat) (bs : List UInt8) (em : Bool) (gb N0 : Nat) (w0 : World) (a a2 j : Nat) (out : List Int) (v : Int) (w : World) (KB : ∀ W, Wd W P q D bs a 0 em → Calls Try.prog 66 #[.pointer (some ⟨P, 0, none⟩), .int .i64 5] W (WdPost W P q D bs a2 0 em (.int .u64 v)))
    (hj : out.length = j) (hj9 : j ≤ 16384) (hN : N0 + 3 ≤ w.heap.size) (hgN : gb < N0) (h : Got P q D bs em gb (N0 + 3) w0 a out w) :
    Calls Try.prog 65 #[.pointer (some ⟨P, 0, none⟩), .int .i64 (j : Int), .pointer (some ⟨gb, 0, none⟩)] w fun e w' => e = .returned (.bool true) ∧ Got P q D bs em gb (N0 + 3) w0 a2 (out ++ [v]) w' ∧ w.heap.size ≤ w'.heap.size ∧ ∀ b, N0 ≤ b → b < N0 + 3 → w'.heap[b]? = w.heap[b]? := by
  obtain ⟨i0, hi, hy0, hy1, hy2⟩ := info_parts Try.info_u64m
  have KO := hide KB
  have Hd := hide h.drew
  obtain ⟨A, m, c, o1, o2, o3⟩ := h.o
  have d1 : w.drew.cell? ⟨gb, 0, none⟩ = some (.slice A m c) := o1
  obtain rfl : m = j := by have := (Rd.of_own o3).1; rw [uv_length] at this; omega
  have hcm := (Rd.of_own o3).cap
  have hcx := (Rd.of_own o3).max
  have O3 := hide o3
  have HJ := hide hj
  have HN := hide hN
  have HG := hide hgN
  have hm9 : (m : Int) ≤ 16384 := by omega
  have hm0 : (0 : Int) ≤ (m : Int) := by omega
  have hqp := hide h.wd.qp
  have hbd := hide h.bd
  clear h o3 hj hN hgN
  go_enter Try.func65, Try.ntmps65
  go_wp2_with (fail)
  go_region_law
    (first
      | (go_simp; go_at_call 66; (with_reducible refine (KO.out _ Hd.out.wd).mono ?_); rintro en w9 ⟨rfl, hr9, hu9⟩; obtain ⟨M9', hown9', hob9, hfb9, hob8, hbl9', hsz9'⟩ := Hd.out.mid hr9 hu9 HN.out HG.out d1 o2 O3.out (.cells #[.int .u64 v] 49); have M9 := hide M9'; have hown9 := hide hown9'; have hbl9 := hide hbl9'; have hsz9 := hide (show w.heap.size ≤ _ from hsz9'); clear hr9 hu9 M9' hown9' hbl9' hsz9')
      | (refine step_app rfl (.tmp 6) (.tmp 9) _ rfl (N0 + 3) 49 i0 (.int .u64 0) 8 Try.underlying76 hi hy0 hy1 hy2 rfl _ m (uv out) rfl hown9.out _ 1 1 (uv [v]) rfl (Rd.one w9 (.int .u64 v) 49) (uv_one _) (by omega) (by omega) (Nat.le_trans HN.out hsz9.out) ?_; intro A10 c10 w10 hown10 hg10 hl10; have hob10 : w10.cell? ⟨gb, 0, none⟩ = some (.slice A m c) := ((hg10.cell_far ⟨gb, 0, none⟩ (lt_cell hob9) (fun e => by (have h1 := (hown9.out.lt _ e.symm).1); (have h2 := hbd.out); simp only at h1; omega)).trans hob9); have hfb10 : w10.frozen? ⟨gb, 0, none⟩ = false := ((hg10.frozen_far ⟨gb, 0, none⟩ (lt_cell hob9) (fun e => by (have h1 := (hown9.out.lt _ e.symm).1); (have h2 := hbd.out); simp only at h1; omega)).trans hfb9)))
  all_goals
    have hcap10 := (Rd.of_own hown10).cap
    go_wp2
    go_ret
    refine ⟨rfl, M9.out.app hob9 hfb9 hown9.out hg10 hown10, ?_, fun b hb1 hb2 => ?_⟩
    · have := hg10.size
      have := hsz9.out
      simp only [World.setCell]
      simpa using (by omega : w.heap.size ≤ w10.heap.size)
    · have h2 := hbd.out
      have h4 := HG.out
      have h5 := hsz9.out
      have h6 := HN.out
      refine (Below.heap_setCell _ _ _ _ (by simp only; omega)).trans ((hg10.block b (by omega) (fun e => ?_)).trans (hbl9.out b hb1 hb2))
      have := (hown9.out.lt _ e.symm).1
      omega

/-- How many calls there were, in the variable at block tb; how many there may be, in the one at block mb. -/
structure Told (P q : Nat) (D : Nat → Prop) (bs : List UInt8) (em : Bool) (tb mb : Nat) (M : Int) (w0 : World) (a j : Nat) (W : World) : Prop where
  wd : Wd W P q D bs a 0 em
  t : W.cell? ⟨tb, 0, none⟩ = some (.int .i64 (j : Int))
  f : W.frozen? ⟨tb, 0, none⟩ = false
  m : W.cell? ⟨mb, 0, none⟩ = some (.int .i64 M)
  up : Upd P (some q) w0 W
  bd : w0.heap.size ≤ tb ∧ P < tb ∧ mb ≠ P ∧ mb ≠ q ∧ mb < w0.heap.size
section
variable {P q : Nat} {bs : List UInt8} {em : Bool} {tb mb a a2 j : Nat} {M : Int} {w0 W W' : World}
theorem Told.set (h : Told P q D bs em tb mb M w0 a j W) {b : Nat} (v : Value) (h1 : tb < b) : Told P q D bs em tb mb M w0 a j (W.setCell ⟨b, 0, none⟩ v) := by
  obtain ⟨b1, b2, b3, b4, b5⟩ := h.bd
  have hu := h.up
  exact ⟨h.wd.setb (by omega) _, (cell_setCell_ne _ (by simp only; omega)).trans h.t, by rw [World.frozen?_setCell]; exact h.f, (cell_setCell_ne _ (by simp only; omega)).trans h.m, ⟨hu.os, hu.tape, hu.output, by simpa [World.setCell] using hu.size, fun k hk e1 e2 => (Below.heap_setCell _ _ _ _ (by simp only; omega)).trans (hu.block k hk e1 e2)⟩, b1, b2, b3, b4, b5⟩
theorem Told.upd (h : Told P q D bs em tb mb M w0 a j W) (hw : Wd W' P q D bs a2 0 em) (u : Upd P (some q) W W') : Told P q D bs em tb mb M w0 a2 j W' := by
  obtain ⟨b1, b2, b3, b4, b5⟩ := h.bd
  have hqp := h.wd.qp
  refine ⟨hw, ?_, ?_, ?_, h.up.trans (Mv.refl _ _) u, b1, b2, b3, b4, b5⟩
  · exact (u.cell (a := ⟨tb, 0, none⟩) (lt_cell h.t) (by simp only; omega) (by simp only [ne_eq, Option.some.injEq]; omega)).trans h.t
  · exact (u.frozen (a := ⟨tb, 0, none⟩) (lt_cell h.t) (by simp only; omega) (by simp only [ne_eq, Option.some.injEq]; omega)).trans h.f
  · exact (u.cell (a := ⟨mb, 0, none⟩) (lt_cell h.m) b3 (by simp only [ne_eq, Option.some.injEq]; omega)).trans h.m
theorem Told.next (h : Told P q D bs em tb mb M w0 a j W) : Told P q D bs em tb mb M w0 a (j + 1) (W.setCell ⟨tb, 0, none⟩ (.int .i64 ((j : Int) + 1))) := by
  obtain ⟨b1, b2, b3, b4, b5⟩ := h.bd
  have hu := h.up
  refine ⟨h.wd.setb b2 _, ?_, by rw [World.frozen?_setCell]; exact h.f, (cell_setCell_ne _ (by simp only; omega)).trans h.m, ⟨hu.os, hu.tape, hu.output, by simpa [World.setCell] using hu.size, fun k hk e1 e2 => (Below.heap_setCell _ _ _ _ (by simp only; omega)).trans (hu.block k hk e1 e2)⟩, b1, b2, b3, b4, b5⟩
  rw [World.cell?_setCell_same W ⟨tb, 0, none⟩ (.int .i64 ((j : Int) + 1)) h.t]
  congr 2
end

set_option maxHeartbeats 800000 in
theorem many3_any (P q : Nat) (bs : List UInt8) (em : Bool) (tb mb N0 : Nat) (M : Int) (w0 : World) (a a2 j : Nat) (i v : Int) (w : World) (KB : ∀ W, Wd W P q D bs a 0 em → Calls Try.prog 66 #[.pointer (some ⟨P, 0, none⟩), .int .i64 5] W (WdPost W P q D bs a2 0 em (.int .u64 v)))
    (hj9 : j ≤ 16384) (hN : N0 + 3 ≤ w.heap.size) (htN : tb < N0) (h : Told P q D bs em tb mb M w0 a j w) :
    Calls Try.prog 67 #[.pointer (some ⟨P, 0, none⟩), .int .i64 i, .pointer (some ⟨tb, 0, none⟩), .pointer (some ⟨mb, 0, none⟩)] w fun e w' => e = .returned (.bool (decide ((j : Int) + 1 < M))) ∧ Told P q D bs em tb mb M w0 a2 (j + 1) w' ∧ w.heap.size ≤ w'.heap.size ∧ ∀ b, N0 ≤ b → b < N0 + 3 → w'.heap[b]? = w.heap[b]? := by
  have KO := hide KB
  have T1 := hide h.next
  have c0 := h.t
  have f0 := h.f
  have hqp := hide h.wd.qp
  have hbd := hide h.bd
  have hj0 : (0 : Int) ≤ (j : Int) := by omega
  have hj8 : (j : Int) ≤ 16384 := by omega
  have hs1 : Hid (w.heap.size ≤ (w.setCell ⟨tb, 0, none⟩ (.int .i64 ((j : Int) + 1))).heap.size ∧ ∀ b, N0 ≤ b → b < N0 + 3 → (w.setCell ⟨tb, 0, none⟩ (.int .i64 ((j : Int) + 1))).heap[b]? = w.heap[b]?) := ⟨by simp [World.setCell], fun b hb1 hb2 => Below.heap_setCell _ _ _ _ (by simp only; omega)⟩
  have HN := hide hN
  have HT := hide htN
  clear h hN htN
  go_enter Try.func67, Try.ntmps67
  go_wp2_with (fail)
  refine (KO.out _ T1.out.wd).mono ?_
  rintro e w2 ⟨rfl, hr2, hu2⟩
  have T2 := hide (T1.out.upd hr2 hu2)
  have hs2 : Hid (w.heap.size ≤ w2.heap.size ∧ ∀ b, N0 ≤ b → b < N0 + 3 → w2.heap[b]? = w.heap[b]?) := by
    have h1 := hbd.out
    have h2 := hqp.out
    have h3 := HN.out
    have h4 := HT.out
    refine ⟨Nat.le_trans hs1.out.1 hu2.size, fun b hb1 hb2 => (hu2.block b (by have := hs1.out.1; omega) (by omega) fun e => ?_).trans (hs1.out.2 b hb1 hb2)⟩
    cases e
    omega
  have d0 := T2.out.t
  have d1 := T2.out.m
  have ecast : ((j + 1 : Nat) : Int) = (j : Int) + 1 := by omega
  rw [ecast] at d0
  clear hr2 hu2 c0 f0
  go_wp2
  go_ret
  exact ⟨rfl, T2.out, hs2.out.1, hs2.out.2⟩
end Go.Proofs.Ytikfogepdmpfaaa
