import Derived.Test.YtikfogepdmpfaaaRed7
import Derived.Test.YtikfogepdmpfaaaOpenOp
import Derived.Deep.RegionHeld3
namespace Go.Proofs.Ytikfogepdmpfaaa
open Go.RowKit

/-- The bits that one call of a script writes; those that the first ones write. -/
def enc1 (op : Op1) : List Bool := if op.kind = 1 then Pl.bitsOf op.v (cl32 op.n) else if op.kind = 2 then (if op.b.length ≤ 200 then Pl.octB op.b else []) else [decide (op.n ≠ 0)]
def encs (ops : List Op1) (k : Nat) : List Bool := (ops.take k).flatMap enc1
theorem encs_zero (ops : List Op1) : encs ops 0 = [] := rfl
theorem encs_succ (ops : List Op1) (k : Nat) (h : k < ops.length) : encs ops (k + 1) = encs ops k ++ enc1 ops[k] := by
  unfold encs
  rw [List.take_succ_eq_append_getElem h, List.flatMap_append]
  simp
theorem enc1_le (op : Op1) : (enc1 op).length ≤ 1600 := by
  unfold enc1
  split
  · rw [Pl.bitsOf_length]
    have := cl32_le op.n
    omega
  · split
    · split
      · rw [Pl.octB_length]
        omega
      · simp
    · simp
theorem encs_le (ops : List Op1) : ∀ k, k ≤ ops.length → (encs ops k).length ≤ 1600 * k
  | 0, _ => by simp [encs]
  | k + 1, h => by
    have := encs_le ops k (by omega)
    have := enc1_le (ops[k]'(by omega))
    rw [encs_succ ops k (by omega), List.length_append]
    omega
theorem encs_mid (ops : List Op1) (i : Nat) (hi : i < ops.length) : ∀ N, i < N → N ≤ ops.length → ∃ post, encs ops N = encs ops i ++ enc1 ops[i] ++ post := by
  intro N
  induction N with
  | zero => intro h _; omega
  | succ N ih =>
    intro h hN
    by_cases he : i = N
    · subst he
      exact ⟨[], by rw [encs_succ ops i hi, List.append_nil]⟩
    · obtain ⟨post, hp⟩ := ih (by omega) (by omega)
      exact ⟨post ++ enc1 (ops[N]'(by omega)), by rw [encs_succ ops N (by omega), hp, List.append_assoc]⟩
theorem bitsAt_mid (pre x post : List Bool) : Pl.bitsAt (Pl.pack (pre ++ x ++ post)) pre.length x.length = x := by
  rw [Pl.bitsAt_pack _ _ _ (by simp only [List.length_append]; omega), List.append_assoc, List.drop_left, List.take_left]
theorem octsAt_mid (pre post : List Bool) (b : List UInt8) : Pl.octsAt (Pl.pack (pre ++ Pl.octB b ++ post)) pre.length b.length = b := by
  refine Pl.octsAt_pack _ _ _ ?_ (by simp only [List.length_append, Pl.octB_length]; omega)
  rw [List.append_assoc, List.drop_left, ← Pl.octB_length, List.take_left]

theorem and_mask_u64 (v : Int) (m : Nat) (h0 : 0 ≤ v) (h1 : v < 18446744073709551616) (hm : m ≤ 63) : bits BinOp.and IntKind.u64 v (2 ^ m - 1) = v % 2 ^ m := by
  have hp : (0 : Int) < 2 ^ m := Int.pow_pos (by omega)
  have hpb : (2 : Int) ^ m ≤ 9223372036854775808 := by
    have := Nat.pow_le_pow_right (n := 2) (by omega) hm
    have e : ((2 ^ m : Nat) : Int) = 2 ^ m := by simp
    omega
  have e1 : ((2 : Int) ^ m - 1) = ((2 ^ m - 1 : Nat) : Int) := by
    have e : ((2 ^ m : Nat) : Int) = 2 ^ m := by simp
    have : 0 < 2 ^ m := Nat.pow_pos (by omega)
    omega
  have h := bits_and_u64_nat v.toNat (2 ^ m - 1) (by omega) (by omega)
  rw [Int.toNat_of_nonneg h0, ← e1] at h
  rw [h, Nat.and_two_pow_sub_one_eq_mod]
  rw [Int.natCast_emod, Int.toNat_of_nonneg h0]
  simp

theorem mask_eq (ov x : Int) (m : Nat) (hm : m ≤ 32) (hx : (IntKind.u64.wrap x).toNat = m) (h0 : 0 ≤ ov) (h1 : ov < 18446744073709551616) : bits BinOp.and IntKind.u64 (IntKind.u64.wrap ov) (IntKind.u64.wrap (IntKind.u64.wrap (2 ^ min (IntKind.u64.wrap x).toNat 64) - 1)) = IntKind.u64.wrap (ov % 2 ^ m) := by
  have hp : (0 : Int) < 2 ^ m := Int.pow_pos (by omega)
  have hpb : (2 : Int) ^ m ≤ 4294967296 := by
    have := Nat.pow_le_pow_right (n := 2) (by omega) hm
    have e : ((2 ^ m : Nat) : Int) = 2 ^ m := by simp
    omega
  rw [hx, show min m 64 = m by omega]
  have e1 : IntKind.u64.wrap ov = ov := by rw [IntKind.wrap_u64]; omega
  have e2 : IntKind.u64.wrap (2 ^ m) = 2 ^ m := by rw [IntKind.wrap_u64]; omega
  have e3 : IntKind.u64.wrap (2 ^ m - 1) = 2 ^ m - 1 := by rw [IntKind.wrap_u64]; omega
  rw [e1, e2, e3, and_mask_u64 ov m h0 h1 (by omega), IntKind.wrap_u64]
  have h2 := Int.emod_nonneg ov (show (2 : Int) ^ m ≠ 0 by omega)
  have h3 := Int.emod_lt_of_pos ov hp
  omega

def BB1Rel (B : Nat) (ops : List Op1) (N : Nat) (w0 : World) (ii : Value) (wr : World) : Prop :=
  ∃ (i : Nat) (g : Option Nat), i ≤ N ∧ ii = .int .i64 (i : Int) ∧ Hid (Wr wr B B g (encs ops i)) ∧ Hid (Below B w0 wr)
def BB2Rel (p : Nat) (D : Nat → Prop) (ops : List Op1) (N : Nat) (w0 : World) (ii : Value) (wr : World) : Prop :=
  ∃ (i : Nat), i ≤ N ∧ ii = .int .i64 (i : Int) ∧ Hid (Rr wr p D (Pl.pack (encs ops N)) (encs ops i).length 0) ∧ Hid (Below w0.heap.size w0 wr)

set_option maxRecDepth 100000 in
set_option maxHeartbeats 3200000 in
theorem bitsBack_walk (A : Option Addr) (n c : Nat) (ops : List Op1) (w : World) (h : RdO1 w A n c ops) :
    Calls Try.prog 11 #[.slice A n c] w fun e w' => e = .returned (.bool true) ∧ Below w.heap.size w w' := by
  have hln := hide h.1
  have hcap := h.2.1
  have hmx := h.2.2.1
  unfold maxLen at hmx
  have HO := hide h
  obtain ⟨N, hN⟩ : ∃ N, min n 60 = N := ⟨_, rfl⟩
  have HCS : Hid (∀ i, i ≤ N → (i < N → i < n ∧ i < 60) ∧ (¬ i < N → i = N ∧ (¬ i < n ∨ (i < n ∧ ¬ i < 60)))) := fun i hi => by omega
  have HN : Hid (N ≤ ops.length ∧ N ≤ 60) := ⟨by have := hln.out; omega, by omega⟩
  clear h hN
  have WN1 := Wr.new w w.heap.size 25
  have hb0 := (Below.refl w.heap.size w).alloc (Nat.le_refl _) (.cells #[.slice none 0 0, .int .i64 0] 25)
  have N1 := hide WN1
  have B0 := hide hb0
  clear WN1 hb0
  go_enter Try.func11, Try.ntmps11
  go_wp2_with (fail)
  refine (awake01_any _).mono ?_
  rintro e w1 ⟨rfl, hb⟩
  have W1 := hide (N1.out.below hb)
  have B1 := hide (B0.out.trans (hb.mono B0.out.size))
  clear hb N1 B0
  go_wp2_with (fail)
  go_loopw [4] (BB1Rel w.heap.size ops N w) (fun i _ => n - (intOf i).toNat)
  case atStart => exact ⟨0, none, Nat.zero_le _, rfl, W1.out, B1.out⟩
  case round =>
    obtain ⟨i, g, hi, rfl, hw, hb⟩ := hrel
    have hlen : Hid ((encs ops i).length ≤ 100000) := by
      have := encs_le ops i (by have := HN.out; omega)
      have := HN.out
      unfold Hid
      omega
    by_cases hlt : i < N
    · obtain ⟨hi1, hi2⟩ := (HCS.out i hi).1 hlt
      have hil : i < ops.length := by have := HN.out; omega
      have hsucc := hide (encs_succ ops i hil)
      obtain ⟨b, o, A', n', c', rfl, d0, d1, d2, d3, hrd, hk1, hk2, hk3⟩ := HO.out.2.2.2 i ops[i] (List.getElem?_eq_getElem hil)
      generalize ops[i] = op at *
      have c0 := (hb.out.cell (lt_cell d0)).trans d0
      have c1 := (hb.out.cell (lt_cell d1)).trans d1
      have c2 := (hb.out.cell (lt_cell d2)).trans d2
      have c3 := (hb.out.cell (lt_cell d3)).trans d3
      have hi0 : (0 : Int) ≤ (i : Int) := by omega
      have hi3 : (i : Int) < (n : Int) := by omega
      have hm' := hrd.lenmax
      have hl' := hide (RdB.length hrd)
      have HRD := hide hrd
      have W2 := hide (hw.out.alloc (.cells #[.int .i64 op.kind, .int .i64 op.n, .int .u32 op.v, .slice A' n' c'] 32))
      have B2 := hide (hb.out.alloc hb.out.size (.cells #[.int .i64 op.kind, .int .i64 op.n, .int .u32 op.v, .slice A' n' c'] 32))
      clear d0 d1 d2 d3 hrd
      rcases (show op.kind = 1 ∨ (op.kind ≠ 1 ∧ op.kind = 2 ∧ n' ≤ 200) ∨ (op.kind ≠ 1 ∧ op.kind = 2 ∧ ¬ n' ≤ 200) ∨ (op.kind ≠ 1 ∧ op.kind ≠ 2) by omega) with hk | ⟨hk, hkk, hk200⟩ | ⟨hk, hkk, hk200⟩ | ⟨hk, hkk⟩
      · have HE : Hid (enc1 op = Pl.bitsOf op.v (cl32 op.n)) := by unfold Hid enc1; rw [if_pos hk]
        have hkb : (op.kind == 1) = true := by simp [hk]
        clear hk
        go_wp2_with (fail)
        refine (bits_any op.v op.n w.heap.size w.heap.size g _ _ W2.out (by have := hlen.out; omega) B2.out.size).mono ?_
        rintro e w3 ⟨rfl, g3, hw3, hu3, hm3⟩
        rw [← HE.out, ← hsucc.out] at hw3
        have W3 := hide hw3
        have B3 := hide (B2.out.trans (hu3.below (B := w.heap.size) (Nat.le_refl _) (fun q hq => (hw.out.glt q hq).1) B2.out.size))
        clear hw3 hu3 hm3
        go_wp2
        go_roundw
        case rel => exact ⟨i + 1, g3, hlt, by go_num, W3.out, B3.out⟩
        case measure => simp [intOf]; omega
      · have HE : Hid (enc1 op = Pl.octB op.b) := by unfold Hid enc1; rw [if_neg hk, if_pos hkk, if_pos (by have := hl'.out; omega)]
        have hkb : (op.kind == 1) = false := by simp [hk]
        have hkb2 : (op.kind == 2) = true := by simp [hkk]
        clear hk hkk
        have hgb := hide (fun q hq => (hw.out.glt q hq).1)
        have hglt := hide (fun q hq => (hw.out.glt q hq).2)
        have W3 := hide (W2.out.alloc (.cells #[.slice A' n' c'] 23))
        have B3 := hide (B2.out.alloc B2.out.size (.cells #[.slice A' n' c'] 23))
        have hsw := hw.out.lt
        have rp := RdV.one (w := (wr.alloc (.cells #[.int .i64 op.kind, .int .i64 op.n, .int .u32 op.v, .slice A' n' c'] 32)).alloc (.cells #[.slice A' n' c'] 23)) (b := wr.heap.size + 1) (c := 1) (cell_new (by simp) rfl) (by omega) (by unfold maxLen; omega) (l1 := op.b) (HRD.out.below B3.out (Nat.le_refl _))
        have HV : Hid (∀ w', Upd w.heap.size g ((wr.alloc (.cells #[.int .i64 op.kind, .int .i64 op.n, .int .u32 op.v, .slice A' n' c'] 32)).alloc (.cells #[.slice A' n' c'] 23)) w' → RdV w' (some ⟨wr.heap.size + 1, 0, none⟩) 1 1 [.slice A' n' c'] [op.b]) := fun w' u => rp.upd u (Off.mk 1 (by omega) (fun e => by have := hglt.out _ e.symm; omega)) (fun j A9 n9 c9 h => by
          match j, h with
          | 0, h => cases h; exact Off.of_lt HRD.out (Nat.le_refl _) hgb.out)
        have hflat : Hid (([op.b] : List (List UInt8)).flatten = op.b) := by unfold Hid; simp
        clear rp hsw
        go_wp2_with (fail)
        refine (octs_any w.heap.size w.heap.size g _ _ _ _ [op.b] _ W3.out ?_ B3.out.size _ HV.out).mono ?_
        · rw [hflat.out]
          have := hlen.out
          have := hl'.out
          omega
        rintro e w3 ⟨rfl, g3, hw3, hu3, hm3⟩
        rw [hflat.out, ← HE.out, ← hsucc.out] at hw3
        have W4 := hide hw3
        have B4 := hide (B3.out.trans (hu3.below (B := w.heap.size) (Nat.le_refl _) hgb.out B3.out.size))
        clear hw3 hu3 hm3
        go_wp2
        go_roundw
        case rel => exact ⟨i + 1, g3, hlt, by go_num, W4.out, B4.out⟩
        case measure => simp [intOf]; omega
      · have HE : Hid (enc1 op = []) := by unfold Hid enc1; rw [if_neg hk, if_pos hkk, if_neg (by have := hl'.out; omega)]
        have hkb : (op.kind == 1) = false := by simp [hk]
        have hkb2 : (op.kind == 2) = true := by simp [hkk]
        clear hk hkk
        have W3 := W2.out
        rw [← List.append_nil (encs ops i), ← HE.out, ← hsucc.out] at W3
        have W3 := hide W3
        go_wp2
        go_roundw
        case rel => exact ⟨i + 1, g, hlt, by go_num, W3.out, B2.out⟩
        case measure => simp [intOf]; omega
      · have HE : Hid (enc1 op = [decide (op.n ≠ 0)]) := by unfold Hid enc1; rw [if_neg hk, if_neg hkk]
        have hkb : (op.kind == 1) = false := by simp [hk]
        have hkb2 : (op.kind == 2) = false := by simp [hkk]
        clear hk hkk
        go_wp2_with (fail)
        refine (bit_any op.n w.heap.size w.heap.size g _ _ W2.out (by have := hlen.out; omega) B2.out.size).mono ?_
        rintro e w3 ⟨rfl, g3, hw3, hu3, hm3⟩
        rw [← HE.out, ← hsucc.out] at hw3
        have W3 := hide hw3
        have B3 := hide (B2.out.trans (hu3.below (B := w.heap.size) (Nat.le_refl _) (fun q hq => (hw.out.glt q hq).1) B2.out.size))
        clear hw3 hu3 hm3
        go_wp2
        go_roundw
        case rel => exact ⟨i + 1, g3, hlt, by go_num, W3.out, B3.out⟩
        case measure => simp [intOf]; omega
    · obtain ⟨rfl, hex⟩ := (HCS.out i hi).2 hlt
      clear hlt
      rcases hex with hex | ⟨hex, hex2⟩
      all_goals
        go_wp2_with (fail)
        refine (wbytes_any _ _ _ _ _ hw.out (by have := hlen.out; omega)).mono ?_
        rintro e w4 ⟨A4, n4, c4, rfl, hf4⟩
        have B4 := hide (hb.out.trans (hf4.below.mono hb.out.size))
        have R4 := hide hf4.rd
        have hn4 := hide (show n4 ≤ 1099511627776 by
          have h1 := RdB.length hf4.rd
          rw [Pl.pack_length] at h1
          have := hlen.out
          omega)
        clear hf4
        go_wp2_with (fail)
        refine (new_any A4 n4 c4 _ _ R4.out hn4.out).mono ?_
        rintro e w5 ⟨p5, rfl, hr5, hb5, hp5⟩
        have B5 := hide (B4.out.trans (hb5.mono B4.out.size))
        have P5 := hide hr5
        have HP5 := hide (Nat.le_trans B4.out.size hp5)
        clear hr5 hb5 hp5 R4
        go_wp2_with (fail)
        generalize (fun b => w4.heap.size ≤ b ∧ b < p5) = D at *
        obtain ⟨wo, rfl⟩ : ∃ wo : World, wo = wr := ⟨_, rfl⟩
        go_loopw [7] (BB2Rel p5 D ops i w) (fun i _ => n - (intOf i).toNat)
        case atStart => exact ⟨0, Nat.zero_le _, rfl, P5.out, B5.out⟩
        case round =>
          obtain ⟨j, hj, rfl, hr, hbb⟩ := hrel
          by_cases hlt : j < i
          · obtain ⟨hj1, hj2⟩ := (HCS.out j hj).1 hlt
            have hjl : j < ops.length := by have := HN.out; omega
            obtain ⟨post, hpost⟩ := encs_mid ops j hjl i hlt HN.out.1
            have hsucc := hide (encs_succ ops j hjl)
            obtain ⟨b, o, A', n', c', rfl, d0, d1, d2, d3, hrd, hk1, hk2, hk3⟩ := HO.out.2.2.2 j ops[j] (List.getElem?_eq_getElem hjl)
            generalize ops[j] = op at *
            obtain ⟨kd, on, ov, ob⟩ := op
            simp only at d0 d1 d2 d3 hrd hk1 hk2 hk3
            have c0 := (hbb.out.cell (lt_cell d0)).trans d0
            have c1 := (hbb.out.cell (lt_cell d1)).trans d1
            have c2 := (hbb.out.cell (lt_cell d2)).trans d2
            have c3 := (hbb.out.cell (lt_cell d3)).trans d3
            have hj0 : (0 : Int) ≤ (j : Int) := by omega
            have hj3 : (j : Int) < (n : Int) := by omega
            have hm' := hrd.lenmax
            have hl' := hide (RdB.length hrd)
            have HRD := hide hrd
            have HPOST := hide hpost
            have R2 := hide (hr.out.below ((Below.refl _ _).alloc (Nat.le_refl _) (.cells #[.int .i64 kd, .int .i64 on, .int .u32 ov, .slice A' n' c'] 32)))
            have B2 := hide (hbb.out.alloc hbb.out.size (.cells #[.int .i64 kd, .int .i64 on, .int .u32 ov, .slice A' n' c'] 32))
            have C0 : Hid (∀ k u, (#[Value.int .i64 kd, .int .i64 on, .int .u32 ov, .slice A' n' c'] : Array Value)[k]? = some u → (wr.alloc (.cells #[.int .i64 kd, .int .i64 on, .int .u32 ov, .slice A' n' c'] 32)).cell? ⟨wr.heap.size, k, none⟩ = some u) := fun k u h => cell_new rfl h
            have hpq := hide (show p5 < wr.heap.size from hr.out.lt)
            clear d0 d1 d2 d3 hrd hpost
            rcases (show kd = 1 ∨ (kd ≠ 1 ∧ kd = 2 ∧ n' ≤ 200) ∨ (kd ≠ 1 ∧ kd = 2 ∧ ¬ n' ≤ 200) ∨ (kd ≠ 1 ∧ kd ≠ 2) by omega) with hk | ⟨hk, hkk, hk200⟩ | ⟨hk, hkk, hk200⟩ | ⟨hk, hkk⟩
            · have HE : Hid (enc1 ⟨kd, on, ov, ob⟩ = Pl.bitsOf ov (cl32 on)) := by unfold Hid enc1; rw [if_pos hk]
              have hkb : (kd == 1) = true := by simp [hk]
              clear hk
              have hcl := cl32_val on
              have hm32 := cl32_le on
              have hlen1 := Pl.bitsOf_length ov (cl32 on)
              have kI := fun W (h : Rr W p5 D (Pl.pack (encs ops i)) (encs ops j).length 0) => rbits_any (D := D) p5 (Pl.pack (encs ops i)) (encs ops j).length 0 on W h
              have hin := rd_in (Pl.pack (encs ops i)) (encs ops j).length (cl32 on) (by
                rw [Pl.pack_length, HPOST.out, HE.out, List.length_append, List.length_append, hlen1]
                omega)
              have hmid := bitsAt_mid (encs ops j) (enc1 ⟨kd, on, ov, ob⟩) post
              rw [← HPOST.out, HE.out, hlen1] at hmid
              rw [hin.1, hin.2.1, hin.2.2, hmid, Pl.num_bitsOf] at kI
              have HSL := hide (show (encs ops (j + 1)).length = (encs ops j).length + cl32 on by rw [hsucc.out, HE.out, List.length_append, hlen1])
              clear hin hmid hlen1
              generalize cl32 on = m at *
              rw [← HSL.out] at kI
              have KI := hide kI
              have hov : 0 ≤ ov ∧ ov < 18446744073709551616 := by omega
              rcases (show (32 < on ∧ m = 32) ∨ (on ≤ 32 ∧ 0 < on ∧ on.toNat = m) ∨ (on ≤ 32 ∧ on ≤ 0 ∧ m = 0) by omega) with ⟨ho1, hom⟩ | ⟨ho1, ho2, hom⟩ | ⟨ho1, ho2, hom⟩
              all_goals
                clear hcl
                go_wp2_with (fail)
                generalize wr.alloc (.cells #[.int .i64 kd, .int .i64 on, .int .u32 ov, .slice A' n' c'] 32) = W0 at *
                have S1 := hide (show W0.drew.cell? ⟨wr.heap.size, 1, none⟩ = some (.int .i64 on) ∧ W0.drew.cell? ⟨wr.heap.size, 2, none⟩ = some (.int .u32 ov) from ⟨C0.out 1 _ rfl, C0.out 2 _ rfl⟩)
                have kp : Hid (∀ W', Upd p5 none W0.drew W' → W'.cell? ⟨wr.heap.size, 1, none⟩ = some (.int .i64 on) ∧ W'.cell? ⟨wr.heap.size, 2, none⟩ = some (.int .u32 ov)) := fun W' u =>
                  ⟨(u.cell (a := ⟨wr.heap.size, 1, none⟩) (lt_cell S1.out.1) (by have := hpq.out; simp only; omega) (by simp)).trans S1.out.1, (u.cell (a := ⟨wr.heap.size, 2, none⟩) (lt_cell S1.out.2) (by have := hpq.out; simp only; omega) (by simp)).trans S1.out.2⟩
                have hz := hide (show w.heap.size ≤ W0.drew.heap.size from B2.out.size)
                have R2d := hide (show Rr W0.drew p5 D (Pl.pack (encs ops i)) (encs ops j).length 0 from R2.out)
                go_region_held3 (fun w' => w'.cell? ⟨wr.heap.size, 1, none⟩ = some (.int .i64 on) ∧ w'.cell? ⟨wr.heap.size, 2, none⟩ = some (.int .u32 ov))
                  (first | with_reducible exact S1.out | with_reducible assumption | with_reducible exact kp.out _ ‹_›)
                  ((go_at_call 32; (with_reducible refine (KI.out _ R2d.out).mono ?_); rintro en w9 ⟨rfl, hr9, hu9⟩))
                all_goals
                  have R9 := hide hr9
                  have B9 := hide (B2.out.drew.trans (hu9.below (B := w.heap.size) HP5.out (fun _ e => by cases e) hz.out))
                  clear hr9 hu9
                  go_wp2_with (fail)
                all_goals
                  first
                    | (exfalso
                       have hne := (by assumption : (_ != bits BinOp.and IntKind.u64 _ _) = true)
                       rw [mask_eq ov _ m (by omega) (by rw [IntKind.wrap_u64]; omega) hov.1 hov.2] at hne
                       simp [hom] at hne
                       done)
                    | (go_roundw
                       case rel => exact ⟨j + 1, by omega, by go_num, R9.out, B9.out⟩
                       case measure => simp [intOf]; omega)
            · have HE : Hid (enc1 ⟨kd, on, ov, ob⟩ = Pl.octB ob) := by unfold Hid enc1; rw [if_neg hk, if_pos hkk, if_pos (by have := hl'.out; simp only; omega)]
              have hkb : (kd == 1) = false := by simp [hk]
              have hkb2 : (kd == 2) = true := by simp [hkk]
              clear hk hkk
              have hob := Pl.octB_length ob
              have hclo : clOct (n' : Int) = ob.length := by unfold clOct; have := hl'.out; omega
              have kI := fun W (h : Rr W p5 D (Pl.pack (encs ops i)) (encs ops j).length 0) => rocts_any (D := D) p5 (Pl.pack (encs ops i)) (encs ops j).length 0 (n' : Int) W h (by omega)
              have hin := rd_in (Pl.pack (encs ops i)) (encs ops j).length (8 * ob.length) (by
                rw [Pl.pack_length, HPOST.out, HE.out, List.length_append, List.length_append, hob]
                omega)
              have hmid := octsAt_mid (encs ops j) post ob
              rw [← HE.out, ← HPOST.out] at hmid
              have ho : Pl.rdO (Pl.pack (encs ops i)) (encs ops j).length 0 ob.length = ob := by
                unfold Pl.rdO
                rw [hin.1, if_pos rfl, hmid]
              rw [hclo, hin.1, hin.2.1, ho] at kI
              have HSL := hide (show (encs ops (j + 1)).length = (encs ops j).length + 8 * ob.length by rw [hsucc.out, HE.out, List.length_append, hob])
              rw [← HSL.out] at kI
              have KI := hide kI
              clear hob hclo hin hmid ho kI
              have hd200 : decide ((n' : Int) ≤ 200) = true := by simp; omega
              go_wp2_with (fail)
              generalize wr.alloc (.cells #[.int .i64 kd, .int .i64 on, .int .u32 ov, .slice A' n' c'] 32) = W0 at *
              have S1 := hide (show W0.drew.cell? ⟨wr.heap.size, 3, none⟩ = some (.slice A' n' c') from C0.out 3 _ rfl)
              have kp : Hid (∀ W', Upd p5 none W0.drew W' → W'.cell? ⟨wr.heap.size, 3, none⟩ = some (.slice A' n' c')) := fun W' u =>
                (u.cell (a := ⟨wr.heap.size, 3, none⟩) (lt_cell S1.out) (by have := hpq.out; simp only; omega) (by simp)).trans S1.out
              have hz := hide (show w.heap.size ≤ W0.drew.heap.size from B2.out.size)
              have R2d := hide (show Rr W0.drew p5 D (Pl.pack (encs ops i)) (encs ops j).length 0 from R2.out)
              have B2d := hide (show Below w.heap.size w W0.drew from B2.out.drew)
              go_region_held3 (fun w' => w'.cell? ⟨wr.heap.size, 3, none⟩ = some (.slice A' n' c'))
                (first | with_reducible exact S1.out | with_reducible exact kp.out _ ‹_› | with_reducible assumption)
                (first
                  | (go_at_call 48; (with_reducible refine (KI.out _ R2d.out).mono ?_); rintro en w9 ⟨A9, n9, c9, rfl, hr9, hu9, ho9⟩; have R9 := hide hr9; have O9 := hide (Rd.of_own ho9); have hcell9 := kp.out _ hu9; have B9 := hide (B2d.out.trans (hu9.below (B := w.heap.size) HP5.out (fun _ e => by cases e) hz.out)); clear hr9 ho9 hu9)
                  | (go_at_call 29; (with_reducible refine (sameBytes_any _ _ _ _ _ _ _ _ _ O9.out (HRD.out.below B9.out (Nat.le_refl _))).mono ?_); rintro en w8 ⟨rfl, rfl⟩))
              all_goals
                go_wp2
                go_roundw
                case rel => exact ⟨j + 1, by omega, by go_num, R9.out, B9.out⟩
                case measure => simp [intOf]; omega
            · have HE : Hid (enc1 ⟨kd, on, ov, ob⟩ = []) := by unfold Hid enc1; rw [if_neg hk, if_pos hkk, if_neg (by have := hl'.out; simp only; omega)]
              have hkb : (kd == 1) = false := by simp [hk]
              have hkb2 : (kd == 2) = true := by simp [hkk]
              clear hk hkk
              have HSL := hide (show (encs ops (j + 1)).length = (encs ops j).length by rw [hsucc.out, HE.out, List.length_append]; rfl)
              have hd200 : decide ((n' : Int) ≤ 200) = false := by simp; omega
              have R3 := R2.out
              rw [← HSL.out] at R3
              have R3 := hide R3
              have a3 := C0.out 3 _ rfl
              simp only [List.getElem_toArray, List.getElem_cons_succ, List.getElem_cons_zero] at a3
              go_wp2_with (fail)
              go_quiet (fail)
              go_wp2
              go_roundw
              case rel => exact ⟨j + 1, by omega, by go_num, R3.out.drewN _, below_drewN _ B2.out⟩
              case measure => simp [intOf]; omega
            · have HE : Hid (enc1 ⟨kd, on, ov, ob⟩ = [decide (on ≠ 0)]) := by unfold Hid enc1; rw [if_neg hk, if_neg hkk]
              have hkb : (kd == 1) = false := by simp [hk]
              have hkb2 : (kd == 2) = false := by simp [hkk]
              clear hk hkk
              have kI := fun W (h : Rr W p5 D (Pl.pack (encs ops i)) (encs ops j).length 0) => rbit_any (D := D) p5 (Pl.pack (encs ops i)) (encs ops j).length 0 W h
              have hin := rd_in (Pl.pack (encs ops i)) (encs ops j).length 1 (by
                rw [Pl.pack_length, HPOST.out, HE.out, List.length_append, List.length_append, List.length_singleton]
                omega)
              have hmid := bitsAt_mid (encs ops j) [decide (on ≠ 0)] post
              rw [← HE.out, ← HPOST.out, HE.out, List.length_singleton] at hmid
              rw [hin.1, hin.2.1, hin.2.2, hmid] at kI
              have HSL := hide (show (encs ops (j + 1)).length = (encs ops j).length + 1 by rw [hsucc.out, HE.out, List.length_append, List.length_singleton])
              rw [← HSL.out] at kI
              have hnv : Pl.num [decide (on ≠ 0)] = if on = 0 then 0 else 1 := by
                by_cases h0 : on = 0 <;> simp [h0, Pl.num]
              rw [hnv] at kI
              clear hin hmid hnv
              by_cases h0 : on = 0
              all_goals
                first
                  | (rw [if_pos h0] at kI; have hn0 : (on != 0) = false := by simp [h0])
                  | (rw [if_neg h0] at kI; have hn0 : (on != 0) = true := by simp [h0])
                have KI := hide kI
                clear kI h0
                go_wp2_with (fail)
                generalize wr.alloc (.cells #[.int .i64 kd, .int .i64 on, .int .u32 ov, .slice A' n' c'] 32) = W0 at *
                have S1 := hide (show W0.drew.cell? ⟨wr.heap.size, 1, none⟩ = some (.int .i64 on) from C0.out 1 _ rfl)
                have kp : Hid (∀ W', Upd p5 none W0.drew W' → W'.cell? ⟨wr.heap.size, 1, none⟩ = some (.int .i64 on)) := fun W' u =>
                  (u.cell (a := ⟨wr.heap.size, 1, none⟩) (lt_cell S1.out) (by have := hpq.out; simp only; omega) (by simp)).trans S1.out
                have hz := hide (show w.heap.size ≤ W0.drew.heap.size from B2.out.size)
                have R2d := hide (show Rr W0.drew p5 D (Pl.pack (encs ops i)) (encs ops j).length 0 from R2.out)
                go_region_held3 (fun w' => w'.cell? ⟨wr.heap.size, 1, none⟩ = some (.int .i64 on))
                  (first | with_reducible exact S1.out | with_reducible assumption | with_reducible exact kp.out _ ‹_›)
                  ((go_at_call 47; (with_reducible refine (KI.out _ R2d.out).mono ?_); rintro en w9 ⟨rfl, hr9, hu9⟩))
                all_goals
                  have R9 := hide hr9
                  have B9 := hide (B2.out.drew.trans (hu9.below (B := w.heap.size) HP5.out (fun _ e => by cases e) hz.out))
                  clear hr9 hu9
                  go_wp2
                  go_roundw
                  case rel => exact ⟨j + 1, by omega, by go_num, R9.out, B9.out⟩
                  case measure => simp [intOf]; omega
          · obtain ⟨rfl, hex3⟩ := (HCS.out j hj).2 hlt
            clear hlt
            have hend := Pl.end_pack (encs ops j)
            have hleft : Pl.left (Pl.pack (encs ops j)) (encs ops j).length < 8 := by
              unfold Pl.left
              rw [Pl.pack_length]
              omega
            have kE := hide (rErr_any _ _ _ _ _ hr.out)
            have kN := rEnd_any _ _ _ _ _ hr.out
            rw [hend] at kN
            have KN := hide kN
            have KL := hide (fun W hb => rLeftB_any _ _ _ _ W (hr.out.below hb))
            clear hend kN
            generalize Pl.left (Pl.pack (encs ops j)) (encs ops j).length = L at *
            rcases hex3 with hex3 | ⟨hex3, hex4⟩
            all_goals
              first
                | (exfalso; omega)
                | (go_wp2_with (fail)
                   refine kE.out.mono ?_
                   rintro en w9 ⟨rfl, rfl⟩
                   go_wp2_with (fail)
                   refine KN.out.mono ?_
                   rintro en w9 ⟨rfl, hb9⟩
                   have B9 := hide (hbb.out.trans (hb9.mono hbb.out.size))
                   have kl := hide (KL.out _ hb9)
                   clear hb9
                   go_wp2_with (fail)
                   refine kl.out.mono ?_
                   rintro en w8 ⟨rfl, q8, rfl⟩
                   go_wp2
                   go_ret
                   exact ⟨rfl, below_drewN q8 B9.out⟩)
end Go.Proofs.Ytikfogepdmpfaaa
