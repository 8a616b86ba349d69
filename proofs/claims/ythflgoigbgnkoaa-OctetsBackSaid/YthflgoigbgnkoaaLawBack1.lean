import Derived.Test.YthflgoigbgnkoaaBackKit
namespace Go.Proofs.Ythflgoigbgnkoaa
open Go.RowKit

set_option maxHeartbeats 3200000 in
theorem octetsBack_main1 (v u : Int) (A1 : Option Addr) (n1 c1 : Nat) (raw : List UInt8) (A2 : Option Addr) (n2 c2 : Nat) (more : List UInt8) (w : World)
    (v0 : -9223372036854775808 ≤ v) (v1 : v ≤ 9223372036854775807) (u0 : 0 ≤ u) (u1 : u < 18446744073709551616) (h1 : Rd w A1 n1 c1 (bv raw)) (h2 : Rd w A2 n2 c2 (bv more)) (g1 : n1 ≤ 300) (g2 : n2 ≤ 300) (hse : takeSE raw = 0) (hge : (tg 0 0 raw).2.2 = 0) :
    Calls Try.prog 13 #[.int .i64 v, .int .u64 u, .slice A1 n1 c1, .slice A2 n2 c2] w fun e w' => e = .returned (.bool true) ∧ Below w.heap.size w w' := by
  obtain ⟨i0, hi, hz0, hz1, hz2⟩ := info_parts Try.info_byte
  have hcap1 := h1.cap
  have hl1 := hide (RdB.length h1)
  have H1 := hide h1
  have H2 := hide h2
  clear h1 h2
  have hb3 := (Pl.dlenF_bd 128 9 u).2
  have k1 := hide (fun w => signed_any v w)
  have k3 := hide (fun w => unsigned_any u u0 w)
  have k5 := hide (fun w => groups_any u u0 u1 w)
  have hts := takeS_be v v0 v1
  have htu := takeU_be u u0 u1
  have htg := tg_groups u u0 u1 more
  have k2 := hide (fun A n c w h => takeSigned_any A n c (Pl.be (Pl.slenF 7 v) v) w h)
  have k4 := hide (fun A n c w h => takeUnsigned_any A n c (Pl.be (Pl.dlenF 256 7 u) u) w h)
  have k6 := hide (fun A n c w h => takeGroups_any A n c (Pl.gr (Pl.dlenF 128 9 u) u ++ more) w h)
  rw [hts.1, hts.2] at k2
  rw [htu.1, htu.2] at k4
  rw [htg] at k6
  simp only at k6
  clear hts htu htg
  have kS := hide (fun (he : takeSE raw = 0) w => (signed_any (takeSV raw) w).mono (fun e w' ⟨A, c, hr, hf⟩ => (⟨A, _, c, hr, by rw [takeS_own raw he] at hf; exact hf.later, hf.below⟩ : ∃ A n c, e = Ending.returned (.slice A n c) ∧ (∀ w'', Below w'.heap.size w' w'' → Rd w'' A n c (bv raw)) ∧ Below w.heap.size w w')))
  have kU := hide (fun (he : takeUE raw = 0) w => (unsigned_any (takeUV raw) (takeUV_bd raw).1 w).mono (fun e w' ⟨A, c, hr, hf⟩ => (⟨A, _, c, hr, by rw [takeU_own raw he] at hf; exact hf.later, hf.below⟩ : ∃ A n c, e = Ending.returned (.slice A n c) ∧ (∀ w'', Below w'.heap.size w' w'' → Rd w'' A n c (bv raw)) ∧ Below w.heap.size w w')))
  have kG : Hid ((tg 0 0 raw).2.2 = 0 → ∃ j : Nat, 1 ≤ j ∧ j ≤ n1 ∧ (tg 0 0 raw).2.1 = (j : Int) ∧ ∀ w, Calls Try.prog 23 #[.int .u64 (tg 0 0 raw).1] w (fun e w' => ∃ A n c, e = Ending.returned (.slice A n c) ∧ (∀ w'', Below w'.heap.size w' w'' → Rd w'' A n c (bv (raw.take j))) ∧ Below w.heap.size w w')) := by
    intro he
    obtain ⟨r0, r1, j, j1, j2, hm, hd, hg⟩ := tg_own raw (tg 0 0 raw).1 (tg 0 0 raw).2.1 (Prod.ext rfl (Prod.ext rfl he))
    refine ⟨j, j1, by rw [hl1.out]; exact j2, hm, fun w => (groups_any (tg 0 0 raw).1 r0 r1 w).mono (fun e w' ⟨A, c, hr, hf⟩ => ⟨A, _, c, hr, ?_, hf.below⟩)⟩
    rw [hd, hg] at hf
    rw [hd]
    exact hf.later
  have kr1 := hide (fun A n c w h => takeSigned_any A n c raw w h)
  have kr2 := hide (fun A n c w h => takeUnsigned_any A n c raw w h)
  have kr3 := hide (fun A n c w h => takeGroups_any A n c raw w h)
  generalize takeSV raw = sv at *
  generalize takeSE raw = se at *
  generalize takeUV raw = uv at *
  generalize takeUE raw = ue at *
  generalize (tg 0 0 raw).1 = gv at *
  generalize (tg 0 0 raw).2.1 = gn at *
  generalize (tg 0 0 raw).2.2 = ge at *
  generalize Pl.slenF 7 v = s1 at *
  generalize Pl.be s1 v = x1 at *
  generalize Pl.dlenF 256 7 u = s2 at *
  generalize Pl.be s2 u = x2 at *
  generalize Pl.dlenF 128 9 u = s3 at *
  generalize Pl.gr s3 u = x3 at *
  go_enter Try.func13, Try.ntmps13
  go_wp2_with (fail)
  refine (k1.out _).mono ?_
  rintro e w1 ⟨A3, c3, rfl, hf⟩
  have R1 := hide (And.intro (H1.out.below hf.below (Nat.le_refl _)) (And.intro (H2.out.below hf.below (Nat.le_refl _)) hf.below))
  have hrd := hf.rd
  clear hf
  go_wp2_with (fail)
  refine (k2.out _ _ _ _ hrd).mono ?_
  rintro e w2 ⟨rfl, hb⟩
  have R2 := hide (And.intro (R1.out.1.below hb (Nat.le_refl _)) (And.intro (R1.out.2.1.below hb (Nat.le_refl _)) (below_next R1.out.2.2 hb)))
  clear hrd hb R1
  go_wp2_with (fail)
  refine (k3.out _).mono ?_
  rintro e w3 ⟨A4, c4, rfl, hf⟩
  have hrd := hf.rd
  have hb := hf.below
  have R3 := hide (And.intro (R2.out.1.below hb (Nat.le_refl _)) (And.intro (R2.out.2.1.below hb (Nat.le_refl _)) (below_next R2.out.2.2 hb)))
  clear hf hb R2
  go_wp2_with (fail)
  refine (k4.out _ _ _ _ hrd).mono ?_
  rintro e w4 ⟨rfl, rfl⟩
  clear hrd
  go_wp2_with (fail)
  refine (k5.out _).mono ?_
  rintro e w4 ⟨A5, c5, rfl, hf⟩
  have hrd := hf.rd
  have hb := hf.below
  have R4 := hide (And.intro (R3.out.1.below hb (Nat.le_refl _)) (And.intro (R3.out.2.1.below hb (Nat.le_refl _)) (below_next R3.out.2.2 hb)))
  clear hf hb R3
  go_wp2_with (fail)
  refine (copyBytes_any _ _ _ _ _ hrd (by omega)).mono ?_
  rintro e w5 ⟨A6, c6, rfl, hf⟩
  have hb := hf.below
  have hown := hf.1
  have R5 := hide (And.intro (R4.out.1.below hb (Nat.le_refl _)) (And.intro (R4.out.2.1.below hb (Nat.le_refl _)) (below_next R4.out.2.2 hb)))
  have hbs := hb.size
  have hb5 := hide hb
  clear hf hb hrd
  go_wp2_with (at_builtin; refine wpList_app _ rfl (.tmp 49) (.tmp 50) _ rfl w4.heap.size 5 i0 (.int .u8 0) 1 Try.underlying27 hi hz0 hz1 hz2 rfl _ _ _ rfl hown _ _ _ _ rfl R5.out.2.1 (bv_one _) ?_ (by omega) hbs ?_)
  · omega
  intro A7 c7 w6 hown6 hg6 hl6
  have hb45 : Below w4.heap.size w4 w6 := hb5.out.grown hg6 hbs (fun j hj => (hown.lt j hj).1)
  have R6 := hide (And.intro (R4.out.1.below hb45 (Nat.le_refl _)) (below_next R4.out.2.2 hb45))
  have hrd6 := Rd.of_own hown6
  rw [← bv_append] at hrd6
  clear hown hown6 hg6 hl6 hb45 hbs hb5 R5 R4
  go_wp2_with (fail)
  refine (k6.out _ _ _ _ hrd6).mono ?_
  rintro e w7 ⟨rfl, rfl⟩
  clear hrd6
  go_wp2_with (fail)
  refine (awake02_any _).mono ?_
  rintro e w7 ⟨rfl, hb7⟩
  have R7 := hide (keepRaw R6.out hb7)
  clear R6 hb7
  go_wp2_with (fail)
  refine (kr1.out _ _ _ _ R7.out.1).mono ?_
  rintro e w8 ⟨rfl, hb8⟩
  have R8 := hide (keepRaw R7.out hb8)
  clear R7 hb8
  go_wp2_with (fail)
  refine (kr2.out _ _ _ _ R8.out.1).mono ?_
  rintro e w9 ⟨rfl, rfl⟩
  go_wp2_with (fail)
  refine (kr3.out _ _ _ _ R8.out.1).mono ?_
  rintro e w9 ⟨rfl, rfl⟩
  have R9 := hide (And.intro R8.out.1.drew R8.out.2.drew)
  clear R8
  clear k1 k2 k3 k4 k5 k6 kr1 kr2 kr3 H1 H2
  go_wp2
  have hcases : ((se != 0) = false) ∧ ((ue != 0) = true ∨ (ue != 0) = false) := by
    constructor
    · simp [hse]
    · cases (ue != 0) <;> simp
  obtain ⟨hcs, hcu⟩ := hcases
  have kS1 : Hid ((se != 0) = false → ∀ w, Calls Try.prog 21 #[.int .i64 sv] w fun e w' => ∃ A n c, e = Ending.returned (.slice A n c) ∧ (∀ w'', Below w'.heap.size w' w'' → Rd w'' A n c (bv raw)) ∧ Below w.heap.size w w') := fun h => kS.out (by simpa using h)
  have kU1 : Hid ((ue != 0) = false → ∀ w, Calls Try.prog 22 #[.int .u64 uv] w fun e w' => ∃ A n c, e = Ending.returned (.slice A n c) ∧ (∀ w'', Below w'.heap.size w' w'' → Rd w'' A n c (bv raw)) ∧ Below w.heap.size w w') := fun h => kU.out (by simpa using h)
  clear kS kU
  obtain ⟨j, j1, j2, rfl, kG1⟩ := kG.out hge
  have KG := hide kG1
  have hgb : (ge != 0) = false := by simp [hge]
  clear hge kG kG1
  have j3 : (j : Int) ≤ (n1 : Int) := by omega
  have j4 : (j : Int) ≤ (c1 : Int) := by omega
  have j1' : (1 : Int) ≤ (j : Int) := by omega
  rcases hcu with hcu | hcu
  · skip
    refine wp_region_noPanic ?_
    refine wp_region_held_drew (S := (fun w' => Rd w' A1 n1 c1 (bv raw) ∧ Below w.heap.size w w')) (by kernel_rfl) R9.out (fun hHeld => ?_)
    try dsimp only at hHeld
    first
      | refine takeD (i := 0) (v := undef) 107 rfl rfl (by kernel_rfl) (by kernel_rfl) (by kernel_rfl) (fun _ _ _ h => h) (Or.inr ⟨by rfl, rfl⟩) hHeld ?_
      | (refine takeD (i := 0) (v := ?va0) 107 rfl rfl (by kernel_rfl) (by kernel_rfl) (by kernel_rfl) (fun _ _ _ h => h) (Or.inl ⟨by rfl, ?hya0⟩) hHeld ?resta0
         case hya0 => (intro w hSw; (try dsimp only at hSw); go_simp; try with_reducible rfl))
      | fail
    try simp only [Act.put, List.setIfInBounds_toArray, List.set_cons_zero, List.set_cons_succ]
    first
      | refine takeD (i := 1) (v := undef) 108 rfl rfl (by kernel_rfl) (by kernel_rfl) (by kernel_rfl) (fun _ _ _ h => h) (Or.inr ⟨by rfl, rfl⟩) hHeld ?_
      | (refine takeD (i := 1) (v := ?va1) 108 rfl rfl (by kernel_rfl) (by kernel_rfl) (by kernel_rfl) (fun _ _ _ h => h) (Or.inl ⟨by rfl, ?hya1⟩) hHeld ?resta1
         case hya1 => (intro w hSw; (try dsimp only at hSw); go_simp; try with_reducible rfl))
      | fail
    try simp only [Act.put, List.setIfInBounds_toArray, List.set_cons_zero, List.set_cons_succ]
    first
      | refine takeD (i := 2) (v := undef) 109 rfl rfl (by kernel_rfl) (by kernel_rfl) (by kernel_rfl) (fun _ _ _ h => h) (Or.inr ⟨by rfl, rfl⟩) hHeld ?_
      | (refine takeD (i := 2) (v := ?va2) 109 rfl rfl (by kernel_rfl) (by kernel_rfl) (by kernel_rfl) (fun _ _ _ h => h) (Or.inl ⟨by rfl, ?hya2⟩) hHeld ?resta2
         case hya2 => (intro w hSw; (try dsimp only at hSw); go_simp; try with_reducible rfl))
      | fail
    try simp only [Act.put, List.setIfInBounds_toArray, List.set_cons_zero, List.set_cons_succ]
    first
      | refine takeD (i := 3) (v := undef) 110 rfl rfl (by kernel_rfl) (by kernel_rfl) (by kernel_rfl) (fun _ _ _ h => h) (Or.inr ⟨by rfl, rfl⟩) hHeld ?_
      | (refine takeD (i := 3) (v := ?va3) 110 rfl rfl (by kernel_rfl) (by kernel_rfl) (by kernel_rfl) (fun _ _ _ h => h) (Or.inl ⟨by rfl, ?hya3⟩) hHeld ?resta3
         case hya3 => (intro w hSw; (try dsimp only at hSw); go_simp; try with_reducible rfl))
      | fail
    try simp only [Act.put, List.setIfInBounds_toArray, List.set_cons_zero, List.set_cons_succ]
    first
      | refine takeD (i := 5) (v := undef) 112 rfl rfl (by kernel_rfl) (by kernel_rfl) (by kernel_rfl) (fun _ _ _ h => h) (Or.inr ⟨by rfl, rfl⟩) hHeld ?_
      | (refine takeD (i := 5) (v := ?va5) 112 rfl rfl (by kernel_rfl) (by kernel_rfl) (by kernel_rfl) (fun _ _ _ h => h) (Or.inl ⟨by rfl, ?hya5⟩) hHeld ?resta5
         case hya5 => (intro w hSw; (try dsimp only at hSw); go_simp; try with_reducible rfl))
      | fail
    try simp only [Act.put, List.setIfInBounds_toArray, List.set_cons_zero, List.set_cons_succ]
    first
      | refine takeD (i := 4) (v := undef) 111 rfl rfl (by kernel_rfl) (by kernel_rfl) (by kernel_rfl) (fun _ _ _ h => h) (Or.inr ⟨by rfl, rfl⟩) hHeld ?_
      | (refine wpAnyH_ready (rs := [4]) (by kernel_rfl) (by simp) (AllReadyH.cons rfl (fun K hK => ?_) AllReadyH.nil)
         go_simp
         refine (kS1.out hcs _).mono ?_
         rintro e w9 ⟨A9, n9, c9, rfl, hf9, hb9⟩
         go_wp2_with (fail)
         refine hK.out _ _ (by exact keepRaw hHeld hb9) (fun hNew => ?_)
         clear hK K hHeld
         have hHeld := hNew
         clear hNew
         try dsimp only at hHeld)
      | fail
    try simp only [Act.put, List.setIfInBounds_toArray, List.set_cons_zero, List.set_cons_succ]
    first
      | refine takeD (i := 6) (v := undef) 113 rfl rfl (by kernel_rfl) (by kernel_rfl) (by kernel_rfl) (fun _ _ _ h => h) (Or.inr ⟨by rfl, rfl⟩) hHeld ?_
      | (refine wpAnyH_ready (rs := [6]) (by kernel_rfl) (by simp) (AllReadyH.cons rfl (fun K hK => ?_) AllReadyH.nil)
         go_simp
         refine (sameBytes_any _ _ _ _ _ _ raw raw _ (hf9 _ (Below.refl _ _)) hHeld.1).mono ?_
         rw [decide_eq_true (rfl : raw = raw)]
         rintro e w9 ⟨rfl, rfl⟩
         go_wp2_with (fail)
         refine hK.out _ _ (by exact hHeld) (fun hNew => ?_)
         clear hK K hHeld
         have hHeld := hNew
         clear hNew
         try dsimp only at hHeld)
      | fail
    try simp only [Act.put, List.setIfInBounds_toArray, List.set_cons_zero, List.set_cons_succ]
    first
      | refine takeD (i := 7) (v := undef) 114 rfl rfl (by kernel_rfl) (by kernel_rfl) (by kernel_rfl) (fun _ _ _ h => h) (Or.inr ⟨by rfl, rfl⟩) hHeld ?_
      | (refine takeD (i := 7) (v := ?va7) 114 rfl rfl (by kernel_rfl) (by kernel_rfl) (by kernel_rfl) (fun _ _ _ h => h) (Or.inl ⟨by rfl, ?hya7⟩) hHeld ?resta7
         case hya7 => (intro w hSw; (try dsimp only at hSw); go_simp; try with_reducible rfl))
      | fail
    try simp only [Act.put, List.setIfInBounds_toArray, List.set_cons_zero, List.set_cons_succ]
    first
      | refine takeD (i := 8) (v := undef) 115 rfl rfl (by kernel_rfl) (by kernel_rfl) (by kernel_rfl) (fun _ _ _ h => h) (Or.inr ⟨by rfl, rfl⟩) hHeld ?_
      | (refine takeD (i := 8) (v := ?va8) 115 rfl rfl (by kernel_rfl) (by kernel_rfl) (by kernel_rfl) (fun _ _ _ h => h) (Or.inl ⟨by rfl, ?hya8⟩) hHeld ?resta8
         case hya8 => (intro w hSw; (try dsimp only at hSw); go_simp; try with_reducible rfl))
      | fail
    try simp only [Act.put, List.setIfInBounds_toArray, List.set_cons_zero, List.set_cons_succ]
    first
      | refine takeD (i := 9) (v := undef) 116 rfl rfl (by kernel_rfl) (by kernel_rfl) (by kernel_rfl) (fun _ _ _ h => h) (Or.inr ⟨by rfl, rfl⟩) hHeld ?_
      | (refine takeD (i := 9) (v := ?va9) 116 rfl rfl (by kernel_rfl) (by kernel_rfl) (by kernel_rfl) (fun _ _ _ h => h) (Or.inl ⟨by rfl, ?hya9⟩) hHeld ?resta9
         case hya9 => (intro w hSw; (try dsimp only at hSw); go_simp; try with_reducible rfl))
      | fail
    try simp only [Act.put, List.setIfInBounds_toArray, List.set_cons_zero, List.set_cons_succ]
    first
      | refine takeD (i := 10) (v := undef) 117 rfl rfl (by kernel_rfl) (by kernel_rfl) (by kernel_rfl) (fun _ _ _ h => h) (Or.inr ⟨by rfl, rfl⟩) hHeld ?_
      | (refine takeD (i := 10) (v := ?va10) 117 rfl rfl (by kernel_rfl) (by kernel_rfl) (by kernel_rfl) (fun _ _ _ h => h) (Or.inl ⟨by rfl, ?hya10⟩) hHeld ?resta10
         case hya10 => (intro w hSw; (try dsimp only at hSw); go_simp; try with_reducible rfl))
      | fail
    try simp only [Act.put, List.setIfInBounds_toArray, List.set_cons_zero, List.set_cons_succ]
    first
      | refine takeD (i := 11) (v := undef) 118 rfl rfl (by kernel_rfl) (by kernel_rfl) (by kernel_rfl) (fun _ _ _ h => h) (Or.inr ⟨by rfl, rfl⟩) hHeld ?_
      | (refine takeD (i := 11) (v := ?va11) 118 rfl rfl (by kernel_rfl) (by kernel_rfl) (by kernel_rfl) (fun _ _ _ h => h) (Or.inl ⟨by rfl, ?hya11⟩) hHeld ?resta11
         case hya11 => (intro w hSw; (try dsimp only at hSw); go_simp; try with_reducible rfl))
      | fail
    try simp only [Act.put, List.setIfInBounds_toArray, List.set_cons_zero, List.set_cons_succ]
    first
      | refine takeD (i := 12) (v := undef) 119 rfl rfl (by kernel_rfl) (by kernel_rfl) (by kernel_rfl) (fun _ _ _ h => h) (Or.inr ⟨by rfl, rfl⟩) hHeld ?_
      | (refine takeD (i := 12) (v := ?va12) 119 rfl rfl (by kernel_rfl) (by kernel_rfl) (by kernel_rfl) (fun _ _ _ h => h) (Or.inl ⟨by rfl, ?hya12⟩) hHeld ?resta12
         case hya12 => (intro w hSw; (try dsimp only at hSw); go_simp; try with_reducible rfl))
      | fail
    try simp only [Act.put, List.setIfInBounds_toArray, List.set_cons_zero, List.set_cons_succ]
    first
      | refine takeD (i := 14) (v := undef) 121 rfl rfl (by kernel_rfl) (by kernel_rfl) (by kernel_rfl) (fun _ _ _ h => h) (Or.inr ⟨by rfl, rfl⟩) hHeld ?_
      | (refine takeD (i := 14) (v := ?va14) 121 rfl rfl (by kernel_rfl) (by kernel_rfl) (by kernel_rfl) (fun _ _ _ h => h) (Or.inl ⟨by rfl, ?hya14⟩) hHeld ?resta14
         case hya14 => (intro w hSw; (try dsimp only at hSw); go_simp; try with_reducible rfl))
      | fail
    try simp only [Act.put, List.setIfInBounds_toArray, List.set_cons_zero, List.set_cons_succ]
    first
      | refine takeD (i := 13) (v := undef) 120 rfl rfl (by kernel_rfl) (by kernel_rfl) (by kernel_rfl) (fun _ _ _ h => h) (Or.inr ⟨by rfl, rfl⟩) hHeld ?_
      | (refine wpAnyH_ready (rs := [13]) (by kernel_rfl) (by simp) (AllReadyH.cons rfl (fun K hK => ?_) AllReadyH.nil)
         go_simp
         refine (kU1.out hcu _).mono ?_
         rintro e w9 ⟨A9, n9, c9, rfl, hf9, hb9⟩
         go_wp2_with (fail)
         refine hK.out _ _ (by exact keepRaw hHeld hb9) (fun hNew => ?_)
         clear hK K hHeld
         have hHeld := hNew
         clear hNew
         try dsimp only at hHeld)
      | fail
    try simp only [Act.put, List.setIfInBounds_toArray, List.set_cons_zero, List.set_cons_succ]
    first
      | refine takeD (i := 15) (v := undef) 122 rfl rfl (by kernel_rfl) (by kernel_rfl) (by kernel_rfl) (fun _ _ _ h => h) (Or.inr ⟨by rfl, rfl⟩) hHeld ?_
      | (refine wpAnyH_ready (rs := [15]) (by kernel_rfl) (by simp) (AllReadyH.cons rfl (fun K hK => ?_) AllReadyH.nil)
         go_simp
         refine (sameBytes_any _ _ _ _ _ _ raw raw _ (hf9 _ (Below.refl _ _)) hHeld.1).mono ?_
         rw [decide_eq_true (rfl : raw = raw)]
         rintro e w9 ⟨rfl, rfl⟩
         go_wp2_with (fail)
         refine hK.out _ _ (by exact hHeld) (fun hNew => ?_)
         clear hK K hHeld
         have hHeld := hNew
         clear hNew
         try dsimp only at hHeld)
      | fail
    try simp only [Act.put, List.setIfInBounds_toArray, List.set_cons_zero, List.set_cons_succ]
    first
      | refine takeD (i := 16) (v := undef) 123 rfl rfl (by kernel_rfl) (by kernel_rfl) (by kernel_rfl) (fun _ _ _ h => h) (Or.inr ⟨by rfl, rfl⟩) hHeld ?_
      | (refine takeD (i := 16) (v := ?va16) 123 rfl rfl (by kernel_rfl) (by kernel_rfl) (by kernel_rfl) (fun _ _ _ h => h) (Or.inl ⟨by rfl, ?hya16⟩) hHeld ?resta16
         case hya16 => (intro w hSw; (try dsimp only at hSw); go_simp; try with_reducible rfl))
      | fail
    try simp only [Act.put, List.setIfInBounds_toArray, List.set_cons_zero, List.set_cons_succ]
    first
      | refine takeD (i := 17) (v := undef) 124 rfl rfl (by kernel_rfl) (by kernel_rfl) (by kernel_rfl) (fun _ _ _ h => h) (Or.inr ⟨by rfl, rfl⟩) hHeld ?_
      | (refine takeD (i := 17) (v := ?va17) 124 rfl rfl (by kernel_rfl) (by kernel_rfl) (by kernel_rfl) (fun _ _ _ h => h) (Or.inl ⟨by rfl, ?hya17⟩) hHeld ?resta17
         case hya17 => (intro w hSw; (try dsimp only at hSw); go_simp; try with_reducible rfl))
      | fail
    try simp only [Act.put, List.setIfInBounds_toArray, List.set_cons_zero, List.set_cons_succ]
    first
      | refine takeD (i := 18) (v := undef) 125 rfl rfl (by kernel_rfl) (by kernel_rfl) (by kernel_rfl) (fun _ _ _ h => h) (Or.inr ⟨by rfl, rfl⟩) hHeld ?_
      | (refine takeD (i := 18) (v := ?va18) 125 rfl rfl (by kernel_rfl) (by kernel_rfl) (by kernel_rfl) (fun _ _ _ h => h) (Or.inl ⟨by rfl, ?hya18⟩) hHeld ?resta18
         case hya18 => (intro w hSw; (try dsimp only at hSw); go_simp; try with_reducible rfl))
      | fail
    try simp only [Act.put, List.setIfInBounds_toArray, List.set_cons_zero, List.set_cons_succ]
    first
      | refine takeD (i := 19) (v := undef) 126 rfl rfl (by kernel_rfl) (by kernel_rfl) (by kernel_rfl) (fun _ _ _ h => h) (Or.inr ⟨by rfl, rfl⟩) hHeld ?_
      | (refine takeD (i := 19) (v := ?va19) 126 rfl rfl (by kernel_rfl) (by kernel_rfl) (by kernel_rfl) (fun _ _ _ h => h) (Or.inl ⟨by rfl, ?hya19⟩) hHeld ?resta19
         case hya19 => (intro w hSw; (try dsimp only at hSw); go_simp; try with_reducible rfl))
      | fail
    try simp only [Act.put, List.setIfInBounds_toArray, List.set_cons_zero, List.set_cons_succ]
    first
      | refine takeD (i := 20) (v := undef) 127 rfl rfl (by kernel_rfl) (by kernel_rfl) (by kernel_rfl) (fun _ _ _ h => h) (Or.inr ⟨by rfl, rfl⟩) hHeld ?_
      | (refine takeD (i := 20) (v := ?va20) 127 rfl rfl (by kernel_rfl) (by kernel_rfl) (by kernel_rfl) (fun _ _ _ h => h) (Or.inl ⟨by rfl, ?hya20⟩) hHeld ?resta20
         case hya20 => (intro w hSw; (try dsimp only at hSw); go_simp; try with_reducible rfl))
      | fail
    try simp only [Act.put, List.setIfInBounds_toArray, List.set_cons_zero, List.set_cons_succ]
    first
      | refine takeD (i := 21) (v := undef) 128 rfl rfl (by kernel_rfl) (by kernel_rfl) (by kernel_rfl) (fun _ _ _ h => h) (Or.inr ⟨by rfl, rfl⟩) hHeld ?_
      | (refine takeD (i := 21) (v := ?va21) 128 rfl rfl (by kernel_rfl) (by kernel_rfl) (by kernel_rfl) (fun _ _ _ h => h) (Or.inl ⟨by rfl, ?hya21⟩) hHeld ?resta21
         case hya21 => (intro w hSw; (try dsimp only at hSw); go_simp; try with_reducible rfl))
      | fail
    try simp only [Act.put, List.setIfInBounds_toArray, List.set_cons_zero, List.set_cons_succ]
    first
      | refine takeD (i := 22) (v := undef) 129 rfl rfl (by kernel_rfl) (by kernel_rfl) (by kernel_rfl) (fun _ _ _ h => h) (Or.inr ⟨by rfl, rfl⟩) hHeld ?_
      | (refine takeD (i := 22) (v := ?va22) 129 rfl rfl (by kernel_rfl) (by kernel_rfl) (by kernel_rfl) (fun _ _ _ h => h) (Or.inl ⟨by rfl, ?hya22⟩) hHeld ?resta22
         case hya22 => (intro w hSw; (try dsimp only at hSw); go_simp; try with_reducible rfl))
      | fail
    try simp only [Act.put, List.setIfInBounds_toArray, List.set_cons_zero, List.set_cons_succ]
    first
      | refine takeD (i := 23) (v := undef) 130 rfl rfl (by kernel_rfl) (by kernel_rfl) (by kernel_rfl) (fun _ _ _ h => h) (Or.inr ⟨by rfl, rfl⟩) hHeld ?_
      | (refine takeD (i := 23) (v := ?va23) 130 rfl rfl (by kernel_rfl) (by kernel_rfl) (by kernel_rfl) (fun _ _ _ h => h) (Or.inl ⟨by rfl, ?hya23⟩) hHeld ?resta23
         case hya23 => (intro w hSw; (try dsimp only at hSw); go_simp; try with_reducible rfl))
      | fail
    try simp only [Act.put, List.setIfInBounds_toArray, List.set_cons_zero, List.set_cons_succ]
    first
      | refine takeD (i := 24) (v := undef) 131 rfl rfl (by kernel_rfl) (by kernel_rfl) (by kernel_rfl) (fun _ _ _ h => h) (Or.inr ⟨by rfl, rfl⟩) hHeld ?_
      | (refine takeD (i := 24) (v := ?va24) 131 rfl rfl (by kernel_rfl) (by kernel_rfl) (by kernel_rfl) (fun _ _ _ h => h) (Or.inl ⟨by rfl, ?hya24⟩) hHeld ?resta24
         case hya24 => (intro w hSw; (try dsimp only at hSw); go_simp; try with_reducible rfl))
      | fail
    try simp only [Act.put, List.setIfInBounds_toArray, List.set_cons_zero, List.set_cons_succ]
    first
      | refine takeD (i := 25) (v := undef) 132 rfl rfl (by kernel_rfl) (by kernel_rfl) (by kernel_rfl) (fun _ _ _ h => h) (Or.inr ⟨by rfl, rfl⟩) hHeld ?_
      | (refine takeD (i := 25) (v := ?va25) 132 rfl rfl (by kernel_rfl) (by kernel_rfl) (by kernel_rfl) (fun _ _ _ h => h) (Or.inl ⟨by rfl, ?hya25⟩) hHeld ?resta25
         case hya25 => (intro w hSw; (try dsimp only at hSw); go_simp; try with_reducible rfl))
      | fail
    try simp only [Act.put, List.setIfInBounds_toArray, List.set_cons_zero, List.set_cons_succ]
    first
      | refine takeD (i := 26) (v := undef) 133 rfl rfl (by kernel_rfl) (by kernel_rfl) (by kernel_rfl) (fun _ _ _ h => h) (Or.inr ⟨by rfl, rfl⟩) hHeld ?_
      | (refine takeD (i := 26) (v := ?va26) 133 rfl rfl (by kernel_rfl) (by kernel_rfl) (by kernel_rfl) (fun _ _ _ h => h) (Or.inl ⟨by rfl, ?hya26⟩) hHeld ?resta26
         case hya26 => (intro w hSw; (try dsimp only at hSw); go_simp; try with_reducible rfl))
      | fail
    try simp only [Act.put, List.setIfInBounds_toArray, List.set_cons_zero, List.set_cons_succ]
    first
      | refine takeD (i := 27) (v := undef) 134 rfl rfl (by kernel_rfl) (by kernel_rfl) (by kernel_rfl) (fun _ _ _ h => h) (Or.inr ⟨by rfl, rfl⟩) hHeld ?_
      | (refine takeD (i := 27) (v := ?va27) 134 rfl rfl (by kernel_rfl) (by kernel_rfl) (by kernel_rfl) (fun _ _ _ h => h) (Or.inl ⟨by rfl, ?hya27⟩) hHeld ?resta27
         case hya27 => (intro w hSw; (try dsimp only at hSw); go_simp; try with_reducible rfl))
      | fail
    try simp only [Act.put, List.setIfInBounds_toArray, List.set_cons_zero, List.set_cons_succ]
    first
      | refine takeD (i := 28) (v := undef) 135 rfl rfl (by kernel_rfl) (by kernel_rfl) (by kernel_rfl) (fun _ _ _ h => h) (Or.inr ⟨by rfl, rfl⟩) hHeld ?_
      | (refine takeD (i := 28) (v := ?va28) 135 rfl rfl (by kernel_rfl) (by kernel_rfl) (by kernel_rfl) (fun _ _ _ h => h) (Or.inl ⟨by rfl, ?hya28⟩) hHeld ?resta28
         case hya28 => (intro w hSw; (try dsimp only at hSw); go_simp; try with_reducible rfl))
      | fail
    try simp only [Act.put, List.setIfInBounds_toArray, List.set_cons_zero, List.set_cons_succ]
    first
      | refine takeD (i := 29) (v := undef) 136 rfl rfl (by kernel_rfl) (by kernel_rfl) (by kernel_rfl) (fun _ _ _ h => h) (Or.inr ⟨by rfl, rfl⟩) hHeld ?_
      | (refine takeD (i := 29) (v := ?va29) 136 rfl rfl (by kernel_rfl) (by kernel_rfl) (by kernel_rfl) (fun _ _ _ h => h) (Or.inl ⟨by rfl, ?hya29⟩) hHeld ?resta29
         case hya29 => (intro w hSw; (try dsimp only at hSw); go_simp; try with_reducible rfl))
      | fail
    try simp only [Act.put, List.setIfInBounds_toArray, List.set_cons_zero, List.set_cons_succ]
    first
      | refine takeD (i := 30) (v := undef) 137 rfl rfl (by kernel_rfl) (by kernel_rfl) (by kernel_rfl) (fun _ _ _ h => h) (Or.inr ⟨by rfl, rfl⟩) hHeld ?_
      | (refine takeD (i := 30) (v := ?va30) 137 rfl rfl (by kernel_rfl) (by kernel_rfl) (by kernel_rfl) (fun _ _ _ h => h) (Or.inl ⟨by rfl, ?hya30⟩) hHeld ?resta30
         case hya30 => (intro w hSw; (try dsimp only at hSw); go_simp; try with_reducible rfl))
      | fail
    try simp only [Act.put, List.setIfInBounds_toArray, List.set_cons_zero, List.set_cons_succ]
    first
      | refine takeD (i := 31) (v := undef) 138 rfl rfl (by kernel_rfl) (by kernel_rfl) (by kernel_rfl) (fun _ _ _ h => h) (Or.inr ⟨by rfl, rfl⟩) hHeld ?_
      | (refine takeD (i := 31) (v := ?va31) 138 rfl rfl (by kernel_rfl) (by kernel_rfl) (by kernel_rfl) (fun _ _ _ h => h) (Or.inl ⟨by rfl, ?hya31⟩) hHeld ?resta31
         case hya31 => (intro w hSw; (try dsimp only at hSw); go_simp; try with_reducible rfl))
      | fail
    try simp only [Act.put, List.setIfInBounds_toArray, List.set_cons_zero, List.set_cons_succ]
    first
      | refine takeD (i := 33) (v := undef) 140 rfl rfl (by kernel_rfl) (by kernel_rfl) (by kernel_rfl) (fun _ _ _ h => h) (Or.inr ⟨by rfl, rfl⟩) hHeld ?_
      | (refine takeD (i := 33) (v := ?va33) 140 rfl rfl (by kernel_rfl) (by kernel_rfl) (by kernel_rfl) (fun _ _ _ h => h) (Or.inl ⟨by rfl, ?hya33⟩) hHeld ?resta33
         case hya33 => (intro w hSw; (try dsimp only at hSw); go_simp; try with_reducible rfl))
      | fail
    try simp only [Act.put, List.setIfInBounds_toArray, List.set_cons_zero, List.set_cons_succ]
    first
      | refine takeD (i := 34) (v := undef) 141 rfl rfl (by kernel_rfl) (by kernel_rfl) (by kernel_rfl) (fun _ _ _ h => h) (Or.inr ⟨by rfl, rfl⟩) hHeld ?_
      | (refine takeD (i := 34) (v := ?va34) 141 rfl rfl (by kernel_rfl) (by kernel_rfl) (by kernel_rfl) (fun _ _ _ h => h) (Or.inl ⟨by rfl, ?hya34⟩) hHeld ?resta34
         case hya34 => (intro w hSw; (try dsimp only at hSw); go_simp; try with_reducible rfl))
      | fail
    try simp only [Act.put, List.setIfInBounds_toArray, List.set_cons_zero, List.set_cons_succ]
    first
      | refine takeD (i := 35) (v := undef) 142 rfl rfl (by kernel_rfl) (by kernel_rfl) (by kernel_rfl) (fun _ _ _ h => h) (Or.inr ⟨by rfl, rfl⟩) hHeld ?_
      | (refine takeD (i := 35) (v := ?va35) 142 rfl rfl (by kernel_rfl) (by kernel_rfl) (by kernel_rfl) (fun _ _ _ h => h) (Or.inl ⟨by rfl, ?hya35⟩) hHeld ?resta35
         case hya35 => (intro w hSw; (try dsimp only at hSw); go_simp; try with_reducible rfl))
      | fail
    try simp only [Act.put, List.setIfInBounds_toArray, List.set_cons_zero, List.set_cons_succ]
    first
      | refine takeD (i := 32) (v := undef) 139 rfl rfl (by kernel_rfl) (by kernel_rfl) (by kernel_rfl) (fun _ _ _ h => h) (Or.inr ⟨by rfl, rfl⟩) hHeld ?_
      | (refine wpAnyH_ready (rs := [32]) (by kernel_rfl) (by simp) (AllReadyH.cons rfl (fun K hK => ?_) AllReadyH.nil)
         go_simp
         refine (KG.out _).mono ?_
         rintro e w9 ⟨A9, n9, c9, rfl, hf9, hb9⟩
         go_wp2_with (fail)
         refine hK.out _ _ (by exact keepRaw hHeld hb9) (fun hNew => ?_)
         clear hK K hHeld
         have hHeld := hNew
         clear hNew
         try dsimp only at hHeld)
      | fail
    try simp only [Act.put, List.setIfInBounds_toArray, List.set_cons_zero, List.set_cons_succ]
    first
      | refine takeD (i := 36) (v := undef) 143 rfl rfl (by kernel_rfl) (by kernel_rfl) (by kernel_rfl) (fun _ _ _ h => h) (Or.inr ⟨by rfl, rfl⟩) hHeld ?_
      | (refine wpAnyH_ready (rs := [36]) (by kernel_rfl) (by simp) (AllReadyH.cons rfl (fun K hK => ?_) AllReadyH.nil)
         go_simp
         refine (sameBytes_any _ _ _ _ _ _ (raw.take j) (raw.take j) _ (hf9 _ (Below.refl _ _)) (bv_take raw j ▸ hHeld.1.take j2)).mono ?_
         rw [decide_eq_true (rfl : raw.take j = raw.take j)]
         rintro e w9 ⟨rfl, rfl⟩
         go_wp2_with (fail)
         refine hK.out _ _ (by exact hHeld) (fun hNew => ?_)
         clear hK K hHeld
         have hHeld := hNew
         clear hNew
         try dsimp only at hHeld)
      | fail
    try simp only [Act.put, List.setIfInBounds_toArray, List.set_cons_zero, List.set_cons_succ]
    first
      | refine takeD (i := 37) (v := undef) 144 rfl rfl (by kernel_rfl) (by kernel_rfl) (by kernel_rfl) (fun _ _ _ h => h) (Or.inr ⟨by rfl, rfl⟩) hHeld ?_
      | (refine takeD (i := 37) (v := ?va37) 144 rfl rfl (by kernel_rfl) (by kernel_rfl) (by kernel_rfl) (fun _ _ _ h => h) (Or.inl ⟨by rfl, ?hya37⟩) hHeld ?resta37
         case hya37 => (intro w hSw; (try dsimp only at hSw); go_simp; try with_reducible rfl))
      | fail
    try simp only [Act.put, List.setIfInBounds_toArray, List.set_cons_zero, List.set_cons_succ]
    first
      | refine takeD (i := 38) (v := undef) 145 rfl rfl (by kernel_rfl) (by kernel_rfl) (by kernel_rfl) (fun _ _ _ h => h) (Or.inr ⟨by rfl, rfl⟩) hHeld ?_
      | (refine takeD (i := 38) (v := ?va38) 145 rfl rfl (by kernel_rfl) (by kernel_rfl) (by kernel_rfl) (fun _ _ _ h => h) (Or.inl ⟨by rfl, ?hya38⟩) hHeld ?resta38
         case hya38 => (intro w hSw; (try dsimp only at hSw); go_simp; try with_reducible rfl))
      | fail
    try simp only [Act.put, List.setIfInBounds_toArray, List.set_cons_zero, List.set_cons_succ]
    first
      | refine takeD (i := 39) (v := undef) 146 rfl rfl (by kernel_rfl) (by kernel_rfl) (by kernel_rfl) (fun _ _ _ h => h) (Or.inr ⟨by rfl, rfl⟩) hHeld ?_
      | (refine takeD (i := 39) (v := ?va39) 146 rfl rfl (by kernel_rfl) (by kernel_rfl) (by kernel_rfl) (fun _ _ _ h => h) (Or.inl ⟨by rfl, ?hya39⟩) hHeld ?resta39
         case hya39 => (intro w hSw; (try dsimp only at hSw); go_simp; try with_reducible rfl))
      | fail
    try simp only [Act.put, List.setIfInBounds_toArray, List.set_cons_zero, List.set_cons_succ]
    first
      | refine takeD (i := 40) (v := undef) 8 rfl rfl (by kernel_rfl) (by kernel_rfl) (by kernel_rfl) (fun _ _ _ h => h) (Or.inr ⟨by rfl, rfl⟩) hHeld ?_
      | (refine takeD (i := 40) (v := ?va40) 8 rfl rfl (by kernel_rfl) (by kernel_rfl) (by kernel_rfl) (fun _ _ _ h => h) (Or.inl ⟨by rfl, ?hya40⟩) hHeld ?resta40
         case hya40 => (intro w hSw; (try dsimp only at hSw); go_simp; try with_reducible rfl))
      | fail
    try simp only [Act.put, List.setIfInBounds_toArray, List.set_cons_zero, List.set_cons_succ]
    refine wpAnyH_done (by kernel_rfl) ?_ _
    refine NoPanic.normal ?_
    have hend := hHeld.2
    go_wp2
    go_ret
    exact ⟨rfl, hend⟩
  · skip
    refine wp_region_noPanic ?_
    refine wp_region_held_drew (S := (fun w' => Rd w' A1 n1 c1 (bv raw) ∧ Below w.heap.size w w')) (by kernel_rfl) R9.out (fun hHeld => ?_)
    try dsimp only at hHeld
    first
      | refine takeD (i := 0) (v := undef) 107 rfl rfl (by kernel_rfl) (by kernel_rfl) (by kernel_rfl) (fun _ _ _ h => h) (Or.inr ⟨by rfl, rfl⟩) hHeld ?_
      | (refine takeD (i := 0) (v := ?vb0) 107 rfl rfl (by kernel_rfl) (by kernel_rfl) (by kernel_rfl) (fun _ _ _ h => h) (Or.inl ⟨by rfl, ?hyb0⟩) hHeld ?restb0
         case hyb0 => (intro w hSw; (try dsimp only at hSw); go_simp; try with_reducible rfl))
      | fail
    try simp only [Act.put, List.setIfInBounds_toArray, List.set_cons_zero, List.set_cons_succ]
    first
      | refine takeD (i := 1) (v := undef) 108 rfl rfl (by kernel_rfl) (by kernel_rfl) (by kernel_rfl) (fun _ _ _ h => h) (Or.inr ⟨by rfl, rfl⟩) hHeld ?_
      | (refine takeD (i := 1) (v := ?vb1) 108 rfl rfl (by kernel_rfl) (by kernel_rfl) (by kernel_rfl) (fun _ _ _ h => h) (Or.inl ⟨by rfl, ?hyb1⟩) hHeld ?restb1
         case hyb1 => (intro w hSw; (try dsimp only at hSw); go_simp; try with_reducible rfl))
      | fail
    try simp only [Act.put, List.setIfInBounds_toArray, List.set_cons_zero, List.set_cons_succ]
    first
      | refine takeD (i := 2) (v := undef) 109 rfl rfl (by kernel_rfl) (by kernel_rfl) (by kernel_rfl) (fun _ _ _ h => h) (Or.inr ⟨by rfl, rfl⟩) hHeld ?_
      | (refine takeD (i := 2) (v := ?vb2) 109 rfl rfl (by kernel_rfl) (by kernel_rfl) (by kernel_rfl) (fun _ _ _ h => h) (Or.inl ⟨by rfl, ?hyb2⟩) hHeld ?restb2
         case hyb2 => (intro w hSw; (try dsimp only at hSw); go_simp; try with_reducible rfl))
      | fail
    try simp only [Act.put, List.setIfInBounds_toArray, List.set_cons_zero, List.set_cons_succ]
    first
      | refine takeD (i := 3) (v := undef) 110 rfl rfl (by kernel_rfl) (by kernel_rfl) (by kernel_rfl) (fun _ _ _ h => h) (Or.inr ⟨by rfl, rfl⟩) hHeld ?_
      | (refine takeD (i := 3) (v := ?vb3) 110 rfl rfl (by kernel_rfl) (by kernel_rfl) (by kernel_rfl) (fun _ _ _ h => h) (Or.inl ⟨by rfl, ?hyb3⟩) hHeld ?restb3
         case hyb3 => (intro w hSw; (try dsimp only at hSw); go_simp; try with_reducible rfl))
      | fail
    try simp only [Act.put, List.setIfInBounds_toArray, List.set_cons_zero, List.set_cons_succ]
    first
      | refine takeD (i := 5) (v := undef) 112 rfl rfl (by kernel_rfl) (by kernel_rfl) (by kernel_rfl) (fun _ _ _ h => h) (Or.inr ⟨by rfl, rfl⟩) hHeld ?_
      | (refine takeD (i := 5) (v := ?vb5) 112 rfl rfl (by kernel_rfl) (by kernel_rfl) (by kernel_rfl) (fun _ _ _ h => h) (Or.inl ⟨by rfl, ?hyb5⟩) hHeld ?restb5
         case hyb5 => (intro w hSw; (try dsimp only at hSw); go_simp; try with_reducible rfl))
      | fail
    try simp only [Act.put, List.setIfInBounds_toArray, List.set_cons_zero, List.set_cons_succ]
    first
      | refine takeD (i := 4) (v := undef) 111 rfl rfl (by kernel_rfl) (by kernel_rfl) (by kernel_rfl) (fun _ _ _ h => h) (Or.inr ⟨by rfl, rfl⟩) hHeld ?_
      | (refine wpAnyH_ready (rs := [4]) (by kernel_rfl) (by simp) (AllReadyH.cons rfl (fun K hK => ?_) AllReadyH.nil)
         go_simp
         refine (kS1.out hcs _).mono ?_
         rintro e w9 ⟨A9, n9, c9, rfl, hf9, hb9⟩
         go_wp2_with (fail)
         refine hK.out _ _ (by exact keepRaw hHeld hb9) (fun hNew => ?_)
         clear hK K hHeld
         have hHeld := hNew
         clear hNew
         try dsimp only at hHeld)
      | fail
    try simp only [Act.put, List.setIfInBounds_toArray, List.set_cons_zero, List.set_cons_succ]
    first
      | refine takeD (i := 6) (v := undef) 113 rfl rfl (by kernel_rfl) (by kernel_rfl) (by kernel_rfl) (fun _ _ _ h => h) (Or.inr ⟨by rfl, rfl⟩) hHeld ?_
      | (refine wpAnyH_ready (rs := [6]) (by kernel_rfl) (by simp) (AllReadyH.cons rfl (fun K hK => ?_) AllReadyH.nil)
         go_simp
         refine (sameBytes_any _ _ _ _ _ _ raw raw _ (hf9 _ (Below.refl _ _)) hHeld.1).mono ?_
         rw [decide_eq_true (rfl : raw = raw)]
         rintro e w9 ⟨rfl, rfl⟩
         go_wp2_with (fail)
         refine hK.out _ _ (by exact hHeld) (fun hNew => ?_)
         clear hK K hHeld
         have hHeld := hNew
         clear hNew
         try dsimp only at hHeld)
      | fail
    try simp only [Act.put, List.setIfInBounds_toArray, List.set_cons_zero, List.set_cons_succ]
    first
      | refine takeD (i := 7) (v := undef) 114 rfl rfl (by kernel_rfl) (by kernel_rfl) (by kernel_rfl) (fun _ _ _ h => h) (Or.inr ⟨by rfl, rfl⟩) hHeld ?_
      | (refine takeD (i := 7) (v := ?vb7) 114 rfl rfl (by kernel_rfl) (by kernel_rfl) (by kernel_rfl) (fun _ _ _ h => h) (Or.inl ⟨by rfl, ?hyb7⟩) hHeld ?restb7
         case hyb7 => (intro w hSw; (try dsimp only at hSw); go_simp; try with_reducible rfl))
      | fail
    try simp only [Act.put, List.setIfInBounds_toArray, List.set_cons_zero, List.set_cons_succ]
    first
      | refine takeD (i := 8) (v := undef) 115 rfl rfl (by kernel_rfl) (by kernel_rfl) (by kernel_rfl) (fun _ _ _ h => h) (Or.inr ⟨by rfl, rfl⟩) hHeld ?_
      | (refine takeD (i := 8) (v := ?vb8) 115 rfl rfl (by kernel_rfl) (by kernel_rfl) (by kernel_rfl) (fun _ _ _ h => h) (Or.inl ⟨by rfl, ?hyb8⟩) hHeld ?restb8
         case hyb8 => (intro w hSw; (try dsimp only at hSw); go_simp; try with_reducible rfl))
      | fail
    try simp only [Act.put, List.setIfInBounds_toArray, List.set_cons_zero, List.set_cons_succ]
    first
      | refine takeD (i := 9) (v := undef) 116 rfl rfl (by kernel_rfl) (by kernel_rfl) (by kernel_rfl) (fun _ _ _ h => h) (Or.inr ⟨by rfl, rfl⟩) hHeld ?_
      | (refine takeD (i := 9) (v := ?vb9) 116 rfl rfl (by kernel_rfl) (by kernel_rfl) (by kernel_rfl) (fun _ _ _ h => h) (Or.inl ⟨by rfl, ?hyb9⟩) hHeld ?restb9
         case hyb9 => (intro w hSw; (try dsimp only at hSw); go_simp; try with_reducible rfl))
      | fail
    try simp only [Act.put, List.setIfInBounds_toArray, List.set_cons_zero, List.set_cons_succ]
    first
      | refine takeD (i := 10) (v := undef) 117 rfl rfl (by kernel_rfl) (by kernel_rfl) (by kernel_rfl) (fun _ _ _ h => h) (Or.inr ⟨by rfl, rfl⟩) hHeld ?_
      | (refine takeD (i := 10) (v := ?vb10) 117 rfl rfl (by kernel_rfl) (by kernel_rfl) (by kernel_rfl) (fun _ _ _ h => h) (Or.inl ⟨by rfl, ?hyb10⟩) hHeld ?restb10
         case hyb10 => (intro w hSw; (try dsimp only at hSw); go_simp; try with_reducible rfl))
      | fail
    try simp only [Act.put, List.setIfInBounds_toArray, List.set_cons_zero, List.set_cons_succ]
    first
      | refine takeD (i := 11) (v := undef) 118 rfl rfl (by kernel_rfl) (by kernel_rfl) (by kernel_rfl) (fun _ _ _ h => h) (Or.inr ⟨by rfl, rfl⟩) hHeld ?_
      | (refine takeD (i := 11) (v := ?vb11) 118 rfl rfl (by kernel_rfl) (by kernel_rfl) (by kernel_rfl) (fun _ _ _ h => h) (Or.inl ⟨by rfl, ?hyb11⟩) hHeld ?restb11
         case hyb11 => (intro w hSw; (try dsimp only at hSw); go_simp; try with_reducible rfl))
      | fail
    try simp only [Act.put, List.setIfInBounds_toArray, List.set_cons_zero, List.set_cons_succ]
    first
      | refine takeD (i := 12) (v := undef) 119 rfl rfl (by kernel_rfl) (by kernel_rfl) (by kernel_rfl) (fun _ _ _ h => h) (Or.inr ⟨by rfl, rfl⟩) hHeld ?_
      | (refine takeD (i := 12) (v := ?vb12) 119 rfl rfl (by kernel_rfl) (by kernel_rfl) (by kernel_rfl) (fun _ _ _ h => h) (Or.inl ⟨by rfl, ?hyb12⟩) hHeld ?restb12
         case hyb12 => (intro w hSw; (try dsimp only at hSw); go_simp; try with_reducible rfl))
      | fail
    try simp only [Act.put, List.setIfInBounds_toArray, List.set_cons_zero, List.set_cons_succ]
    first
      | refine takeD (i := 14) (v := undef) 121 rfl rfl (by kernel_rfl) (by kernel_rfl) (by kernel_rfl) (fun _ _ _ h => h) (Or.inr ⟨by rfl, rfl⟩) hHeld ?_
      | (refine takeD (i := 14) (v := ?vb14) 121 rfl rfl (by kernel_rfl) (by kernel_rfl) (by kernel_rfl) (fun _ _ _ h => h) (Or.inl ⟨by rfl, ?hyb14⟩) hHeld ?restb14
         case hyb14 => (intro w hSw; (try dsimp only at hSw); go_simp; try with_reducible rfl))
      | fail
    try simp only [Act.put, List.setIfInBounds_toArray, List.set_cons_zero, List.set_cons_succ]
    first
      | refine takeD (i := 13) (v := undef) 120 rfl rfl (by kernel_rfl) (by kernel_rfl) (by kernel_rfl) (fun _ _ _ h => h) (Or.inr ⟨by rfl, rfl⟩) hHeld ?_
      | (refine wpAnyH_ready (rs := [13]) (by kernel_rfl) (by simp) (AllReadyH.cons rfl (fun K hK => ?_) AllReadyH.nil)
         go_simp
         refine (kU1.out hcu _).mono ?_
         rintro e w9 ⟨A9, n9, c9, rfl, hf9, hb9⟩
         go_wp2_with (fail)
         refine hK.out _ _ (by exact keepRaw hHeld hb9) (fun hNew => ?_)
         clear hK K hHeld
         have hHeld := hNew
         clear hNew
         try dsimp only at hHeld)
      | fail
    try simp only [Act.put, List.setIfInBounds_toArray, List.set_cons_zero, List.set_cons_succ]
    first
      | refine takeD (i := 15) (v := undef) 122 rfl rfl (by kernel_rfl) (by kernel_rfl) (by kernel_rfl) (fun _ _ _ h => h) (Or.inr ⟨by rfl, rfl⟩) hHeld ?_
      | (refine wpAnyH_ready (rs := [15]) (by kernel_rfl) (by simp) (AllReadyH.cons rfl (fun K hK => ?_) AllReadyH.nil)
         go_simp
         refine (sameBytes_any _ _ _ _ _ _ raw raw _ (hf9 _ (Below.refl _ _)) hHeld.1).mono ?_
         rw [decide_eq_true (rfl : raw = raw)]
         rintro e w9 ⟨rfl, rfl⟩
         go_wp2_with (fail)
         refine hK.out _ _ (by exact hHeld) (fun hNew => ?_)
         clear hK K hHeld
         have hHeld := hNew
         clear hNew
         try dsimp only at hHeld)
      | fail
    try simp only [Act.put, List.setIfInBounds_toArray, List.set_cons_zero, List.set_cons_succ]
    first
      | refine takeD (i := 16) (v := undef) 123 rfl rfl (by kernel_rfl) (by kernel_rfl) (by kernel_rfl) (fun _ _ _ h => h) (Or.inr ⟨by rfl, rfl⟩) hHeld ?_
      | (refine takeD (i := 16) (v := ?vb16) 123 rfl rfl (by kernel_rfl) (by kernel_rfl) (by kernel_rfl) (fun _ _ _ h => h) (Or.inl ⟨by rfl, ?hyb16⟩) hHeld ?restb16
         case hyb16 => (intro w hSw; (try dsimp only at hSw); go_simp; try with_reducible rfl))
      | fail
    try simp only [Act.put, List.setIfInBounds_toArray, List.set_cons_zero, List.set_cons_succ]
    first
      | refine takeD (i := 17) (v := undef) 124 rfl rfl (by kernel_rfl) (by kernel_rfl) (by kernel_rfl) (fun _ _ _ h => h) (Or.inr ⟨by rfl, rfl⟩) hHeld ?_
      | (refine takeD (i := 17) (v := ?vb17) 124 rfl rfl (by kernel_rfl) (by kernel_rfl) (by kernel_rfl) (fun _ _ _ h => h) (Or.inl ⟨by rfl, ?hyb17⟩) hHeld ?restb17
         case hyb17 => (intro w hSw; (try dsimp only at hSw); go_simp; try with_reducible rfl))
      | fail
    try simp only [Act.put, List.setIfInBounds_toArray, List.set_cons_zero, List.set_cons_succ]
    first
      | refine takeD (i := 18) (v := undef) 125 rfl rfl (by kernel_rfl) (by kernel_rfl) (by kernel_rfl) (fun _ _ _ h => h) (Or.inr ⟨by rfl, rfl⟩) hHeld ?_
      | (refine takeD (i := 18) (v := ?vb18) 125 rfl rfl (by kernel_rfl) (by kernel_rfl) (by kernel_rfl) (fun _ _ _ h => h) (Or.inl ⟨by rfl, ?hyb18⟩) hHeld ?restb18
         case hyb18 => (intro w hSw; (try dsimp only at hSw); go_simp; try with_reducible rfl))
      | fail
    try simp only [Act.put, List.setIfInBounds_toArray, List.set_cons_zero, List.set_cons_succ]
    first
      | refine takeD (i := 19) (v := undef) 126 rfl rfl (by kernel_rfl) (by kernel_rfl) (by kernel_rfl) (fun _ _ _ h => h) (Or.inr ⟨by rfl, rfl⟩) hHeld ?_
      | (refine takeD (i := 19) (v := ?vb19) 126 rfl rfl (by kernel_rfl) (by kernel_rfl) (by kernel_rfl) (fun _ _ _ h => h) (Or.inl ⟨by rfl, ?hyb19⟩) hHeld ?restb19
         case hyb19 => (intro w hSw; (try dsimp only at hSw); go_simp; try with_reducible rfl))
      | fail
    try simp only [Act.put, List.setIfInBounds_toArray, List.set_cons_zero, List.set_cons_succ]
    first
      | refine takeD (i := 20) (v := undef) 127 rfl rfl (by kernel_rfl) (by kernel_rfl) (by kernel_rfl) (fun _ _ _ h => h) (Or.inr ⟨by rfl, rfl⟩) hHeld ?_
      | (refine takeD (i := 20) (v := ?vb20) 127 rfl rfl (by kernel_rfl) (by kernel_rfl) (by kernel_rfl) (fun _ _ _ h => h) (Or.inl ⟨by rfl, ?hyb20⟩) hHeld ?restb20
         case hyb20 => (intro w hSw; (try dsimp only at hSw); go_simp; try with_reducible rfl))
      | fail
    try simp only [Act.put, List.setIfInBounds_toArray, List.set_cons_zero, List.set_cons_succ]
    first
      | refine takeD (i := 21) (v := undef) 128 rfl rfl (by kernel_rfl) (by kernel_rfl) (by kernel_rfl) (fun _ _ _ h => h) (Or.inr ⟨by rfl, rfl⟩) hHeld ?_
      | (refine takeD (i := 21) (v := ?vb21) 128 rfl rfl (by kernel_rfl) (by kernel_rfl) (by kernel_rfl) (fun _ _ _ h => h) (Or.inl ⟨by rfl, ?hyb21⟩) hHeld ?restb21
         case hyb21 => (intro w hSw; (try dsimp only at hSw); go_simp; try with_reducible rfl))
      | fail
    try simp only [Act.put, List.setIfInBounds_toArray, List.set_cons_zero, List.set_cons_succ]
    first
      | refine takeD (i := 22) (v := undef) 129 rfl rfl (by kernel_rfl) (by kernel_rfl) (by kernel_rfl) (fun _ _ _ h => h) (Or.inr ⟨by rfl, rfl⟩) hHeld ?_
      | (refine takeD (i := 22) (v := ?vb22) 129 rfl rfl (by kernel_rfl) (by kernel_rfl) (by kernel_rfl) (fun _ _ _ h => h) (Or.inl ⟨by rfl, ?hyb22⟩) hHeld ?restb22
         case hyb22 => (intro w hSw; (try dsimp only at hSw); go_simp; try with_reducible rfl))
      | fail
    try simp only [Act.put, List.setIfInBounds_toArray, List.set_cons_zero, List.set_cons_succ]
    first
      | refine takeD (i := 23) (v := undef) 130 rfl rfl (by kernel_rfl) (by kernel_rfl) (by kernel_rfl) (fun _ _ _ h => h) (Or.inr ⟨by rfl, rfl⟩) hHeld ?_
      | (refine takeD (i := 23) (v := ?vb23) 130 rfl rfl (by kernel_rfl) (by kernel_rfl) (by kernel_rfl) (fun _ _ _ h => h) (Or.inl ⟨by rfl, ?hyb23⟩) hHeld ?restb23
         case hyb23 => (intro w hSw; (try dsimp only at hSw); go_simp; try with_reducible rfl))
      | fail
    try simp only [Act.put, List.setIfInBounds_toArray, List.set_cons_zero, List.set_cons_succ]
    first
      | refine takeD (i := 24) (v := undef) 131 rfl rfl (by kernel_rfl) (by kernel_rfl) (by kernel_rfl) (fun _ _ _ h => h) (Or.inr ⟨by rfl, rfl⟩) hHeld ?_
      | (refine takeD (i := 24) (v := ?vb24) 131 rfl rfl (by kernel_rfl) (by kernel_rfl) (by kernel_rfl) (fun _ _ _ h => h) (Or.inl ⟨by rfl, ?hyb24⟩) hHeld ?restb24
         case hyb24 => (intro w hSw; (try dsimp only at hSw); go_simp; try with_reducible rfl))
      | fail
    try simp only [Act.put, List.setIfInBounds_toArray, List.set_cons_zero, List.set_cons_succ]
    first
      | refine takeD (i := 25) (v := undef) 132 rfl rfl (by kernel_rfl) (by kernel_rfl) (by kernel_rfl) (fun _ _ _ h => h) (Or.inr ⟨by rfl, rfl⟩) hHeld ?_
      | (refine takeD (i := 25) (v := ?vb25) 132 rfl rfl (by kernel_rfl) (by kernel_rfl) (by kernel_rfl) (fun _ _ _ h => h) (Or.inl ⟨by rfl, ?hyb25⟩) hHeld ?restb25
         case hyb25 => (intro w hSw; (try dsimp only at hSw); go_simp; try with_reducible rfl))
      | fail
    try simp only [Act.put, List.setIfInBounds_toArray, List.set_cons_zero, List.set_cons_succ]
    first
      | refine takeD (i := 26) (v := undef) 133 rfl rfl (by kernel_rfl) (by kernel_rfl) (by kernel_rfl) (fun _ _ _ h => h) (Or.inr ⟨by rfl, rfl⟩) hHeld ?_
      | (refine takeD (i := 26) (v := ?vb26) 133 rfl rfl (by kernel_rfl) (by kernel_rfl) (by kernel_rfl) (fun _ _ _ h => h) (Or.inl ⟨by rfl, ?hyb26⟩) hHeld ?restb26
         case hyb26 => (intro w hSw; (try dsimp only at hSw); go_simp; try with_reducible rfl))
      | fail
    try simp only [Act.put, List.setIfInBounds_toArray, List.set_cons_zero, List.set_cons_succ]
    first
      | refine takeD (i := 27) (v := undef) 134 rfl rfl (by kernel_rfl) (by kernel_rfl) (by kernel_rfl) (fun _ _ _ h => h) (Or.inr ⟨by rfl, rfl⟩) hHeld ?_
      | (refine takeD (i := 27) (v := ?vb27) 134 rfl rfl (by kernel_rfl) (by kernel_rfl) (by kernel_rfl) (fun _ _ _ h => h) (Or.inl ⟨by rfl, ?hyb27⟩) hHeld ?restb27
         case hyb27 => (intro w hSw; (try dsimp only at hSw); go_simp; try with_reducible rfl))
      | fail
    try simp only [Act.put, List.setIfInBounds_toArray, List.set_cons_zero, List.set_cons_succ]
    first
      | refine takeD (i := 28) (v := undef) 135 rfl rfl (by kernel_rfl) (by kernel_rfl) (by kernel_rfl) (fun _ _ _ h => h) (Or.inr ⟨by rfl, rfl⟩) hHeld ?_
      | (refine takeD (i := 28) (v := ?vb28) 135 rfl rfl (by kernel_rfl) (by kernel_rfl) (by kernel_rfl) (fun _ _ _ h => h) (Or.inl ⟨by rfl, ?hyb28⟩) hHeld ?restb28
         case hyb28 => (intro w hSw; (try dsimp only at hSw); go_simp; try with_reducible rfl))
      | fail
    try simp only [Act.put, List.setIfInBounds_toArray, List.set_cons_zero, List.set_cons_succ]
    first
      | refine takeD (i := 29) (v := undef) 136 rfl rfl (by kernel_rfl) (by kernel_rfl) (by kernel_rfl) (fun _ _ _ h => h) (Or.inr ⟨by rfl, rfl⟩) hHeld ?_
      | (refine takeD (i := 29) (v := ?vb29) 136 rfl rfl (by kernel_rfl) (by kernel_rfl) (by kernel_rfl) (fun _ _ _ h => h) (Or.inl ⟨by rfl, ?hyb29⟩) hHeld ?restb29
         case hyb29 => (intro w hSw; (try dsimp only at hSw); go_simp; try with_reducible rfl))
      | fail
    try simp only [Act.put, List.setIfInBounds_toArray, List.set_cons_zero, List.set_cons_succ]
    first
      | refine takeD (i := 30) (v := undef) 137 rfl rfl (by kernel_rfl) (by kernel_rfl) (by kernel_rfl) (fun _ _ _ h => h) (Or.inr ⟨by rfl, rfl⟩) hHeld ?_
      | (refine takeD (i := 30) (v := ?vb30) 137 rfl rfl (by kernel_rfl) (by kernel_rfl) (by kernel_rfl) (fun _ _ _ h => h) (Or.inl ⟨by rfl, ?hyb30⟩) hHeld ?restb30
         case hyb30 => (intro w hSw; (try dsimp only at hSw); go_simp; try with_reducible rfl))
      | fail
    try simp only [Act.put, List.setIfInBounds_toArray, List.set_cons_zero, List.set_cons_succ]
    first
      | refine takeD (i := 31) (v := undef) 138 rfl rfl (by kernel_rfl) (by kernel_rfl) (by kernel_rfl) (fun _ _ _ h => h) (Or.inr ⟨by rfl, rfl⟩) hHeld ?_
      | (refine takeD (i := 31) (v := ?vb31) 138 rfl rfl (by kernel_rfl) (by kernel_rfl) (by kernel_rfl) (fun _ _ _ h => h) (Or.inl ⟨by rfl, ?hyb31⟩) hHeld ?restb31
         case hyb31 => (intro w hSw; (try dsimp only at hSw); go_simp; try with_reducible rfl))
      | fail
    try simp only [Act.put, List.setIfInBounds_toArray, List.set_cons_zero, List.set_cons_succ]
    first
      | refine takeD (i := 33) (v := undef) 140 rfl rfl (by kernel_rfl) (by kernel_rfl) (by kernel_rfl) (fun _ _ _ h => h) (Or.inr ⟨by rfl, rfl⟩) hHeld ?_
      | (refine takeD (i := 33) (v := ?vb33) 140 rfl rfl (by kernel_rfl) (by kernel_rfl) (by kernel_rfl) (fun _ _ _ h => h) (Or.inl ⟨by rfl, ?hyb33⟩) hHeld ?restb33
         case hyb33 => (intro w hSw; (try dsimp only at hSw); go_simp; try with_reducible rfl))
      | fail
    try simp only [Act.put, List.setIfInBounds_toArray, List.set_cons_zero, List.set_cons_succ]
    first
      | refine takeD (i := 34) (v := undef) 141 rfl rfl (by kernel_rfl) (by kernel_rfl) (by kernel_rfl) (fun _ _ _ h => h) (Or.inr ⟨by rfl, rfl⟩) hHeld ?_
      | (refine takeD (i := 34) (v := ?vb34) 141 rfl rfl (by kernel_rfl) (by kernel_rfl) (by kernel_rfl) (fun _ _ _ h => h) (Or.inl ⟨by rfl, ?hyb34⟩) hHeld ?restb34
         case hyb34 => (intro w hSw; (try dsimp only at hSw); go_simp; try with_reducible rfl))
      | fail
    try simp only [Act.put, List.setIfInBounds_toArray, List.set_cons_zero, List.set_cons_succ]
    first
      | refine takeD (i := 35) (v := undef) 142 rfl rfl (by kernel_rfl) (by kernel_rfl) (by kernel_rfl) (fun _ _ _ h => h) (Or.inr ⟨by rfl, rfl⟩) hHeld ?_
      | (refine takeD (i := 35) (v := ?vb35) 142 rfl rfl (by kernel_rfl) (by kernel_rfl) (by kernel_rfl) (fun _ _ _ h => h) (Or.inl ⟨by rfl, ?hyb35⟩) hHeld ?restb35
         case hyb35 => (intro w hSw; (try dsimp only at hSw); go_simp; try with_reducible rfl))
      | fail
    try simp only [Act.put, List.setIfInBounds_toArray, List.set_cons_zero, List.set_cons_succ]
    first
      | refine takeD (i := 32) (v := undef) 139 rfl rfl (by kernel_rfl) (by kernel_rfl) (by kernel_rfl) (fun _ _ _ h => h) (Or.inr ⟨by rfl, rfl⟩) hHeld ?_
      | (refine wpAnyH_ready (rs := [32]) (by kernel_rfl) (by simp) (AllReadyH.cons rfl (fun K hK => ?_) AllReadyH.nil)
         go_simp
         refine (KG.out _).mono ?_
         rintro e w9 ⟨A9, n9, c9, rfl, hf9, hb9⟩
         go_wp2_with (fail)
         refine hK.out _ _ (by exact keepRaw hHeld hb9) (fun hNew => ?_)
         clear hK K hHeld
         have hHeld := hNew
         clear hNew
         try dsimp only at hHeld)
      | fail
    try simp only [Act.put, List.setIfInBounds_toArray, List.set_cons_zero, List.set_cons_succ]
    first
      | refine takeD (i := 36) (v := undef) 143 rfl rfl (by kernel_rfl) (by kernel_rfl) (by kernel_rfl) (fun _ _ _ h => h) (Or.inr ⟨by rfl, rfl⟩) hHeld ?_
      | (refine wpAnyH_ready (rs := [36]) (by kernel_rfl) (by simp) (AllReadyH.cons rfl (fun K hK => ?_) AllReadyH.nil)
         go_simp
         refine (sameBytes_any _ _ _ _ _ _ (raw.take j) (raw.take j) _ (hf9 _ (Below.refl _ _)) (bv_take raw j ▸ hHeld.1.take j2)).mono ?_
         rw [decide_eq_true (rfl : raw.take j = raw.take j)]
         rintro e w9 ⟨rfl, rfl⟩
         go_wp2_with (fail)
         refine hK.out _ _ (by exact hHeld) (fun hNew => ?_)
         clear hK K hHeld
         have hHeld := hNew
         clear hNew
         try dsimp only at hHeld)
      | fail
    try simp only [Act.put, List.setIfInBounds_toArray, List.set_cons_zero, List.set_cons_succ]
    first
      | refine takeD (i := 37) (v := undef) 144 rfl rfl (by kernel_rfl) (by kernel_rfl) (by kernel_rfl) (fun _ _ _ h => h) (Or.inr ⟨by rfl, rfl⟩) hHeld ?_
      | (refine takeD (i := 37) (v := ?vb37) 144 rfl rfl (by kernel_rfl) (by kernel_rfl) (by kernel_rfl) (fun _ _ _ h => h) (Or.inl ⟨by rfl, ?hyb37⟩) hHeld ?restb37
         case hyb37 => (intro w hSw; (try dsimp only at hSw); go_simp; try with_reducible rfl))
      | fail
    try simp only [Act.put, List.setIfInBounds_toArray, List.set_cons_zero, List.set_cons_succ]
    first
      | refine takeD (i := 38) (v := undef) 145 rfl rfl (by kernel_rfl) (by kernel_rfl) (by kernel_rfl) (fun _ _ _ h => h) (Or.inr ⟨by rfl, rfl⟩) hHeld ?_
      | (refine takeD (i := 38) (v := ?vb38) 145 rfl rfl (by kernel_rfl) (by kernel_rfl) (by kernel_rfl) (fun _ _ _ h => h) (Or.inl ⟨by rfl, ?hyb38⟩) hHeld ?restb38
         case hyb38 => (intro w hSw; (try dsimp only at hSw); go_simp; try with_reducible rfl))
      | fail
    try simp only [Act.put, List.setIfInBounds_toArray, List.set_cons_zero, List.set_cons_succ]
    first
      | refine takeD (i := 39) (v := undef) 146 rfl rfl (by kernel_rfl) (by kernel_rfl) (by kernel_rfl) (fun _ _ _ h => h) (Or.inr ⟨by rfl, rfl⟩) hHeld ?_
      | (refine takeD (i := 39) (v := ?vb39) 146 rfl rfl (by kernel_rfl) (by kernel_rfl) (by kernel_rfl) (fun _ _ _ h => h) (Or.inl ⟨by rfl, ?hyb39⟩) hHeld ?restb39
         case hyb39 => (intro w hSw; (try dsimp only at hSw); go_simp; try with_reducible rfl))
      | fail
    try simp only [Act.put, List.setIfInBounds_toArray, List.set_cons_zero, List.set_cons_succ]
    first
      | refine takeD (i := 40) (v := undef) 8 rfl rfl (by kernel_rfl) (by kernel_rfl) (by kernel_rfl) (fun _ _ _ h => h) (Or.inr ⟨by rfl, rfl⟩) hHeld ?_
      | (refine takeD (i := 40) (v := ?vb40) 8 rfl rfl (by kernel_rfl) (by kernel_rfl) (by kernel_rfl) (fun _ _ _ h => h) (Or.inl ⟨by rfl, ?hyb40⟩) hHeld ?restb40
         case hyb40 => (intro w hSw; (try dsimp only at hSw); go_simp; try with_reducible rfl))
      | fail
    try simp only [Act.put, List.setIfInBounds_toArray, List.set_cons_zero, List.set_cons_succ]
    refine wpAnyH_done (by kernel_rfl) ?_ _
    refine NoPanic.normal ?_
    have hend := hHeld.2
    go_wp2
    go_ret
    exact ⟨rfl, hend⟩

end Go.Proofs.Ythflgoigbgnkoaa
