import Derived.Test.YthflgoigbgnkoaaLawBack1
import Derived.Test.YthflgoigbgnkoaaLawBack2
import Derived.Test.YthflgoigbgnkoaaLawBack3
import Derived.Test.YthflgoigbgnkoaaLawBack4
namespace Go.Proofs.Ythflgoigbgnkoaa
open Go.RowKit

theorem octetsBack_walk (v u : Int) (A1 : Option Addr) (n1 c1 : Nat) (raw : List UInt8) (A2 : Option Addr) (n2 c2 : Nat) (more : List UInt8) (w : World)
    (hv : (Lit.int .i64 v).wf = true) (hu : (Lit.int .u64 u).wf = true) (h1 : Rd w A1 n1 c1 (bv raw)) (h2 : Rd w A2 n2 c2 (bv more)) :
    Calls Try.prog 13 #[.int .i64 v, .int .u64 u, .slice A1 n1 c1, .slice A2 n2 c2] w fun e w' => e = .returned (.bool true) ∧ Below w.heap.size w w' := by
  obtain ⟨v0, v1⟩ := bd_i64 hv
  obtain ⟨u0, u1⟩ := bd_u64 hu
  have m1 := h1.lenmax
  have m2 := h2.lenmax
  by_cases g1 : n1 ≤ 300
  · by_cases g2 : n2 ≤ 300
    · by_cases hse : takeSE raw = 0
      · by_cases hge : (tg 0 0 raw).2.2 = 0
        · exact octetsBack_main1 v u A1 n1 c1 raw A2 n2 c2 more w v0 v1 u0 u1 h1 h2 g1 g2 hse hge
        · exact octetsBack_main2 v u A1 n1 c1 raw A2 n2 c2 more w v0 v1 u0 u1 h1 h2 g1 g2 hse hge
      · by_cases hge : (tg 0 0 raw).2.2 = 0
        · exact octetsBack_main3 v u A1 n1 c1 raw A2 n2 c2 more w v0 v1 u0 u1 h1 h2 g1 g2 hse hge
        · exact octetsBack_main4 v u A1 n1 c1 raw A2 n2 c2 more w v0 v1 u0 u1 h1 h2 g1 g2 hse hge
    · clear h1 h2 hv hu
      go_enter Try.func13, Try.ntmps13
      go_wp2_with (fail)
      refine (awake02_any _).mono ?_
      rintro e w1 ⟨rfl, hb1⟩
      go_wp2
      go_ret
      exact ⟨rfl, hb1⟩
  · clear h1 h2 hv hu
    go_enter Try.func13, Try.ntmps13
    go_wp2_with (fail)
    refine (awake02_any _).mono ?_
    rintro e w1 ⟨rfl, hb1⟩
    go_wp2
    go_ret
    exact ⟨rfl, hb1⟩

end Go.Proofs.Ythflgoigbgnkoaa
