/-
  No cell of these rows narrows 'for every input' (looked for: loops, veiled, ifaces, maps, wideKeys, modest, calm, conditions, laid).
  DERIVED. THE GIVEN ROWS OF THIS SEAT. 6 by the template 'for every input the law returns true; each argument reads behind the call as it read before'; 0 by the template 'total and deterministic' (their statements: YtnbjkkhjphjdkaaTotals.lean).
  GIVEN WITH THE SEED: the statements are not yours to turn. If you find one false, say at which input.
  Laid BY PROGRAM, IN A SANDBOX (cutbox-rows.mjs): the forced cells as the released guide's own fill.sh prints them over the translation 41ac59f71cc12185… (all of the seat's roots in one cut). By AI agents, Wed Nov 11 2026. No macro, syntax, notation, axiom, sorry.
-/
import Derived.Test.YtnbjkkhjphjdkaaChecked
import GoSem.Claim
import GoSem.ClaimJoined
import GoSem.ClaimMapViews
import Derived.JoinedTies
import Derived.KernelRfl
namespace Go.Proofs.Ytnbjkkhjphjdkaa
/- THE CELL 'sum', in the pinned program and in every row, IS THE sha256 OF THE DUMP (.gsa) THAT YtnbjkkhjphjdkaaProg.lean LOADS. Nothing in Lean hashes anything: it is a label: what it is worth is what the hold of that sum in a sandbox is worth. -/
noncomputable def Try.pinned : Pinned := { name := "ytnbjkkhjphjdkaa", sum := "41ac59f71cc12185dcbbf9e17e22920c056bbd564da66e8c825f31275c179fa6", checked := Try.checked }
namespace Rows
def none {H : Type} : Left H := { results := [], args := [] }

/-- 'oghamlaw03.TlvWrites': WHATEVER THE INPUT: true; the input reads as it did. -/
def tlvWritesSpec : ChangeSpec := { name := "tlvWrites", fn := fun _ => fun
  | [d1, d2, d3, d4] => { results := [.lit (.bool true)], args := [d1, d2, d3, d4] }
  | _ => none }
def tlvWritesRow : OpenClaim := { program := "ytnbjkkhjphjdkaa", sum := "41ac59f71cc12185dcbbf9e17e22920c056bbd564da66e8c825f31275c179fa6", func := "ogham/oghamlaw03.TlvWrites", spec := "tlvWrites", unfollowed := true, recurses := true, apart := false }
def TlvWritesSaid : Prop := tlvWritesRow.holds Try.pinned (OpenSpec.ofChange tlvWritesSpec)

/-- ITS FALSE NEIGHBOUR: 'it returns false'. Refute it at one input. -/
def tlvWritesWrong : ChangeSpec := { name := "tlvWrites", fn := fun _ => fun
  | [d1, d2, d3, d4] => { results := [.lit (.bool false)], args := [d1, d2, d3, d4] }
  | _ => none }
def TlvWritesWrongFalsely : Prop := tlvWritesRow.holds Try.pinned (OpenSpec.ofChange tlvWritesWrong)

/-- 'oghamlaw03.TlvSizes': WHATEVER THE INPUT: true; the input reads as it did. -/
def tlvSizesSpec : ChangeSpec := { name := "tlvSizes", fn := fun _ => fun
  | [d1, d2, d3, d4] => { results := [.lit (.bool true)], args := [d1, d2, d3, d4] }
  | _ => none }
def tlvSizesRow : OpenClaim := { program := "ytnbjkkhjphjdkaa", sum := "41ac59f71cc12185dcbbf9e17e22920c056bbd564da66e8c825f31275c179fa6", func := "ogham/oghamlaw03.TlvSizes", spec := "tlvSizes", apart := false }
def TlvSizesSaid : Prop := tlvSizesRow.holds Try.pinned (OpenSpec.ofChange tlvSizesSpec)

/-- ITS FALSE NEIGHBOUR: 'it returns false'. Refute it at one input. -/
def tlvSizesWrong : ChangeSpec := { name := "tlvSizes", fn := fun _ => fun
  | [d1, d2, d3, d4] => { results := [.lit (.bool false)], args := [d1, d2, d3, d4] }
  | _ => none }
def TlvSizesWrongFalsely : Prop := tlvSizesRow.holds Try.pinned (OpenSpec.ofChange tlvSizesWrong)

/-- 'oghamlaw03.TlvTakes': WHATEVER THE INPUT: true; the input reads as it did. -/
def tlvTakesSpec : ChangeSpec := { name := "tlvTakes", fn := fun _ => fun
  | [d] => { results := [.lit (.bool true)], args := [d] }
  | _ => none }
def tlvTakesRow : OpenClaim := { program := "ytnbjkkhjphjdkaa", sum := "41ac59f71cc12185dcbbf9e17e22920c056bbd564da66e8c825f31275c179fa6", func := "ogham/oghamlaw03.TlvTakes", spec := "tlvTakes", unfollowed := true, recurses := true, apart := false }
def TlvTakesSaid : Prop := tlvTakesRow.holds Try.pinned (OpenSpec.ofChange tlvTakesSpec)

/-- ITS FALSE NEIGHBOUR: 'it returns false'. Refute it at one input. -/
def tlvTakesWrong : ChangeSpec := { name := "tlvTakes", fn := fun _ => fun
  | [d] => { results := [.lit (.bool false)], args := [d] }
  | _ => none }
def TlvTakesWrongFalsely : Prop := tlvTakesRow.holds Try.pinned (OpenSpec.ofChange tlvTakesWrong)

/-- 'oghamlaw03.TlvBack': WHATEVER THE INPUT: true; the input reads as it did. -/
def tlvBackSpec : ChangeSpec := { name := "tlvBack", fn := fun _ => fun
  | [d1, d2, d3, d4, d5] => { results := [.lit (.bool true)], args := [d1, d2, d3, d4, d5] }
  | _ => none }
def tlvBackRow : OpenClaim := { program := "ytnbjkkhjphjdkaa", sum := "41ac59f71cc12185dcbbf9e17e22920c056bbd564da66e8c825f31275c179fa6", func := "ogham/oghamlaw03.TlvBack", spec := "tlvBack", apart := false }
def TlvBackSaid : Prop := tlvBackRow.holds Try.pinned (OpenSpec.ofChange tlvBackSpec)

/-- ITS FALSE NEIGHBOUR: 'it returns false'. Refute it at one input. -/
def tlvBackWrong : ChangeSpec := { name := "tlvBack", fn := fun _ => fun
  | [d1, d2, d3, d4, d5] => { results := [.lit (.bool false)], args := [d1, d2, d3, d4, d5] }
  | _ => none }
def TlvBackWrongFalsely : Prop := tlvBackRow.holds Try.pinned (OpenSpec.ofChange tlvBackWrong)

/-- 'oghamlaw03.TlvCut': WHATEVER THE INPUT: true; the input reads as it did. -/
def tlvCutSpec : ChangeSpec := { name := "tlvCut", fn := fun _ => fun
  | [d1, d2, d3, d4] => { results := [.lit (.bool true)], args := [d1, d2, d3, d4] }
  | _ => none }
def tlvCutRow : OpenClaim := { program := "ytnbjkkhjphjdkaa", sum := "41ac59f71cc12185dcbbf9e17e22920c056bbd564da66e8c825f31275c179fa6", func := "ogham/oghamlaw03.TlvCut", spec := "tlvCut", apart := false }
def TlvCutSaid : Prop := tlvCutRow.holds Try.pinned (OpenSpec.ofChange tlvCutSpec)

/-- ITS FALSE NEIGHBOUR: 'it returns false'. Refute it at one input. -/
def tlvCutWrong : ChangeSpec := { name := "tlvCut", fn := fun _ => fun
  | [d1, d2, d3, d4] => { results := [.lit (.bool false)], args := [d1, d2, d3, d4] }
  | _ => none }
def TlvCutWrongFalsely : Prop := tlvCutRow.holds Try.pinned (OpenSpec.ofChange tlvCutWrong)

/-- 'oghamlaw03.TlvNest': WHATEVER THE INPUT: true; the input reads as it did. -/
def tlvNestSpec : ChangeSpec := { name := "tlvNest", fn := fun _ => fun
  | [d1, d2] => { results := [.lit (.bool true)], args := [d1, d2] }
  | _ => none }
def tlvNestRow : OpenClaim := { program := "ytnbjkkhjphjdkaa", sum := "41ac59f71cc12185dcbbf9e17e22920c056bbd564da66e8c825f31275c179fa6", func := "ogham/oghamlaw03.TlvNest", spec := "tlvNest", apart := false }
def TlvNestSaid : Prop := tlvNestRow.holds Try.pinned (OpenSpec.ofChange tlvNestSpec)

/-- ITS FALSE NEIGHBOUR: 'it returns false'. Refute it at one input. -/
def tlvNestWrong : ChangeSpec := { name := "tlvNest", fn := fun _ => fun
  | [d1, d2] => { results := [.lit (.bool false)], args := [d1, d2] }
  | _ => none }
def TlvNestWrongFalsely : Prop := tlvNestRow.holds Try.pinned (OpenSpec.ofChange tlvNestWrong)

/- THE SECOND FORM. 'bulk': how many values and letters a reading holds, each counted each time it is reached (what is shared counts as often as it is met; a slice's spare places count too). A statement '..UptoSaid' is the law's where the arguments, and the package variables that the reading takes, are together of bulk at most 1048576: NARROWER than '..Said'. Prove '..Said' where nothing that the law and all that it calls make is longer than what came in: it says more and counts as full. Else prove '..UptoSaid'. A law counts once. -/
mutual
def uptoBulk {H : Type} : DataW H → Nat
  | .lit (.string bytes) => bytes.length + 1
  | .lit _ => 1
  | .nil => 1
  | .ptr d => uptoBulk d + 1
  | .slice elems spare => uptoBulkAll elems + uptoBulkAll spare + 1
  | .agg parts => uptoBulkAll parts + 1
  | .iface _ d => uptoBulk d + 1
  | .map entries => uptoBulkEntries entries + 1
  | .held _ => 1
def uptoBulkAll {H : Type} : List (DataW H) → Nat
  | [] => 0
  | d :: r => uptoBulk d + uptoBulkAll r
def uptoBulkEntries {H : Type} : List (Lit × DataW H) → Nat
  | [] => 0
  | x :: r => uptoBulkEntry x + uptoBulkEntries r
def uptoBulkEntry {H : Type} : Lit × DataW H → Nat
  | (.string bytes, d) => bytes.length + uptoBulk d + 1
  | (_, d) => uptoBulk d + 1
 end
def uptoSmall : (H : Type) → List (DataW H) → Bool := fun _ ds => decide (uptoBulkAll ds ≤ 1048576)
def OpenSpec.upto (s : _root_.Go.ChangeSpec) : _root_.Go.OpenSpec := { _root_.Go.OpenSpec.ofChange s with cond := some uptoSmall }

/-- 'oghamlaw03.TlvWrites', WHERE WHAT IT READS IS OF BULK AT MOST 1048576: true; the input reads as it did. -/
def tlvWritesUptoRow : OpenClaim := { program := "ytnbjkkhjphjdkaa", sum := "41ac59f71cc12185dcbbf9e17e22920c056bbd564da66e8c825f31275c179fa6", func := "ogham/oghamlaw03.TlvWrites", spec := "tlvWrites", unfollowed := true, recurses := true, apart := false, narrowed := true }
def TlvWritesUptoSaid : Prop := tlvWritesUptoRow.holds Try.pinned (OpenSpec.upto tlvWritesSpec)

/-- 'oghamlaw03.TlvSizes', WHERE WHAT IT READS IS OF BULK AT MOST 1048576: true; the input reads as it did. -/
def tlvSizesUptoRow : OpenClaim := { program := "ytnbjkkhjphjdkaa", sum := "41ac59f71cc12185dcbbf9e17e22920c056bbd564da66e8c825f31275c179fa6", func := "ogham/oghamlaw03.TlvSizes", spec := "tlvSizes", apart := false, narrowed := true }
def TlvSizesUptoSaid : Prop := tlvSizesUptoRow.holds Try.pinned (OpenSpec.upto tlvSizesSpec)

/-- 'oghamlaw03.TlvTakes', WHERE WHAT IT READS IS OF BULK AT MOST 1048576: true; the input reads as it did. -/
def tlvTakesUptoRow : OpenClaim := { program := "ytnbjkkhjphjdkaa", sum := "41ac59f71cc12185dcbbf9e17e22920c056bbd564da66e8c825f31275c179fa6", func := "ogham/oghamlaw03.TlvTakes", spec := "tlvTakes", unfollowed := true, recurses := true, apart := false, narrowed := true }
def TlvTakesUptoSaid : Prop := tlvTakesUptoRow.holds Try.pinned (OpenSpec.upto tlvTakesSpec)

/-- 'oghamlaw03.TlvBack', WHERE WHAT IT READS IS OF BULK AT MOST 1048576: true; the input reads as it did. -/
def tlvBackUptoRow : OpenClaim := { program := "ytnbjkkhjphjdkaa", sum := "41ac59f71cc12185dcbbf9e17e22920c056bbd564da66e8c825f31275c179fa6", func := "ogham/oghamlaw03.TlvBack", spec := "tlvBack", apart := false, narrowed := true }
def TlvBackUptoSaid : Prop := tlvBackUptoRow.holds Try.pinned (OpenSpec.upto tlvBackSpec)

/-- 'oghamlaw03.TlvCut', WHERE WHAT IT READS IS OF BULK AT MOST 1048576: true; the input reads as it did. -/
def tlvCutUptoRow : OpenClaim := { program := "ytnbjkkhjphjdkaa", sum := "41ac59f71cc12185dcbbf9e17e22920c056bbd564da66e8c825f31275c179fa6", func := "ogham/oghamlaw03.TlvCut", spec := "tlvCut", apart := false, narrowed := true }
def TlvCutUptoSaid : Prop := tlvCutUptoRow.holds Try.pinned (OpenSpec.upto tlvCutSpec)

/-- 'oghamlaw03.TlvNest', WHERE WHAT IT READS IS OF BULK AT MOST 1048576: true; the input reads as it did. -/
def tlvNestUptoRow : OpenClaim := { program := "ytnbjkkhjphjdkaa", sum := "41ac59f71cc12185dcbbf9e17e22920c056bbd564da66e8c825f31275c179fa6", func := "ogham/oghamlaw03.TlvNest", spec := "tlvNest", apart := false, narrowed := true }
def TlvNestUptoSaid : Prop := tlvNestUptoRow.holds Try.pinned (OpenSpec.upto tlvNestSpec)

end Rows
end Go.Proofs.Ytnbjkkhjphjdkaa
