/-
  No cell of these rows narrows 'for every input' (looked for: loops, veiled, ifaces, maps, wideKeys, modest, calm, conditions, laid).
  DERIVED. THE GIVEN ROWS OF THIS SEAT. 11 by the template 'for every input the law returns true; each argument reads behind the call as it read before'; 0 by the template 'total and deterministic' (their statements: YthflgoigbgnkoaaTotals.lean).
  GIVEN WITH THE SEED: the statements are not yours to turn. If you find one false, say at which input.
  Laid BY PROGRAM, IN A SANDBOX (cutbox-rows.mjs): the forced cells as the released guide's own fill.sh prints them over the translation f4dd11de2a92b546… (all of the seat's roots in one cut). By AI agents, Wed Nov 11 2026. No macro, syntax, notation, axiom, sorry.
-/
import Derived.Test.YthflgoigbgnkoaaChecked
import GoSem.Claim
import GoSem.ClaimJoined
import GoSem.ClaimMapViews
import Derived.JoinedTies
import Derived.KernelRfl
namespace Go.Proofs.Ythflgoigbgnkoaa
/- THE CELL 'sum', in the pinned program and in every row, IS THE sha256 OF THE DUMP (.gsa) THAT YthflgoigbgnkoaaProg.lean LOADS. Nothing in Lean hashes anything: it is a label: what it is worth is what the hold of that sum in a sandbox is worth. -/
noncomputable def Try.pinned : Pinned := { name := "ythflgoigbgnkoaa", sum := "f4dd11de2a92b546292052d539e6696a9ddcda0bb7d58b6f1532cc1bdcfbd1e0", checked := Try.checked }
namespace Rows
def none {H : Type} : Left H := { results := [], args := [] }

/-- 'oghamlaw18.LengthCuts': WHATEVER THE INPUT: true; the input reads as it did. -/
def lengthCutsSpec : ChangeSpec := { name := "lengthCuts", fn := fun _ => fun
  | [d] => { results := [.lit (.bool true)], args := [d] }
  | _ => none }
def lengthCutsRow : OpenClaim := { program := "ythflgoigbgnkoaa", sum := "f4dd11de2a92b546292052d539e6696a9ddcda0bb7d58b6f1532cc1bdcfbd1e0", func := "ogham/oghamlaw18.LengthCuts", spec := "lengthCuts", unfollowed := true, recurses := true, apart := false }
def LengthCutsSaid : Prop := lengthCutsRow.holds Try.pinned (OpenSpec.ofChange lengthCutsSpec)

/-- ITS FALSE NEIGHBOUR: 'it returns false'. Refute it at one input. -/
def lengthCutsWrong : ChangeSpec := { name := "lengthCuts", fn := fun _ => fun
  | [d] => { results := [.lit (.bool false)], args := [d] }
  | _ => none }
def LengthCutsWrongFalsely : Prop := lengthCutsRow.holds Try.pinned (OpenSpec.ofChange lengthCutsWrong)

/-- 'oghamlaw02.OctetsCompare': WHATEVER THE INPUT: true; the input reads as it did. -/
def octetsCompareSpec : ChangeSpec := { name := "octetsCompare", fn := fun _ => fun
  | [d1, d2, d3] => { results := [.lit (.bool true)], args := [d1, d2, d3] }
  | _ => none }
def octetsCompareRow : OpenClaim := { program := "ythflgoigbgnkoaa", sum := "f4dd11de2a92b546292052d539e6696a9ddcda0bb7d58b6f1532cc1bdcfbd1e0", func := "ogham/oghamlaw02.OctetsCompare", spec := "octetsCompare", inPlace := ["internal/bytealg.Compare"], apart := false }
def OctetsCompareSaid : Prop := octetsCompareRow.holds Try.pinned (OpenSpec.ofChange octetsCompareSpec)

/-- ITS FALSE NEIGHBOUR: 'it returns false'. Refute it at one input. -/
def octetsCompareWrong : ChangeSpec := { name := "octetsCompare", fn := fun _ => fun
  | [d1, d2, d3] => { results := [.lit (.bool false)], args := [d1, d2, d3] }
  | _ => none }
def OctetsCompareWrongFalsely : Prop := octetsCompareRow.holds Try.pinned (OpenSpec.ofChange octetsCompareWrong)

/-- 'oghamlaw02.OctetsSizes': WHATEVER THE INPUT: true; the input reads as it did. -/
def octetsSizesSpec : ChangeSpec := { name := "octetsSizes", fn := fun _ => fun
  | [d1, d2] => { results := [.lit (.bool true)], args := [d1, d2] }
  | _ => none }
def octetsSizesRow : OpenClaim := { program := "ythflgoigbgnkoaa", sum := "f4dd11de2a92b546292052d539e6696a9ddcda0bb7d58b6f1532cc1bdcfbd1e0", func := "ogham/oghamlaw02.OctetsSizes", spec := "octetsSizes", apart := false }
def OctetsSizesSaid : Prop := octetsSizesRow.holds Try.pinned (OpenSpec.ofChange octetsSizesSpec)

/-- ITS FALSE NEIGHBOUR: 'it returns false'. Refute it at one input. -/
def octetsSizesWrong : ChangeSpec := { name := "octetsSizes", fn := fun _ => fun
  | [d1, d2] => { results := [.lit (.bool false)], args := [d1, d2] }
  | _ => none }
def OctetsSizesWrongFalsely : Prop := octetsSizesRow.holds Try.pinned (OpenSpec.ofChange octetsSizesWrong)

/-- 'oghamlaw02.OctetsJoin': WHATEVER THE INPUT: true; the input reads as it did. -/
def octetsJoinSpec : ChangeSpec := { name := "octetsJoin", fn := fun _ => fun
  | [d1, d2] => { results := [.lit (.bool true)], args := [d1, d2] }
  | _ => none }
def octetsJoinRow : OpenClaim := { program := "ythflgoigbgnkoaa", sum := "f4dd11de2a92b546292052d539e6696a9ddcda0bb7d58b6f1532cc1bdcfbd1e0", func := "ogham/oghamlaw02.OctetsJoin", spec := "octetsJoin", apart := false }
def OctetsJoinSaid : Prop := octetsJoinRow.holds Try.pinned (OpenSpec.ofChange octetsJoinSpec)

/-- ITS FALSE NEIGHBOUR: 'it returns false'. Refute it at one input. -/
def octetsJoinWrong : ChangeSpec := { name := "octetsJoin", fn := fun _ => fun
  | [d1, d2] => { results := [.lit (.bool false)], args := [d1, d2] }
  | _ => none }
def OctetsJoinWrongFalsely : Prop := octetsJoinRow.holds Try.pinned (OpenSpec.ofChange octetsJoinWrong)

/-- 'oghamlaw08.BoundsFit': WHATEVER THE INPUT: true; the input reads as it did. -/
def boundsFitSpec : ChangeSpec := { name := "boundsFit", fn := fun _ => fun
  | [d1, d2, d3] => { results := [.lit (.bool true)], args := [d1, d2, d3] }
  | _ => none }
def boundsFitRow : OpenClaim := { program := "ythflgoigbgnkoaa", sum := "f4dd11de2a92b546292052d539e6696a9ddcda0bb7d58b6f1532cc1bdcfbd1e0", func := "ogham/oghamlaw08.BoundsFit", spec := "boundsFit", apart := false }
def BoundsFitSaid : Prop := boundsFitRow.holds Try.pinned (OpenSpec.ofChange boundsFitSpec)

/-- ITS FALSE NEIGHBOUR: 'it returns false'. Refute it at one input. -/
def boundsFitWrong : ChangeSpec := { name := "boundsFit", fn := fun _ => fun
  | [d1, d2, d3] => { results := [.lit (.bool false)], args := [d1, d2, d3] }
  | _ => none }
def BoundsFitWrongFalsely : Prop := boundsFitRow.holds Try.pinned (OpenSpec.ofChange boundsFitWrong)

/-- 'oghamlaw02.OctetsOrder': WHATEVER THE INPUT: true; the input reads as it did. -/
def octetsOrderSpec : ChangeSpec := { name := "octetsOrder", fn := fun _ => fun
  | [d1, d2] => { results := [.lit (.bool true)], args := [d1, d2] }
  | _ => none }
def octetsOrderRow : OpenClaim := { program := "ythflgoigbgnkoaa", sum := "f4dd11de2a92b546292052d539e6696a9ddcda0bb7d58b6f1532cc1bdcfbd1e0", func := "ogham/oghamlaw02.OctetsOrder", spec := "octetsOrder", inPlace := ["internal/bytealg.Compare"], unfollowed := true, recurses := true, apart := false }
def OctetsOrderSaid : Prop := octetsOrderRow.holds Try.pinned (OpenSpec.ofChange octetsOrderSpec)

/-- ITS FALSE NEIGHBOUR: 'it returns false'. Refute it at one input. -/
def octetsOrderWrong : ChangeSpec := { name := "octetsOrder", fn := fun _ => fun
  | [d1, d2] => { results := [.lit (.bool false)], args := [d1, d2] }
  | _ => none }
def OctetsOrderWrongFalsely : Prop := octetsOrderRow.holds Try.pinned (OpenSpec.ofChange octetsOrderWrong)

/-- 'oghamlaw08.BoundsTell': WHATEVER THE INPUT: true; the input reads as it did. -/
def boundsTellSpec : ChangeSpec := { name := "boundsTell", fn := fun _ => fun
  | [d1, d2, d3, d4] => { results := [.lit (.bool true)], args := [d1, d2, d3, d4] }
  | _ => none }
def boundsTellRow : OpenClaim := { program := "ythflgoigbgnkoaa", sum := "f4dd11de2a92b546292052d539e6696a9ddcda0bb7d58b6f1532cc1bdcfbd1e0", func := "ogham/oghamlaw08.BoundsTell", spec := "boundsTell", apart := false }
def BoundsTellSaid : Prop := boundsTellRow.holds Try.pinned (OpenSpec.ofChange boundsTellSpec)

/-- ITS FALSE NEIGHBOUR: 'it returns false'. Refute it at one input. -/
def boundsTellWrong : ChangeSpec := { name := "boundsTell", fn := fun _ => fun
  | [d1, d2, d3, d4] => { results := [.lit (.bool false)], args := [d1, d2, d3, d4] }
  | _ => none }
def BoundsTellWrongFalsely : Prop := boundsTellRow.holds Try.pinned (OpenSpec.ofChange boundsTellWrong)

/-- 'oghamlaw08.BoundsEnds': WHATEVER THE INPUT: true; the input reads as it did. -/
def boundsEndsSpec : ChangeSpec := { name := "boundsEnds", fn := fun _ => fun
  | [d1, d2] => { results := [.lit (.bool true)], args := [d1, d2] }
  | _ => none }
def boundsEndsRow : OpenClaim := { program := "ythflgoigbgnkoaa", sum := "f4dd11de2a92b546292052d539e6696a9ddcda0bb7d58b6f1532cc1bdcfbd1e0", func := "ogham/oghamlaw08.BoundsEnds", spec := "boundsEnds", apart := false }
def BoundsEndsSaid : Prop := boundsEndsRow.holds Try.pinned (OpenSpec.ofChange boundsEndsSpec)

/-- ITS FALSE NEIGHBOUR: 'it returns false'. Refute it at one input. -/
def boundsEndsWrong : ChangeSpec := { name := "boundsEnds", fn := fun _ => fun
  | [d1, d2] => { results := [.lit (.bool false)], args := [d1, d2] }
  | _ => none }
def BoundsEndsWrongFalsely : Prop := boundsEndsRow.holds Try.pinned (OpenSpec.ofChange boundsEndsWrong)

/-- 'oghamlaw02.OctetsWrite': WHATEVER THE INPUT: true; the input reads as it did. -/
def octetsWriteSpec : ChangeSpec := { name := "octetsWrite", fn := fun _ => fun
  | [d1, d2, d3, d4, d5] => { results := [.lit (.bool true)], args := [d1, d2, d3, d4, d5] }
  | _ => none }
def octetsWriteRow : OpenClaim := { program := "ythflgoigbgnkoaa", sum := "f4dd11de2a92b546292052d539e6696a9ddcda0bb7d58b6f1532cc1bdcfbd1e0", func := "ogham/oghamlaw02.OctetsWrite", spec := "octetsWrite", inPlace := ["internal/bytealg.Compare"], unfollowed := true, recurses := true, apart := false }
def OctetsWriteSaid : Prop := octetsWriteRow.holds Try.pinned (OpenSpec.ofChange octetsWriteSpec)

/-- ITS FALSE NEIGHBOUR: 'it returns false'. Refute it at one input. -/
def octetsWriteWrong : ChangeSpec := { name := "octetsWrite", fn := fun _ => fun
  | [d1, d2, d3, d4, d5] => { results := [.lit (.bool false)], args := [d1, d2, d3, d4, d5] }
  | _ => none }
def OctetsWriteWrongFalsely : Prop := octetsWriteRow.holds Try.pinned (OpenSpec.ofChange octetsWriteWrong)

/-- 'oghamlaw02.OctetsRead': WHATEVER THE INPUT: true; the input reads as it did. -/
def octetsReadSpec : ChangeSpec := { name := "octetsRead", fn := fun _ => fun
  | [d] => { results := [.lit (.bool true)], args := [d] }
  | _ => none }
def octetsReadRow : OpenClaim := { program := "ythflgoigbgnkoaa", sum := "f4dd11de2a92b546292052d539e6696a9ddcda0bb7d58b6f1532cc1bdcfbd1e0", func := "ogham/oghamlaw02.OctetsRead", spec := "octetsRead", unfollowed := true, recurses := true, apart := false }
def OctetsReadSaid : Prop := octetsReadRow.holds Try.pinned (OpenSpec.ofChange octetsReadSpec)

/-- ITS FALSE NEIGHBOUR: 'it returns false'. Refute it at one input. -/
def octetsReadWrong : ChangeSpec := { name := "octetsRead", fn := fun _ => fun
  | [d] => { results := [.lit (.bool false)], args := [d] }
  | _ => none }
def OctetsReadWrongFalsely : Prop := octetsReadRow.holds Try.pinned (OpenSpec.ofChange octetsReadWrong)

/-- 'oghamlaw02.OctetsBack': WHATEVER THE INPUT: true; the input reads as it did. -/
def octetsBackSpec : ChangeSpec := { name := "octetsBack", fn := fun _ => fun
  | [d1, d2, d3, d4] => { results := [.lit (.bool true)], args := [d1, d2, d3, d4] }
  | _ => none }
def octetsBackRow : OpenClaim := { program := "ythflgoigbgnkoaa", sum := "f4dd11de2a92b546292052d539e6696a9ddcda0bb7d58b6f1532cc1bdcfbd1e0", func := "ogham/oghamlaw02.OctetsBack", spec := "octetsBack", apart := false }
def OctetsBackSaid : Prop := octetsBackRow.holds Try.pinned (OpenSpec.ofChange octetsBackSpec)

/-- ITS FALSE NEIGHBOUR: 'it returns false'. Refute it at one input. -/
def octetsBackWrong : ChangeSpec := { name := "octetsBack", fn := fun _ => fun
  | [d1, d2, d3, d4] => { results := [.lit (.bool false)], args := [d1, d2, d3, d4] }
  | _ => none }
def OctetsBackWrongFalsely : Prop := octetsBackRow.holds Try.pinned (OpenSpec.ofChange octetsBackWrong)

/- THE SECOND FORM. 'bulk': how many values and letters a reading holds, each counted each time it is reached (what is shared counts as often as it is met; a slice's spare places count too). A statement '..UptoSaid' is the law's where the arguments, and the package variables that the reading takes, are together of bulk at most 1048576: NARROWER than '..Said'. Prove '..Said' where nothing that the law and all that it calls make is longer than what came in: it says more and counts as full. Else prove '..UptoSaid'. A law counts once. -/
mutual
def uptoBulk {H : Type} : DataW H → Nat
  | .lit (.string bytes) => bytes.length + 1
  | .lit _ => 1
  | .nil => 1
  | .ptr d => uptoBulk d + 1
  | .slice elems spare => uptoBulkAll elems + uptoBulkAll spare + 1
  | .agg parts => uptoBulkAll parts + 1
  | .iface _ d => uptoBulk d + 1
  | .map entries => uptoBulkEntries entries + 1
  | .held _ => 1
def uptoBulkAll {H : Type} : List (DataW H) → Nat
  | [] => 0
  | d :: r => uptoBulk d + uptoBulkAll r
def uptoBulkEntries {H : Type} : List (Lit × DataW H) → Nat
  | [] => 0
  | x :: r => uptoBulkEntry x + uptoBulkEntries r
def uptoBulkEntry {H : Type} : Lit × DataW H → Nat
  | (.string bytes, d) => bytes.length + uptoBulk d + 1
  | (_, d) => uptoBulk d + 1
 end
def uptoSmall : (H : Type) → List (DataW H) → Bool := fun _ ds => decide (uptoBulkAll ds ≤ 1048576)
def OpenSpec.upto (s : _root_.Go.ChangeSpec) : _root_.Go.OpenSpec := { _root_.Go.OpenSpec.ofChange s with cond := some uptoSmall }

/-- 'oghamlaw18.LengthCuts', WHERE WHAT IT READS IS OF BULK AT MOST 1048576: true; the input reads as it did. -/
def lengthCutsUptoRow : OpenClaim := { program := "ythflgoigbgnkoaa", sum := "f4dd11de2a92b546292052d539e6696a9ddcda0bb7d58b6f1532cc1bdcfbd1e0", func := "ogham/oghamlaw18.LengthCuts", spec := "lengthCuts", unfollowed := true, recurses := true, apart := false, narrowed := true }
def LengthCutsUptoSaid : Prop := lengthCutsUptoRow.holds Try.pinned (OpenSpec.upto lengthCutsSpec)

/-- 'oghamlaw02.OctetsCompare', WHERE WHAT IT READS IS OF BULK AT MOST 1048576: true; the input reads as it did. -/
def octetsCompareUptoRow : OpenClaim := { program := "ythflgoigbgnkoaa", sum := "f4dd11de2a92b546292052d539e6696a9ddcda0bb7d58b6f1532cc1bdcfbd1e0", func := "ogham/oghamlaw02.OctetsCompare", spec := "octetsCompare", inPlace := ["internal/bytealg.Compare"], apart := false, narrowed := true }
def OctetsCompareUptoSaid : Prop := octetsCompareUptoRow.holds Try.pinned (OpenSpec.upto octetsCompareSpec)

/-- 'oghamlaw02.OctetsSizes', WHERE WHAT IT READS IS OF BULK AT MOST 1048576: true; the input reads as it did. -/
def octetsSizesUptoRow : OpenClaim := { program := "ythflgoigbgnkoaa", sum := "f4dd11de2a92b546292052d539e6696a9ddcda0bb7d58b6f1532cc1bdcfbd1e0", func := "ogham/oghamlaw02.OctetsSizes", spec := "octetsSizes", apart := false, narrowed := true }
def OctetsSizesUptoSaid : Prop := octetsSizesUptoRow.holds Try.pinned (OpenSpec.upto octetsSizesSpec)

/-- 'oghamlaw02.OctetsJoin', WHERE WHAT IT READS IS OF BULK AT MOST 1048576: true; the input reads as it did. -/
def octetsJoinUptoRow : OpenClaim := { program := "ythflgoigbgnkoaa", sum := "f4dd11de2a92b546292052d539e6696a9ddcda0bb7d58b6f1532cc1bdcfbd1e0", func := "ogham/oghamlaw02.OctetsJoin", spec := "octetsJoin", apart := false, narrowed := true }
def OctetsJoinUptoSaid : Prop := octetsJoinUptoRow.holds Try.pinned (OpenSpec.upto octetsJoinSpec)

/-- 'oghamlaw08.BoundsFit', WHERE WHAT IT READS IS OF BULK AT MOST 1048576: true; the input reads as it did. -/
def boundsFitUptoRow : OpenClaim := { program := "ythflgoigbgnkoaa", sum := "f4dd11de2a92b546292052d539e6696a9ddcda0bb7d58b6f1532cc1bdcfbd1e0", func := "ogham/oghamlaw08.BoundsFit", spec := "boundsFit", apart := false, narrowed := true }
def BoundsFitUptoSaid : Prop := boundsFitUptoRow.holds Try.pinned (OpenSpec.upto boundsFitSpec)

/-- 'oghamlaw02.OctetsOrder', WHERE WHAT IT READS IS OF BULK AT MOST 1048576: true; the input reads as it did. -/
def octetsOrderUptoRow : OpenClaim := { program := "ythflgoigbgnkoaa", sum := "f4dd11de2a92b546292052d539e6696a9ddcda0bb7d58b6f1532cc1bdcfbd1e0", func := "ogham/oghamlaw02.OctetsOrder", spec := "octetsOrder", inPlace := ["internal/bytealg.Compare"], unfollowed := true, recurses := true, apart := false, narrowed := true }
def OctetsOrderUptoSaid : Prop := octetsOrderUptoRow.holds Try.pinned (OpenSpec.upto octetsOrderSpec)

/-- 'oghamlaw08.BoundsTell', WHERE WHAT IT READS IS OF BULK AT MOST 1048576: true; the input reads as it did. -/
def boundsTellUptoRow : OpenClaim := { program := "ythflgoigbgnkoaa", sum := "f4dd11de2a92b546292052d539e6696a9ddcda0bb7d58b6f1532cc1bdcfbd1e0", func := "ogham/oghamlaw08.BoundsTell", spec := "boundsTell", apart := false, narrowed := true }
def BoundsTellUptoSaid : Prop := boundsTellUptoRow.holds Try.pinned (OpenSpec.upto boundsTellSpec)

/-- 'oghamlaw08.BoundsEnds', WHERE WHAT IT READS IS OF BULK AT MOST 1048576: true; the input reads as it did. -/
def boundsEndsUptoRow : OpenClaim := { program := "ythflgoigbgnkoaa", sum := "f4dd11de2a92b546292052d539e6696a9ddcda0bb7d58b6f1532cc1bdcfbd1e0", func := "ogham/oghamlaw08.BoundsEnds", spec := "boundsEnds", apart := false, narrowed := true }
def BoundsEndsUptoSaid : Prop := boundsEndsUptoRow.holds Try.pinned (OpenSpec.upto boundsEndsSpec)

/-- 'oghamlaw02.OctetsWrite', WHERE WHAT IT READS IS OF BULK AT MOST 1048576: true; the input reads as it did. -/
def octetsWriteUptoRow : OpenClaim := { program := "ythflgoigbgnkoaa", sum := "f4dd11de2a92b546292052d539e6696a9ddcda0bb7d58b6f1532cc1bdcfbd1e0", func := "ogham/oghamlaw02.OctetsWrite", spec := "octetsWrite", inPlace := ["internal/bytealg.Compare"], unfollowed := true, recurses := true, apart := false, narrowed := true }
def OctetsWriteUptoSaid : Prop := octetsWriteUptoRow.holds Try.pinned (OpenSpec.upto octetsWriteSpec)

/-- 'oghamlaw02.OctetsRead', WHERE WHAT IT READS IS OF BULK AT MOST 1048576: true; the input reads as it did. -/
def octetsReadUptoRow : OpenClaim := { program := "ythflgoigbgnkoaa", sum := "f4dd11de2a92b546292052d539e6696a9ddcda0bb7d58b6f1532cc1bdcfbd1e0", func := "ogham/oghamlaw02.OctetsRead", spec := "octetsRead", unfollowed := true, recurses := true, apart := false, narrowed := true }
def OctetsReadUptoSaid : Prop := octetsReadUptoRow.holds Try.pinned (OpenSpec.upto octetsReadSpec)

/-- 'oghamlaw02.OctetsBack', WHERE WHAT IT READS IS OF BULK AT MOST 1048576: true; the input reads as it did. -/
def octetsBackUptoRow : OpenClaim := { program := "ythflgoigbgnkoaa", sum := "f4dd11de2a92b546292052d539e6696a9ddcda0bb7d58b6f1532cc1bdcfbd1e0", func := "ogham/oghamlaw02.OctetsBack", spec := "octetsBack", apart := false, narrowed := true }
def OctetsBackUptoSaid : Prop := octetsBackUptoRow.holds Try.pinned (OpenSpec.upto octetsBackSpec)

end Rows
end Go.Proofs.Ythflgoigbgnkoaa
