/-
  No cell of these rows narrows 'for every input' (looked for: loops, veiled, ifaces, maps, wideKeys, modest, calm, conditions, laid).
  DERIVED. THE GIVEN ROWS OF THIS SEAT. 14 by the template 'for every input the law returns true; each argument reads behind the call as it read before'; 0 by the template 'total and deterministic' (their statements: YtikfogepdmpfaaaTotals.lean).
  GIVEN WITH THE SEED: the statements are not yours to turn. If you find one false, say at which input.
  Laid BY PROGRAM, IN A SANDBOX (cutbox-rows.mjs): the forced cells as the released guide's own fill.sh prints them over the translation bc755bb74aba0270… (all of the seat's roots in one cut). By AI agents, Wed Nov 11 2026. No macro, syntax, notation, axiom, sorry.
-/
import Derived.Test.YtikfogepdmpfaaaChecked
import GoSem.Claim
import GoSem.ClaimJoined
import GoSem.ClaimMapViews
import Derived.JoinedTies
import Derived.KernelRfl
namespace Go.Proofs.Ytikfogepdmpfaaa
/- THE CELL 'sum', in the pinned program and in every row, IS THE sha256 OF THE DUMP (.gsa) THAT YtikfogepdmpfaaaProg.lean LOADS. Nothing in Lean hashes anything: it is a label: what it is worth is what the hold of that sum in a sandbox is worth. -/
noncomputable def Try.pinned : Pinned := { name := "ytikfogepdmpfaaa", sum := "bc755bb74aba0270d06075f2b4d190f62aef5ec5662a60967708ef4a9cb51583", checked := Try.checked }
namespace Rows
def none {H : Type} : Left H := { results := [], args := [] }

/-- 'oghamlaw01.BitsWrite': WHATEVER THE INPUT: true; the input reads as it did. -/
def bitsWriteSpec : ChangeSpec := { name := "bitsWrite", fn := fun _ => fun
  | [d] => { results := [.lit (.bool true)], args := [d] }
  | _ => none }
def bitsWriteRow : OpenClaim := { program := "ytikfogepdmpfaaa", sum := "bc755bb74aba0270d06075f2b4d190f62aef5ec5662a60967708ef4a9cb51583", func := "ogham/oghamlaw01.BitsWrite", spec := "bitsWrite", unfollowed := true, recurses := true, apart := false }
def BitsWriteSaid : Prop := bitsWriteRow.holds Try.pinned (OpenSpec.ofChange bitsWriteSpec)

/-- ITS FALSE NEIGHBOUR: 'it returns false'. Refute it at one input. -/
def bitsWriteWrong : ChangeSpec := { name := "bitsWrite", fn := fun _ => fun
  | [d] => { results := [.lit (.bool false)], args := [d] }
  | _ => none }
def BitsWriteWrongFalsely : Prop := bitsWriteRow.holds Try.pinned (OpenSpec.ofChange bitsWriteWrong)

/-- 'oghamlaw01.BitsOctets': WHATEVER THE INPUT: true; the input reads as it did. -/
def bitsOctetsSpec : ChangeSpec := { name := "bitsOctets", fn := fun _ => fun
  | [d1, d2] => { results := [.lit (.bool true)], args := [d1, d2] }
  | _ => none }
def bitsOctetsRow : OpenClaim := { program := "ytikfogepdmpfaaa", sum := "bc755bb74aba0270d06075f2b4d190f62aef5ec5662a60967708ef4a9cb51583", func := "ogham/oghamlaw01.BitsOctets", spec := "bitsOctets", apart := false }
def BitsOctetsSaid : Prop := bitsOctetsRow.holds Try.pinned (OpenSpec.ofChange bitsOctetsSpec)

/-- ITS FALSE NEIGHBOUR: 'it returns false'. Refute it at one input. -/
def bitsOctetsWrong : ChangeSpec := { name := "bitsOctets", fn := fun _ => fun
  | [d1, d2] => { results := [.lit (.bool false)], args := [d1, d2] }
  | _ => none }
def BitsOctetsWrongFalsely : Prop := bitsOctetsRow.holds Try.pinned (OpenSpec.ofChange bitsOctetsWrong)

/-- 'oghamlaw01.BitsSplit': WHATEVER THE INPUT: true; the input reads as it did. -/
def bitsSplitSpec : ChangeSpec := { name := "bitsSplit", fn := fun _ => fun
  | [d1, d2, d3] => { results := [.lit (.bool true)], args := [d1, d2, d3] }
  | _ => none }
def bitsSplitRow : OpenClaim := { program := "ytikfogepdmpfaaa", sum := "bc755bb74aba0270d06075f2b4d190f62aef5ec5662a60967708ef4a9cb51583", func := "ogham/oghamlaw01.BitsSplit", spec := "bitsSplit", apart := false }
def BitsSplitSaid : Prop := bitsSplitRow.holds Try.pinned (OpenSpec.ofChange bitsSplitSpec)

/-- ITS FALSE NEIGHBOUR: 'it returns false'. Refute it at one input. -/
def bitsSplitWrong : ChangeSpec := { name := "bitsSplit", fn := fun _ => fun
  | [d1, d2, d3] => { results := [.lit (.bool false)], args := [d1, d2, d3] }
  | _ => none }
def BitsSplitWrongFalsely : Prop := bitsSplitRow.holds Try.pinned (OpenSpec.ofChange bitsSplitWrong)

/-- 'oghamlaw17.WholeWrites': WHATEVER THE INPUT: true; the input reads as it did. -/
def wholeWritesSpec : ChangeSpec := { name := "wholeWrites", fn := fun _ => fun
  | [d] => { results := [.lit (.bool true)], args := [d] }
  | _ => none }
def wholeWritesRow : OpenClaim := { program := "ytikfogepdmpfaaa", sum := "bc755bb74aba0270d06075f2b4d190f62aef5ec5662a60967708ef4a9cb51583", func := "ogham/oghamlaw17.WholeWrites", spec := "wholeWrites", unfollowed := true, recurses := true, apart := false }
def WholeWritesSaid : Prop := wholeWritesRow.holds Try.pinned (OpenSpec.ofChange wholeWritesSpec)

/-- ITS FALSE NEIGHBOUR: 'it returns false'. Refute it at one input. -/
def wholeWritesWrong : ChangeSpec := { name := "wholeWrites", fn := fun _ => fun
  | [d] => { results := [.lit (.bool false)], args := [d] }
  | _ => none }
def WholeWritesWrongFalsely : Prop := wholeWritesRow.holds Try.pinned (OpenSpec.ofChange wholeWritesWrong)

/-- 'oghamlaw17.WholeWidths': WHATEVER THE INPUT: true; the input reads as it did. -/
def wholeWidthsSpec : ChangeSpec := { name := "wholeWidths", fn := fun _ => fun
  | [d1, d2, d3] => { results := [.lit (.bool true)], args := [d1, d2, d3] }
  | _ => none }
def wholeWidthsRow : OpenClaim := { program := "ytikfogepdmpfaaa", sum := "bc755bb74aba0270d06075f2b4d190f62aef5ec5662a60967708ef4a9cb51583", func := "ogham/oghamlaw17.WholeWidths", spec := "wholeWidths", apart := false }
def WholeWidthsSaid : Prop := wholeWidthsRow.holds Try.pinned (OpenSpec.ofChange wholeWidthsSpec)

/-- ITS FALSE NEIGHBOUR: 'it returns false'. Refute it at one input. -/
def wholeWidthsWrong : ChangeSpec := { name := "wholeWidths", fn := fun _ => fun
  | [d1, d2, d3] => { results := [.lit (.bool false)], args := [d1, d2, d3] }
  | _ => none }
def WholeWidthsWrongFalsely : Prop := wholeWidthsRow.holds Try.pinned (OpenSpec.ofChange wholeWidthsWrong)

/-- 'oghamlaw01.BitsNil': WHATEVER THE INPUT: true; the input reads as it did. -/
def bitsNilSpec : ChangeSpec := { name := "bitsNil", fn := fun _ => fun
  | [d1, d2] => { results := [.lit (.bool true)], args := [d1, d2] }
  | _ => none }
def bitsNilRow : OpenClaim := { program := "ytikfogepdmpfaaa", sum := "bc755bb74aba0270d06075f2b4d190f62aef5ec5662a60967708ef4a9cb51583", func := "ogham/oghamlaw01.BitsNil", spec := "bitsNil", apart := false }
def BitsNilSaid : Prop := bitsNilRow.holds Try.pinned (OpenSpec.ofChange bitsNilSpec)

/-- ITS FALSE NEIGHBOUR: 'it returns false'. Refute it at one input. -/
def bitsNilWrong : ChangeSpec := { name := "bitsNil", fn := fun _ => fun
  | [d1, d2] => { results := [.lit (.bool false)], args := [d1, d2] }
  | _ => none }
def BitsNilWrongFalsely : Prop := bitsNilRow.holds Try.pinned (OpenSpec.ofChange bitsNilWrong)

/-- 'oghamlaw18.LengthPuts': WHATEVER THE INPUT: true; the input reads as it did. -/
def lengthPutsSpec : ChangeSpec := { name := "lengthPuts", fn := fun _ => fun
  | [d1, d2] => { results := [.lit (.bool true)], args := [d1, d2] }
  | _ => none }
def lengthPutsRow : OpenClaim := { program := "ytikfogepdmpfaaa", sum := "bc755bb74aba0270d06075f2b4d190f62aef5ec5662a60967708ef4a9cb51583", func := "ogham/oghamlaw18.LengthPuts", spec := "lengthPuts", apart := false }
def LengthPutsSaid : Prop := lengthPutsRow.holds Try.pinned (OpenSpec.ofChange lengthPutsSpec)

/-- ITS FALSE NEIGHBOUR: 'it returns false'. Refute it at one input. -/
def lengthPutsWrong : ChangeSpec := { name := "lengthPuts", fn := fun _ => fun
  | [d1, d2] => { results := [.lit (.bool false)], args := [d1, d2] }
  | _ => none }
def LengthPutsWrongFalsely : Prop := lengthPutsRow.holds Try.pinned (OpenSpec.ofChange lengthPutsWrong)

/-- 'oghamlaw01.BitsRead': WHATEVER THE INPUT: true; the input reads as it did. -/
def bitsReadSpec : ChangeSpec := { name := "bitsRead", fn := fun _ => fun
  | [d1, d2] => { results := [.lit (.bool true)], args := [d1, d2] }
  | _ => none }
def bitsReadRow : OpenClaim := { program := "ytikfogepdmpfaaa", sum := "bc755bb74aba0270d06075f2b4d190f62aef5ec5662a60967708ef4a9cb51583", func := "ogham/oghamlaw01.BitsRead", spec := "bitsRead", unfollowed := true, recurses := true, apart := false }
def BitsReadSaid : Prop := bitsReadRow.holds Try.pinned (OpenSpec.ofChange bitsReadSpec)

/-- ITS FALSE NEIGHBOUR: 'it returns false'. Refute it at one input. -/
def bitsReadWrong : ChangeSpec := { name := "bitsRead", fn := fun _ => fun
  | [d1, d2] => { results := [.lit (.bool false)], args := [d1, d2] }
  | _ => none }
def BitsReadWrongFalsely : Prop := bitsReadRow.holds Try.pinned (OpenSpec.ofChange bitsReadWrong)

/-- 'oghamlaw01.BitsBack': WHATEVER THE INPUT: true; the input reads as it did. -/
def bitsBackSpec : ChangeSpec := { name := "bitsBack", fn := fun _ => fun
  | [d] => { results := [.lit (.bool true)], args := [d] }
  | _ => none }
def bitsBackRow : OpenClaim := { program := "ytikfogepdmpfaaa", sum := "bc755bb74aba0270d06075f2b4d190f62aef5ec5662a60967708ef4a9cb51583", func := "ogham/oghamlaw01.BitsBack", spec := "bitsBack", apart := false }
def BitsBackSaid : Prop := bitsBackRow.holds Try.pinned (OpenSpec.ofChange bitsBackSpec)

/-- ITS FALSE NEIGHBOUR: 'it returns false'. Refute it at one input. -/
def bitsBackWrong : ChangeSpec := { name := "bitsBack", fn := fun _ => fun
  | [d] => { results := [.lit (.bool false)], args := [d] }
  | _ => none }
def BitsBackWrongFalsely : Prop := bitsBackRow.holds Try.pinned (OpenSpec.ofChange bitsBackWrong)

/-- 'oghamlaw18.LengthMany': WHATEVER THE INPUT: true; the input reads as it did. -/
def lengthManySpec : ChangeSpec := { name := "lengthMany", fn := fun _ => fun
  | [d1, d2, d3] => { results := [.lit (.bool true)], args := [d1, d2, d3] }
  | _ => none }
def lengthManyRow : OpenClaim := { program := "ytikfogepdmpfaaa", sum := "bc755bb74aba0270d06075f2b4d190f62aef5ec5662a60967708ef4a9cb51583", func := "ogham/oghamlaw18.LengthMany", spec := "lengthMany", unfollowed := true, recurses := true, apart := false }
def LengthManySaid : Prop := lengthManyRow.holds Try.pinned (OpenSpec.ofChange lengthManySpec)

/-- ITS FALSE NEIGHBOUR: 'it returns false'. Refute it at one input. -/
def lengthManyWrong : ChangeSpec := { name := "lengthMany", fn := fun _ => fun
  | [d1, d2, d3] => { results := [.lit (.bool false)], args := [d1, d2, d3] }
  | _ => none }
def LengthManyWrongFalsely : Prop := lengthManyRow.holds Try.pinned (OpenSpec.ofChange lengthManyWrong)

/-- 'oghamlaw17.WholeReads': WHATEVER THE INPUT: true; the input reads as it did. -/
def wholeReadsSpec : ChangeSpec := { name := "wholeReads", fn := fun _ => fun
  | [d1, d2] => { results := [.lit (.bool true)], args := [d1, d2] }
  | _ => none }
def wholeReadsRow : OpenClaim := { program := "ytikfogepdmpfaaa", sum := "bc755bb74aba0270d06075f2b4d190f62aef5ec5662a60967708ef4a9cb51583", func := "ogham/oghamlaw17.WholeReads", spec := "wholeReads", unfollowed := true, recurses := true, apart := false }
def WholeReadsSaid : Prop := wholeReadsRow.holds Try.pinned (OpenSpec.ofChange wholeReadsSpec)

/-- ITS FALSE NEIGHBOUR: 'it returns false'. Refute it at one input. -/
def wholeReadsWrong : ChangeSpec := { name := "wholeReads", fn := fun _ => fun
  | [d1, d2] => { results := [.lit (.bool false)], args := [d1, d2] }
  | _ => none }
def WholeReadsWrongFalsely : Prop := wholeReadsRow.holds Try.pinned (OpenSpec.ofChange wholeReadsWrong)

/-- 'oghamlaw18.LengthBack': WHATEVER THE INPUT: true; the input reads as it did. -/
def lengthBackSpec : ChangeSpec := { name := "lengthBack", fn := fun _ => fun
  | [d1, d2, d3] => { results := [.lit (.bool true)], args := [d1, d2, d3] }
  | _ => none }
def lengthBackRow : OpenClaim := { program := "ytikfogepdmpfaaa", sum := "bc755bb74aba0270d06075f2b4d190f62aef5ec5662a60967708ef4a9cb51583", func := "ogham/oghamlaw18.LengthBack", spec := "lengthBack", unfollowed := true, recurses := true, apart := false }
def LengthBackSaid : Prop := lengthBackRow.holds Try.pinned (OpenSpec.ofChange lengthBackSpec)

/-- ITS FALSE NEIGHBOUR: 'it returns false'. Refute it at one input. -/
def lengthBackWrong : ChangeSpec := { name := "lengthBack", fn := fun _ => fun
  | [d1, d2, d3] => { results := [.lit (.bool false)], args := [d1, d2, d3] }
  | _ => none }
def LengthBackWrongFalsely : Prop := lengthBackRow.holds Try.pinned (OpenSpec.ofChange lengthBackWrong)

/-- 'oghamlaw17.WholeNil': WHATEVER THE INPUT: true; the input reads as it did. -/
def wholeNilSpec : ChangeSpec := { name := "wholeNil", fn := fun _ => fun
  | [d1, d2] => { results := [.lit (.bool true)], args := [d1, d2] }
  | _ => none }
def wholeNilRow : OpenClaim := { program := "ytikfogepdmpfaaa", sum := "bc755bb74aba0270d06075f2b4d190f62aef5ec5662a60967708ef4a9cb51583", func := "ogham/oghamlaw17.WholeNil", spec := "wholeNil", unfollowed := true, recurses := true, apart := false }
def WholeNilSaid : Prop := wholeNilRow.holds Try.pinned (OpenSpec.ofChange wholeNilSpec)

/-- ITS FALSE NEIGHBOUR: 'it returns false'. Refute it at one input. -/
def wholeNilWrong : ChangeSpec := { name := "wholeNil", fn := fun _ => fun
  | [d1, d2] => { results := [.lit (.bool false)], args := [d1, d2] }
  | _ => none }
def WholeNilWrongFalsely : Prop := wholeNilRow.holds Try.pinned (OpenSpec.ofChange wholeNilWrong)

/-- 'oghamlaw17.WholeBack': WHATEVER THE INPUT: true; the input reads as it did. -/
def wholeBackSpec : ChangeSpec := { name := "wholeBack", fn := fun _ => fun
  | [d] => { results := [.lit (.bool true)], args := [d] }
  | _ => none }
def wholeBackRow : OpenClaim := { program := "ytikfogepdmpfaaa", sum := "bc755bb74aba0270d06075f2b4d190f62aef5ec5662a60967708ef4a9cb51583", func := "ogham/oghamlaw17.WholeBack", spec := "wholeBack", unfollowed := true, recurses := true, apart := false }
def WholeBackSaid : Prop := wholeBackRow.holds Try.pinned (OpenSpec.ofChange wholeBackSpec)

/-- ITS FALSE NEIGHBOUR: 'it returns false'. Refute it at one input. -/
def wholeBackWrong : ChangeSpec := { name := "wholeBack", fn := fun _ => fun
  | [d] => { results := [.lit (.bool false)], args := [d] }
  | _ => none }
def WholeBackWrongFalsely : Prop := wholeBackRow.holds Try.pinned (OpenSpec.ofChange wholeBackWrong)

/- THE SECOND FORM. 'bulk': how many values and letters a reading holds, each counted each time it is reached (what is shared counts as often as it is met; a slice's spare places count too). A statement '..UptoSaid' is the law's where the arguments, and the package variables that the reading takes, are together of bulk at most 1048576: NARROWER than '..Said'. Prove '..Said' where nothing that the law and all that it calls make is longer than what came in: it says more and counts as full. Else prove '..UptoSaid'. A law counts once. -/
mutual
def uptoBulk {H : Type} : DataW H → Nat
  | .lit (.string bytes) => bytes.length + 1
  | .lit _ => 1
  | .nil => 1
  | .ptr d => uptoBulk d + 1
  | .slice elems spare => uptoBulkAll elems + uptoBulkAll spare + 1
  | .agg parts => uptoBulkAll parts + 1
  | .iface _ d => uptoBulk d + 1
  | .map entries => uptoBulkEntries entries + 1
  | .held _ => 1
def uptoBulkAll {H : Type} : List (DataW H) → Nat
  | [] => 0
  | d :: r => uptoBulk d + uptoBulkAll r
def uptoBulkEntries {H : Type} : List (Lit × DataW H) → Nat
  | [] => 0
  | x :: r => uptoBulkEntry x + uptoBulkEntries r
def uptoBulkEntry {H : Type} : Lit × DataW H → Nat
  | (.string bytes, d) => bytes.length + uptoBulk d + 1
  | (_, d) => uptoBulk d + 1
 end
def uptoSmall : (H : Type) → List (DataW H) → Bool := fun _ ds => decide (uptoBulkAll ds ≤ 1048576)
def OpenSpec.upto (s : _root_.Go.ChangeSpec) : _root_.Go.OpenSpec := { _root_.Go.OpenSpec.ofChange s with cond := some uptoSmall }

/-- 'oghamlaw01.BitsWrite', WHERE WHAT IT READS IS OF BULK AT MOST 1048576: true; the input reads as it did. -/
def bitsWriteUptoRow : OpenClaim := { program := "ytikfogepdmpfaaa", sum := "bc755bb74aba0270d06075f2b4d190f62aef5ec5662a60967708ef4a9cb51583", func := "ogham/oghamlaw01.BitsWrite", spec := "bitsWrite", unfollowed := true, recurses := true, apart := false, narrowed := true }
def BitsWriteUptoSaid : Prop := bitsWriteUptoRow.holds Try.pinned (OpenSpec.upto bitsWriteSpec)

/-- 'oghamlaw01.BitsOctets', WHERE WHAT IT READS IS OF BULK AT MOST 1048576: true; the input reads as it did. -/
def bitsOctetsUptoRow : OpenClaim := { program := "ytikfogepdmpfaaa", sum := "bc755bb74aba0270d06075f2b4d190f62aef5ec5662a60967708ef4a9cb51583", func := "ogham/oghamlaw01.BitsOctets", spec := "bitsOctets", apart := false, narrowed := true }
def BitsOctetsUptoSaid : Prop := bitsOctetsUptoRow.holds Try.pinned (OpenSpec.upto bitsOctetsSpec)

/-- 'oghamlaw01.BitsSplit', WHERE WHAT IT READS IS OF BULK AT MOST 1048576: true; the input reads as it did. -/
def bitsSplitUptoRow : OpenClaim := { program := "ytikfogepdmpfaaa", sum := "bc755bb74aba0270d06075f2b4d190f62aef5ec5662a60967708ef4a9cb51583", func := "ogham/oghamlaw01.BitsSplit", spec := "bitsSplit", apart := false, narrowed := true }
def BitsSplitUptoSaid : Prop := bitsSplitUptoRow.holds Try.pinned (OpenSpec.upto bitsSplitSpec)

/-- 'oghamlaw17.WholeWrites', WHERE WHAT IT READS IS OF BULK AT MOST 1048576: true; the input reads as it did. -/
def wholeWritesUptoRow : OpenClaim := { program := "ytikfogepdmpfaaa", sum := "bc755bb74aba0270d06075f2b4d190f62aef5ec5662a60967708ef4a9cb51583", func := "ogham/oghamlaw17.WholeWrites", spec := "wholeWrites", unfollowed := true, recurses := true, apart := false, narrowed := true }
def WholeWritesUptoSaid : Prop := wholeWritesUptoRow.holds Try.pinned (OpenSpec.upto wholeWritesSpec)

/-- 'oghamlaw17.WholeWidths', WHERE WHAT IT READS IS OF BULK AT MOST 1048576: true; the input reads as it did. -/
def wholeWidthsUptoRow : OpenClaim := { program := "ytikfogepdmpfaaa", sum := "bc755bb74aba0270d06075f2b4d190f62aef5ec5662a60967708ef4a9cb51583", func := "ogham/oghamlaw17.WholeWidths", spec := "wholeWidths", apart := false, narrowed := true }
def WholeWidthsUptoSaid : Prop := wholeWidthsUptoRow.holds Try.pinned (OpenSpec.upto wholeWidthsSpec)

/-- 'oghamlaw01.BitsNil', WHERE WHAT IT READS IS OF BULK AT MOST 1048576: true; the input reads as it did. -/
def bitsNilUptoRow : OpenClaim := { program := "ytikfogepdmpfaaa", sum := "bc755bb74aba0270d06075f2b4d190f62aef5ec5662a60967708ef4a9cb51583", func := "ogham/oghamlaw01.BitsNil", spec := "bitsNil", apart := false, narrowed := true }
def BitsNilUptoSaid : Prop := bitsNilUptoRow.holds Try.pinned (OpenSpec.upto bitsNilSpec)

/-- 'oghamlaw18.LengthPuts', WHERE WHAT IT READS IS OF BULK AT MOST 1048576: true; the input reads as it did. -/
def lengthPutsUptoRow : OpenClaim := { program := "ytikfogepdmpfaaa", sum := "bc755bb74aba0270d06075f2b4d190f62aef5ec5662a60967708ef4a9cb51583", func := "ogham/oghamlaw18.LengthPuts", spec := "lengthPuts", apart := false, narrowed := true }
def LengthPutsUptoSaid : Prop := lengthPutsUptoRow.holds Try.pinned (OpenSpec.upto lengthPutsSpec)

/-- 'oghamlaw01.BitsRead', WHERE WHAT IT READS IS OF BULK AT MOST 1048576: true; the input reads as it did. -/
def bitsReadUptoRow : OpenClaim := { program := "ytikfogepdmpfaaa", sum := "bc755bb74aba0270d06075f2b4d190f62aef5ec5662a60967708ef4a9cb51583", func := "ogham/oghamlaw01.BitsRead", spec := "bitsRead", unfollowed := true, recurses := true, apart := false, narrowed := true }
def BitsReadUptoSaid : Prop := bitsReadUptoRow.holds Try.pinned (OpenSpec.upto bitsReadSpec)

/-- 'oghamlaw01.BitsBack', WHERE WHAT IT READS IS OF BULK AT MOST 1048576: true; the input reads as it did. -/
def bitsBackUptoRow : OpenClaim := { program := "ytikfogepdmpfaaa", sum := "bc755bb74aba0270d06075f2b4d190f62aef5ec5662a60967708ef4a9cb51583", func := "ogham/oghamlaw01.BitsBack", spec := "bitsBack", apart := false, narrowed := true }
def BitsBackUptoSaid : Prop := bitsBackUptoRow.holds Try.pinned (OpenSpec.upto bitsBackSpec)

/-- 'oghamlaw18.LengthMany', WHERE WHAT IT READS IS OF BULK AT MOST 1048576: true; the input reads as it did. -/
def lengthManyUptoRow : OpenClaim := { program := "ytikfogepdmpfaaa", sum := "bc755bb74aba0270d06075f2b4d190f62aef5ec5662a60967708ef4a9cb51583", func := "ogham/oghamlaw18.LengthMany", spec := "lengthMany", unfollowed := true, recurses := true, apart := false, narrowed := true }
def LengthManyUptoSaid : Prop := lengthManyUptoRow.holds Try.pinned (OpenSpec.upto lengthManySpec)

/-- 'oghamlaw17.WholeReads', WHERE WHAT IT READS IS OF BULK AT MOST 1048576: true; the input reads as it did. -/
def wholeReadsUptoRow : OpenClaim := { program := "ytikfogepdmpfaaa", sum := "bc755bb74aba0270d06075f2b4d190f62aef5ec5662a60967708ef4a9cb51583", func := "ogham/oghamlaw17.WholeReads", spec := "wholeReads", unfollowed := true, recurses := true, apart := false, narrowed := true }
def WholeReadsUptoSaid : Prop := wholeReadsUptoRow.holds Try.pinned (OpenSpec.upto wholeReadsSpec)

/-- 'oghamlaw18.LengthBack', WHERE WHAT IT READS IS OF BULK AT MOST 1048576: true; the input reads as it did. -/
def lengthBackUptoRow : OpenClaim := { program := "ytikfogepdmpfaaa", sum := "bc755bb74aba0270d06075f2b4d190f62aef5ec5662a60967708ef4a9cb51583", func := "ogham/oghamlaw18.LengthBack", spec := "lengthBack", unfollowed := true, recurses := true, apart := false, narrowed := true }
def LengthBackUptoSaid : Prop := lengthBackUptoRow.holds Try.pinned (OpenSpec.upto lengthBackSpec)

/-- 'oghamlaw17.WholeNil', WHERE WHAT IT READS IS OF BULK AT MOST 1048576: true; the input reads as it did. -/
def wholeNilUptoRow : OpenClaim := { program := "ytikfogepdmpfaaa", sum := "bc755bb74aba0270d06075f2b4d190f62aef5ec5662a60967708ef4a9cb51583", func := "ogham/oghamlaw17.WholeNil", spec := "wholeNil", unfollowed := true, recurses := true, apart := false, narrowed := true }
def WholeNilUptoSaid : Prop := wholeNilUptoRow.holds Try.pinned (OpenSpec.upto wholeNilSpec)

/-- 'oghamlaw17.WholeBack', WHERE WHAT IT READS IS OF BULK AT MOST 1048576: true; the input reads as it did. -/
def wholeBackUptoRow : OpenClaim := { program := "ytikfogepdmpfaaa", sum := "bc755bb74aba0270d06075f2b4d190f62aef5ec5662a60967708ef4a9cb51583", func := "ogham/oghamlaw17.WholeBack", spec := "wholeBack", unfollowed := true, recurses := true, apart := false, narrowed := true }
def WholeBackUptoSaid : Prop := wholeBackUptoRow.holds Try.pinned (OpenSpec.upto wholeBackSpec)

end Rows
end Go.Proofs.Ytikfogepdmpfaaa
