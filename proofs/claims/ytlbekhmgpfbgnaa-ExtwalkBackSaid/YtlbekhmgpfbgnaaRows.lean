/-
  No cell of these rows narrows 'for every input' (looked for: loops, veiled, ifaces, maps, wideKeys, modest, calm, conditions, laid).
  DERIVED. THE GIVEN ROWS OF THIS SEAT. 12 by the template 'for every input the law returns true; each argument reads behind the call as it read before'; 0 by the template 'total and deterministic' (their statements: YtlbekhmgpfbgnaaTotals.lean).
  GIVEN WITH THE SEED: the statements are not yours to turn. If you find one false, say at which input.
  Laid BY PROGRAM, IN A SANDBOX (cutbox-rows.mjs): the forced cells as the released guide's own fill.sh prints them over the translation 5047fbf7b33a385b… (all of the seat's roots in one cut). By AI agents, Wed Nov 11 2026. No macro, syntax, notation, axiom, sorry.
-/
import Derived.Test.YtlbekhmgpfbgnaaChecked
import GoSem.Claim
import GoSem.ClaimJoined
import GoSem.ClaimMapViews
import Derived.JoinedTies
import Derived.KernelRfl
namespace Go.Proofs.Ytlbekhmgpfbgnaa
/- THE CELL 'sum', in the pinned program and in every row, IS THE sha256 OF THE DUMP (.gsa) THAT YtlbekhmgpfbgnaaProg.lean LOADS. Nothing in Lean hashes anything: it is a label: what it is worth is what the hold of that sum in a sandbox is worth. -/
noncomputable def Try.pinned : Pinned := { name := "ytlbekhmgpfbgnaa", sum := "5047fbf7b33a385b7404b0b32f0e53ea07e23a68ab4a15386618a0f39942bb4f", checked := Try.checked }
namespace Rows
def none {H : Type} : Left H := { results := [], args := [] }

/-- 'weighbridgetop.WholeService': WHATEVER THE INPUT: true; the input reads as it did. -/
def wholeServiceSpec : ChangeSpec := { name := "wholeService", fn := fun _ => fun
  | [d1, d2] => { results := [.lit (.bool true)], args := [d1, d2] }
  | _ => none }
def wholeServiceRow : OpenClaim := { program := "ytlbekhmgpfbgnaa", sum := "5047fbf7b33a385b7404b0b32f0e53ea07e23a68ab4a15386618a0f39942bb4f", func := "weighbridge/weighbridgetop.WholeService", spec := "wholeService", unfollowed := true, recurses := true, apart := false }
def WholeServiceSaid : Prop := wholeServiceRow.holds Try.pinned (OpenSpec.ofChange wholeServiceSpec)

/-- ITS FALSE NEIGHBOUR: 'it returns false'. Refute it at one input. -/
def wholeServiceWrong : ChangeSpec := { name := "wholeService", fn := fun _ => fun
  | [d1, d2] => { results := [.lit (.bool false)], args := [d1, d2] }
  | _ => none }
def WholeServiceWrongFalsely : Prop := wholeServiceRow.holds Try.pinned (OpenSpec.ofChange wholeServiceWrong)

/-- 'weighbridgelaw13.PortsSums': WHATEVER THE INPUT: true; the input reads as it did. -/
def portsSumsSpec : ChangeSpec := { name := "portsSums", fn := fun _ => fun
  | [d1, d2] => { results := [.lit (.bool true)], args := [d1, d2] }
  | _ => none }
def portsSumsRow : OpenClaim := { program := "ytlbekhmgpfbgnaa", sum := "5047fbf7b33a385b7404b0b32f0e53ea07e23a68ab4a15386618a0f39942bb4f", func := "weighbridge/weighbridgelaw13.PortsSums", spec := "portsSums", unfollowed := true, recurses := true, apart := false }
def PortsSumsSaid : Prop := portsSumsRow.holds Try.pinned (OpenSpec.ofChange portsSumsSpec)

/-- ITS FALSE NEIGHBOUR: 'it returns false'. Refute it at one input. -/
def portsSumsWrong : ChangeSpec := { name := "portsSums", fn := fun _ => fun
  | [d1, d2] => { results := [.lit (.bool false)], args := [d1, d2] }
  | _ => none }
def PortsSumsWrongFalsely : Prop := portsSumsRow.holds Try.pinned (OpenSpec.ofChange portsSumsWrong)

/-- 'weighbridgetop.WholeSix': WHATEVER THE INPUT: true; the input reads as it did. -/
def wholeSixSpec : ChangeSpec := { name := "wholeSix", fn := fun _ => fun
  | [d1, d2, d3] => { results := [.lit (.bool true)], args := [d1, d2, d3] }
  | _ => none }
def wholeSixRow : OpenClaim := { program := "ytlbekhmgpfbgnaa", sum := "5047fbf7b33a385b7404b0b32f0e53ea07e23a68ab4a15386618a0f39942bb4f", func := "weighbridge/weighbridgetop.WholeSix", spec := "wholeSix", unfollowed := true, recurses := true, apart := false }
def WholeSixSaid : Prop := wholeSixRow.holds Try.pinned (OpenSpec.ofChange wholeSixSpec)

/-- ITS FALSE NEIGHBOUR: 'it returns false'. Refute it at one input. -/
def wholeSixWrong : ChangeSpec := { name := "wholeSix", fn := fun _ => fun
  | [d1, d2, d3] => { results := [.lit (.bool false)], args := [d1, d2, d3] }
  | _ => none }
def WholeSixWrongFalsely : Prop := wholeSixRow.holds Try.pinned (OpenSpec.ofChange wholeSixWrong)

/-- 'weighbridgelaw13.PortsSeals': WHATEVER THE INPUT: true; the input reads as it did. -/
def portsSealsSpec : ChangeSpec := { name := "portsSeals", fn := fun _ => fun
  | [d1, d2] => { results := [.lit (.bool true)], args := [d1, d2] }
  | _ => none }
def portsSealsRow : OpenClaim := { program := "ytlbekhmgpfbgnaa", sum := "5047fbf7b33a385b7404b0b32f0e53ea07e23a68ab4a15386618a0f39942bb4f", func := "weighbridge/weighbridgelaw13.PortsSeals", spec := "portsSeals", unfollowed := true, recurses := true, apart := false }
def PortsSealsSaid : Prop := portsSealsRow.holds Try.pinned (OpenSpec.ofChange portsSealsSpec)

/-- ITS FALSE NEIGHBOUR: 'it returns false'. Refute it at one input. -/
def portsSealsWrong : ChangeSpec := { name := "portsSeals", fn := fun _ => fun
  | [d1, d2] => { results := [.lit (.bool false)], args := [d1, d2] }
  | _ => none }
def PortsSealsWrongFalsely : Prop := portsSealsRow.holds Try.pinned (OpenSpec.ofChange portsSealsWrong)

/-- 'weighbridgelaw09.PointBytes': WHATEVER THE INPUT: true; the input reads as it did. -/
def pointBytesSpec : ChangeSpec := { name := "pointBytes", fn := fun _ => fun
  | [d1, d2, d3] => { results := [.lit (.bool true)], args := [d1, d2, d3] }
  | _ => none }
def pointBytesRow : OpenClaim := { program := "ytlbekhmgpfbgnaa", sum := "5047fbf7b33a385b7404b0b32f0e53ea07e23a68ab4a15386618a0f39942bb4f", func := "weighbridge/weighbridgelaw09.PointBytes", spec := "pointBytes", apart := false }
def PointBytesSaid : Prop := pointBytesRow.holds Try.pinned (OpenSpec.ofChange pointBytesSpec)

/-- ITS FALSE NEIGHBOUR: 'it returns false'. Refute it at one input. -/
def pointBytesWrong : ChangeSpec := { name := "pointBytes", fn := fun _ => fun
  | [d1, d2, d3] => { results := [.lit (.bool false)], args := [d1, d2, d3] }
  | _ => none }
def PointBytesWrongFalsely : Prop := pointBytesRow.holds Try.pinned (OpenSpec.ofChange pointBytesWrong)

/-- 'weighbridgelaw09.PointNames': WHATEVER THE INPUT: true; the input reads as it did. -/
def pointNamesSpec : ChangeSpec := { name := "pointNames", fn := fun _ => fun
  | [d1, d2] => { results := [.lit (.bool true)], args := [d1, d2] }
  | _ => none }
def pointNamesRow : OpenClaim := { program := "ytlbekhmgpfbgnaa", sum := "5047fbf7b33a385b7404b0b32f0e53ea07e23a68ab4a15386618a0f39942bb4f", func := "weighbridge/weighbridgelaw09.PointNames", spec := "pointNames", apart := false }
def PointNamesSaid : Prop := pointNamesRow.holds Try.pinned (OpenSpec.ofChange pointNamesSpec)

/-- ITS FALSE NEIGHBOUR: 'it returns false'. Refute it at one input. -/
def pointNamesWrong : ChangeSpec := { name := "pointNames", fn := fun _ => fun
  | [d1, d2] => { results := [.lit (.bool false)], args := [d1, d2] }
  | _ => none }
def PointNamesWrongFalsely : Prop := pointNamesRow.holds Try.pinned (OpenSpec.ofChange pointNamesWrong)

/-- 'weighbridgelaw09.PointBack': WHATEVER THE INPUT: true; the input reads as it did. -/
def pointBackSpec : ChangeSpec := { name := "pointBack", fn := fun _ => fun
  | [d1, d2, d3] => { results := [.lit (.bool true)], args := [d1, d2, d3] }
  | _ => none }
def pointBackRow : OpenClaim := { program := "ytlbekhmgpfbgnaa", sum := "5047fbf7b33a385b7404b0b32f0e53ea07e23a68ab4a15386618a0f39942bb4f", func := "weighbridge/weighbridgelaw09.PointBack", spec := "pointBack", apart := false }
def PointBackSaid : Prop := pointBackRow.holds Try.pinned (OpenSpec.ofChange pointBackSpec)

/-- ITS FALSE NEIGHBOUR: 'it returns false'. Refute it at one input. -/
def pointBackWrong : ChangeSpec := { name := "pointBack", fn := fun _ => fun
  | [d1, d2, d3] => { results := [.lit (.bool false)], args := [d1, d2, d3] }
  | _ => none }
def PointBackWrongFalsely : Prop := pointBackRow.holds Try.pinned (OpenSpec.ofChange pointBackWrong)

/-- 'weighbridgelaw11.ExtwalkGoes': WHATEVER THE INPUT: true; the input reads as it did. -/
def extwalkGoesSpec : ChangeSpec := { name := "extwalkGoes", fn := fun _ => fun
  | [d1, d2] => { results := [.lit (.bool true)], args := [d1, d2] }
  | _ => none }
def extwalkGoesRow : OpenClaim := { program := "ytlbekhmgpfbgnaa", sum := "5047fbf7b33a385b7404b0b32f0e53ea07e23a68ab4a15386618a0f39942bb4f", func := "weighbridge/weighbridgelaw11.ExtwalkGoes", spec := "extwalkGoes", apart := false }
def ExtwalkGoesSaid : Prop := extwalkGoesRow.holds Try.pinned (OpenSpec.ofChange extwalkGoesSpec)

/-- ITS FALSE NEIGHBOUR: 'it returns false'. Refute it at one input. -/
def extwalkGoesWrong : ChangeSpec := { name := "extwalkGoes", fn := fun _ => fun
  | [d1, d2] => { results := [.lit (.bool false)], args := [d1, d2] }
  | _ => none }
def ExtwalkGoesWrongFalsely : Prop := extwalkGoesRow.holds Try.pinned (OpenSpec.ofChange extwalkGoesWrong)

/-- 'weighbridgelaw11.ExtwalkWrites': WHATEVER THE INPUT: true; the input reads as it did. -/
def extwalkWritesSpec : ChangeSpec := { name := "extwalkWrites", fn := fun _ => fun
  | [d1, d2] => { results := [.lit (.bool true)], args := [d1, d2] }
  | _ => none }
def extwalkWritesRow : OpenClaim := { program := "ytlbekhmgpfbgnaa", sum := "5047fbf7b33a385b7404b0b32f0e53ea07e23a68ab4a15386618a0f39942bb4f", func := "weighbridge/weighbridgelaw11.ExtwalkWrites", spec := "extwalkWrites", apart := false }
def ExtwalkWritesSaid : Prop := extwalkWritesRow.holds Try.pinned (OpenSpec.ofChange extwalkWritesSpec)

/-- ITS FALSE NEIGHBOUR: 'it returns false'. Refute it at one input. -/
def extwalkWritesWrong : ChangeSpec := { name := "extwalkWrites", fn := fun _ => fun
  | [d1, d2] => { results := [.lit (.bool false)], args := [d1, d2] }
  | _ => none }
def ExtwalkWritesWrongFalsely : Prop := extwalkWritesRow.holds Try.pinned (OpenSpec.ofChange extwalkWritesWrong)

/-- 'weighbridgelaw11.ExtwalkBack': WHATEVER THE INPUT: true; the input reads as it did. -/
def extwalkBackSpec : ChangeSpec := { name := "extwalkBack", fn := fun _ => fun
  | [d1, d2, d3] => { results := [.lit (.bool true)], args := [d1, d2, d3] }
  | _ => none }
def extwalkBackRow : OpenClaim := { program := "ytlbekhmgpfbgnaa", sum := "5047fbf7b33a385b7404b0b32f0e53ea07e23a68ab4a15386618a0f39942bb4f", func := "weighbridge/weighbridgelaw11.ExtwalkBack", spec := "extwalkBack", apart := false }
def ExtwalkBackSaid : Prop := extwalkBackRow.holds Try.pinned (OpenSpec.ofChange extwalkBackSpec)

/-- ITS FALSE NEIGHBOUR: 'it returns false'. Refute it at one input. -/
def extwalkBackWrong : ChangeSpec := { name := "extwalkBack", fn := fun _ => fun
  | [d1, d2, d3] => { results := [.lit (.bool false)], args := [d1, d2, d3] }
  | _ => none }
def ExtwalkBackWrongFalsely : Prop := extwalkBackRow.holds Try.pinned (OpenSpec.ofChange extwalkBackWrong)

/-- 'weighbridgetop.WholeClasses': WHATEVER THE INPUT: true; the input reads as it did. -/
def wholeClassesSpec : ChangeSpec := { name := "wholeClasses", fn := fun _ => fun
  | [d] => { results := [.lit (.bool true)], args := [d] }
  | _ => none }
def wholeClassesRow : OpenClaim := { program := "ytlbekhmgpfbgnaa", sum := "5047fbf7b33a385b7404b0b32f0e53ea07e23a68ab4a15386618a0f39942bb4f", func := "weighbridge/weighbridgetop.WholeClasses", spec := "wholeClasses", inPlace := ["sync/atomic.AddUint64", "sync/atomic.LoadUint64"], unfollowed := true, recurses := true, apart := false }
def WholeClassesSaid : Prop := wholeClassesRow.holds Try.pinned (OpenSpec.ofChange wholeClassesSpec)

/-- ITS FALSE NEIGHBOUR: 'it returns false'. Refute it at one input. -/
def wholeClassesWrong : ChangeSpec := { name := "wholeClasses", fn := fun _ => fun
  | [d] => { results := [.lit (.bool false)], args := [d] }
  | _ => none }
def WholeClassesWrongFalsely : Prop := wholeClassesRow.holds Try.pinned (OpenSpec.ofChange wholeClassesWrong)

/-- 'weighbridgelaw11.ExtwalkRanks': WHATEVER THE INPUT: true; the input reads as it did. -/
def extwalkRanksSpec : ChangeSpec := { name := "extwalkRanks", fn := fun _ => fun
  | [d1, d2] => { results := [.lit (.bool true)], args := [d1, d2] }
  | _ => none }
def extwalkRanksRow : OpenClaim := { program := "ytlbekhmgpfbgnaa", sum := "5047fbf7b33a385b7404b0b32f0e53ea07e23a68ab4a15386618a0f39942bb4f", func := "weighbridge/weighbridgelaw11.ExtwalkRanks", spec := "extwalkRanks", apart := false }
def ExtwalkRanksSaid : Prop := extwalkRanksRow.holds Try.pinned (OpenSpec.ofChange extwalkRanksSpec)

/-- ITS FALSE NEIGHBOUR: 'it returns false'. Refute it at one input. -/
def extwalkRanksWrong : ChangeSpec := { name := "extwalkRanks", fn := fun _ => fun
  | [d1, d2] => { results := [.lit (.bool false)], args := [d1, d2] }
  | _ => none }
def ExtwalkRanksWrongFalsely : Prop := extwalkRanksRow.holds Try.pinned (OpenSpec.ofChange extwalkRanksWrong)

/- THE SECOND FORM. 'bulk': how many values and letters a reading holds, each counted each time it is reached (what is shared counts as often as it is met; a slice's spare places count too). A statement '..UptoSaid' is the law's where the arguments, and the package variables that the reading takes, are together of bulk at most 1048576: NARROWER than '..Said'. Prove '..Said' where nothing that the law and all that it calls make is longer than what came in: it says more and counts as full. Else prove '..UptoSaid'. A law counts once. -/
mutual
def uptoBulk {H : Type} : DataW H → Nat
  | .lit (.string bytes) => bytes.length + 1
  | .lit _ => 1
  | .nil => 1
  | .ptr d => uptoBulk d + 1
  | .slice elems spare => uptoBulkAll elems + uptoBulkAll spare + 1
  | .agg parts => uptoBulkAll parts + 1
  | .iface _ d => uptoBulk d + 1
  | .map entries => uptoBulkEntries entries + 1
  | .held _ => 1
def uptoBulkAll {H : Type} : List (DataW H) → Nat
  | [] => 0
  | d :: r => uptoBulk d + uptoBulkAll r
def uptoBulkEntries {H : Type} : List (Lit × DataW H) → Nat
  | [] => 0
  | x :: r => uptoBulkEntry x + uptoBulkEntries r
def uptoBulkEntry {H : Type} : Lit × DataW H → Nat
  | (.string bytes, d) => bytes.length + uptoBulk d + 1
  | (_, d) => uptoBulk d + 1
 end
def uptoSmall : (H : Type) → List (DataW H) → Bool := fun _ ds => decide (uptoBulkAll ds ≤ 1048576)
def OpenSpec.upto (s : _root_.Go.ChangeSpec) : _root_.Go.OpenSpec := { _root_.Go.OpenSpec.ofChange s with cond := some uptoSmall }

/-- 'weighbridgetop.WholeService', WHERE WHAT IT READS IS OF BULK AT MOST 1048576: true; the input reads as it did. -/
def wholeServiceUptoRow : OpenClaim := { program := "ytlbekhmgpfbgnaa", sum := "5047fbf7b33a385b7404b0b32f0e53ea07e23a68ab4a15386618a0f39942bb4f", func := "weighbridge/weighbridgetop.WholeService", spec := "wholeService", unfollowed := true, recurses := true, apart := false, narrowed := true }
def WholeServiceUptoSaid : Prop := wholeServiceUptoRow.holds Try.pinned (OpenSpec.upto wholeServiceSpec)

/-- 'weighbridgelaw13.PortsSums', WHERE WHAT IT READS IS OF BULK AT MOST 1048576: true; the input reads as it did. -/
def portsSumsUptoRow : OpenClaim := { program := "ytlbekhmgpfbgnaa", sum := "5047fbf7b33a385b7404b0b32f0e53ea07e23a68ab4a15386618a0f39942bb4f", func := "weighbridge/weighbridgelaw13.PortsSums", spec := "portsSums", unfollowed := true, recurses := true, apart := false, narrowed := true }
def PortsSumsUptoSaid : Prop := portsSumsUptoRow.holds Try.pinned (OpenSpec.upto portsSumsSpec)

/-- 'weighbridgetop.WholeSix', WHERE WHAT IT READS IS OF BULK AT MOST 1048576: true; the input reads as it did. -/
def wholeSixUptoRow : OpenClaim := { program := "ytlbekhmgpfbgnaa", sum := "5047fbf7b33a385b7404b0b32f0e53ea07e23a68ab4a15386618a0f39942bb4f", func := "weighbridge/weighbridgetop.WholeSix", spec := "wholeSix", unfollowed := true, recurses := true, apart := false, narrowed := true }
def WholeSixUptoSaid : Prop := wholeSixUptoRow.holds Try.pinned (OpenSpec.upto wholeSixSpec)

/-- 'weighbridgelaw13.PortsSeals', WHERE WHAT IT READS IS OF BULK AT MOST 1048576: true; the input reads as it did. -/
def portsSealsUptoRow : OpenClaim := { program := "ytlbekhmgpfbgnaa", sum := "5047fbf7b33a385b7404b0b32f0e53ea07e23a68ab4a15386618a0f39942bb4f", func := "weighbridge/weighbridgelaw13.PortsSeals", spec := "portsSeals", unfollowed := true, recurses := true, apart := false, narrowed := true }
def PortsSealsUptoSaid : Prop := portsSealsUptoRow.holds Try.pinned (OpenSpec.upto portsSealsSpec)

/-- 'weighbridgelaw09.PointBytes', WHERE WHAT IT READS IS OF BULK AT MOST 1048576: true; the input reads as it did. -/
def pointBytesUptoRow : OpenClaim := { program := "ytlbekhmgpfbgnaa", sum := "5047fbf7b33a385b7404b0b32f0e53ea07e23a68ab4a15386618a0f39942bb4f", func := "weighbridge/weighbridgelaw09.PointBytes", spec := "pointBytes", apart := false, narrowed := true }
def PointBytesUptoSaid : Prop := pointBytesUptoRow.holds Try.pinned (OpenSpec.upto pointBytesSpec)

/-- 'weighbridgelaw09.PointNames', WHERE WHAT IT READS IS OF BULK AT MOST 1048576: true; the input reads as it did. -/
def pointNamesUptoRow : OpenClaim := { program := "ytlbekhmgpfbgnaa", sum := "5047fbf7b33a385b7404b0b32f0e53ea07e23a68ab4a15386618a0f39942bb4f", func := "weighbridge/weighbridgelaw09.PointNames", spec := "pointNames", apart := false, narrowed := true }
def PointNamesUptoSaid : Prop := pointNamesUptoRow.holds Try.pinned (OpenSpec.upto pointNamesSpec)

/-- 'weighbridgelaw09.PointBack', WHERE WHAT IT READS IS OF BULK AT MOST 1048576: true; the input reads as it did. -/
def pointBackUptoRow : OpenClaim := { program := "ytlbekhmgpfbgnaa", sum := "5047fbf7b33a385b7404b0b32f0e53ea07e23a68ab4a15386618a0f39942bb4f", func := "weighbridge/weighbridgelaw09.PointBack", spec := "pointBack", apart := false, narrowed := true }
def PointBackUptoSaid : Prop := pointBackUptoRow.holds Try.pinned (OpenSpec.upto pointBackSpec)

/-- 'weighbridgelaw11.ExtwalkGoes', WHERE WHAT IT READS IS OF BULK AT MOST 1048576: true; the input reads as it did. -/
def extwalkGoesUptoRow : OpenClaim := { program := "ytlbekhmgpfbgnaa", sum := "5047fbf7b33a385b7404b0b32f0e53ea07e23a68ab4a15386618a0f39942bb4f", func := "weighbridge/weighbridgelaw11.ExtwalkGoes", spec := "extwalkGoes", apart := false, narrowed := true }
def ExtwalkGoesUptoSaid : Prop := extwalkGoesUptoRow.holds Try.pinned (OpenSpec.upto extwalkGoesSpec)

/-- 'weighbridgelaw11.ExtwalkWrites', WHERE WHAT IT READS IS OF BULK AT MOST 1048576: true; the input reads as it did. -/
def extwalkWritesUptoRow : OpenClaim := { program := "ytlbekhmgpfbgnaa", sum := "5047fbf7b33a385b7404b0b32f0e53ea07e23a68ab4a15386618a0f39942bb4f", func := "weighbridge/weighbridgelaw11.ExtwalkWrites", spec := "extwalkWrites", apart := false, narrowed := true }
def ExtwalkWritesUptoSaid : Prop := extwalkWritesUptoRow.holds Try.pinned (OpenSpec.upto extwalkWritesSpec)

/-- 'weighbridgelaw11.ExtwalkBack', WHERE WHAT IT READS IS OF BULK AT MOST 1048576: true; the input reads as it did. -/
def extwalkBackUptoRow : OpenClaim := { program := "ytlbekhmgpfbgnaa", sum := "5047fbf7b33a385b7404b0b32f0e53ea07e23a68ab4a15386618a0f39942bb4f", func := "weighbridge/weighbridgelaw11.ExtwalkBack", spec := "extwalkBack", apart := false, narrowed := true }
def ExtwalkBackUptoSaid : Prop := extwalkBackUptoRow.holds Try.pinned (OpenSpec.upto extwalkBackSpec)

/-- 'weighbridgetop.WholeClasses', WHERE WHAT IT READS IS OF BULK AT MOST 1048576: true; the input reads as it did. -/
def wholeClassesUptoRow : OpenClaim := { program := "ytlbekhmgpfbgnaa", sum := "5047fbf7b33a385b7404b0b32f0e53ea07e23a68ab4a15386618a0f39942bb4f", func := "weighbridge/weighbridgetop.WholeClasses", spec := "wholeClasses", inPlace := ["sync/atomic.AddUint64", "sync/atomic.LoadUint64"], unfollowed := true, recurses := true, apart := false, narrowed := true }
def WholeClassesUptoSaid : Prop := wholeClassesUptoRow.holds Try.pinned (OpenSpec.upto wholeClassesSpec)

/-- 'weighbridgelaw11.ExtwalkRanks', WHERE WHAT IT READS IS OF BULK AT MOST 1048576: true; the input reads as it did. -/
def extwalkRanksUptoRow : OpenClaim := { program := "ytlbekhmgpfbgnaa", sum := "5047fbf7b33a385b7404b0b32f0e53ea07e23a68ab4a15386618a0f39942bb4f", func := "weighbridge/weighbridgelaw11.ExtwalkRanks", spec := "extwalkRanks", apart := false, narrowed := true }
def ExtwalkRanksUptoSaid : Prop := extwalkRanksUptoRow.holds Try.pinned (OpenSpec.upto extwalkRanksSpec)

end Rows
end Go.Proofs.Ytlbekhmgpfbgnaa
