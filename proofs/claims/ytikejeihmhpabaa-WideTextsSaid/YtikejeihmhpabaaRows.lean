/-
  No cell of these rows narrows 'for every input' (looked for: loops, veiled, ifaces, maps, wideKeys, modest, calm, conditions, laid).
  DERIVED. THE GIVEN ROWS OF THIS SEAT. 12 by the template 'for every input the law returns true; each argument reads behind the call as it read before'; 0 by the template 'total and deterministic' (their statements: YtikejeihmhpabaaTotals.lean).
  GIVEN WITH THE SEED: the statements are not yours to turn. If you find one false, say at which input.
  Laid BY PROGRAM, IN A SANDBOX (cutbox-rows.mjs): the forced cells as the released guide's own fill.sh prints them over the translation a01c3abfab54dcaa… (all of the seat's roots in one cut). By AI agents, Wed Nov 11 2026. No macro, syntax, notation, axiom, sorry.
-/
import Derived.Test.YtikejeihmhpabaaChecked
import GoSem.Claim
import GoSem.ClaimJoined
import GoSem.ClaimMapViews
import Derived.JoinedTies
import Derived.KernelRfl
namespace Go.Proofs.Ytikejeihmhpabaa
/- THE CELL 'sum', in the pinned program and in every row, IS THE sha256 OF THE DUMP (.gsa) THAT YtikejeihmhpabaaProg.lean LOADS. Nothing in Lean hashes anything: it is a label: what it is worth is what the hold of that sum in a sandbox is worth. -/
noncomputable def Try.pinned : Pinned := { name := "ytikejeihmhpabaa", sum := "a01c3abfab54dcaaa98e9c19407d1b332791bf629a31d7beba546c0993b71fff", checked := Try.checked }
namespace Rows
def none {H : Type} : Left H := { results := [], args := [] }

/-- 'weighbridgelaw03.OnesumSums': WHATEVER THE INPUT: true; the input reads as it did. -/
def onesumSumsSpec : ChangeSpec := { name := "onesumSums", fn := fun _ => fun
  | [d1, d2] => { results := [.lit (.bool true)], args := [d1, d2] }
  | _ => none }
def onesumSumsRow : OpenClaim := { program := "ytikejeihmhpabaa", sum := "a01c3abfab54dcaaa98e9c19407d1b332791bf629a31d7beba546c0993b71fff", func := "weighbridge/weighbridgelaw03.OnesumSums", spec := "onesumSums", unfollowed := true, recurses := true, apart := false }
def OnesumSumsSaid : Prop := onesumSumsRow.holds Try.pinned (OpenSpec.ofChange onesumSumsSpec)

/-- ITS FALSE NEIGHBOUR: 'it returns false'. Refute it at one input. -/
def onesumSumsWrong : ChangeSpec := { name := "onesumSums", fn := fun _ => fun
  | [d1, d2] => { results := [.lit (.bool false)], args := [d1, d2] }
  | _ => none }
def OnesumSumsWrongFalsely : Prop := onesumSumsRow.holds Try.pinned (OpenSpec.ofChange onesumSumsWrong)

/-- 'weighbridgelaw03.OnesumJoins': WHATEVER THE INPUT: true; the input reads as it did. -/
def onesumJoinsSpec : ChangeSpec := { name := "onesumJoins", fn := fun _ => fun
  | [d1, d2, d3] => { results := [.lit (.bool true)], args := [d1, d2, d3] }
  | _ => none }
def onesumJoinsRow : OpenClaim := { program := "ytikejeihmhpabaa", sum := "a01c3abfab54dcaaa98e9c19407d1b332791bf629a31d7beba546c0993b71fff", func := "weighbridge/weighbridgelaw03.OnesumJoins", spec := "onesumJoins", unfollowed := true, recurses := true, apart := false }
def OnesumJoinsSaid : Prop := onesumJoinsRow.holds Try.pinned (OpenSpec.ofChange onesumJoinsSpec)

/-- ITS FALSE NEIGHBOUR: 'it returns false'. Refute it at one input. -/
def onesumJoinsWrong : ChangeSpec := { name := "onesumJoins", fn := fun _ => fun
  | [d1, d2, d3] => { results := [.lit (.bool false)], args := [d1, d2, d3] }
  | _ => none }
def OnesumJoinsWrongFalsely : Prop := onesumJoinsRow.holds Try.pinned (OpenSpec.ofChange onesumJoinsWrong)

/-- 'weighbridgelaw03.OnesumFills': WHATEVER THE INPUT: true; the input reads as it did. -/
def onesumFillsSpec : ChangeSpec := { name := "onesumFills", fn := fun _ => fun
  | [d1, d2] => { results := [.lit (.bool true)], args := [d1, d2] }
  | _ => none }
def onesumFillsRow : OpenClaim := { program := "ytikejeihmhpabaa", sum := "a01c3abfab54dcaaa98e9c19407d1b332791bf629a31d7beba546c0993b71fff", func := "weighbridge/weighbridgelaw03.OnesumFills", spec := "onesumFills", unfollowed := true, recurses := true, apart := false }
def OnesumFillsSaid : Prop := onesumFillsRow.holds Try.pinned (OpenSpec.ofChange onesumFillsSpec)

/-- ITS FALSE NEIGHBOUR: 'it returns false'. Refute it at one input. -/
def onesumFillsWrong : ChangeSpec := { name := "onesumFills", fn := fun _ => fun
  | [d1, d2] => { results := [.lit (.bool false)], args := [d1, d2] }
  | _ => none }
def OnesumFillsWrongFalsely : Prop := onesumFillsRow.holds Try.pinned (OpenSpec.ofChange onesumFillsWrong)

/-- 'weighbridgelaw03.OnesumFinds': WHATEVER THE INPUT: true; the input reads as it did. -/
def onesumFindsSpec : ChangeSpec := { name := "onesumFinds", fn := fun _ => fun
  | [d1, d2, d3] => { results := [.lit (.bool true)], args := [d1, d2, d3] }
  | _ => none }
def onesumFindsRow : OpenClaim := { program := "ytikejeihmhpabaa", sum := "a01c3abfab54dcaaa98e9c19407d1b332791bf629a31d7beba546c0993b71fff", func := "weighbridge/weighbridgelaw03.OnesumFinds", spec := "onesumFinds", unfollowed := true, recurses := true, apart := false }
def OnesumFindsSaid : Prop := onesumFindsRow.holds Try.pinned (OpenSpec.ofChange onesumFindsSpec)

/-- ITS FALSE NEIGHBOUR: 'it returns false'. Refute it at one input. -/
def onesumFindsWrong : ChangeSpec := { name := "onesumFinds", fn := fun _ => fun
  | [d1, d2, d3] => { results := [.lit (.bool false)], args := [d1, d2, d3] }
  | _ => none }
def OnesumFindsWrongFalsely : Prop := onesumFindsRow.holds Try.pinned (OpenSpec.ofChange onesumFindsWrong)

/-- 'weighbridgelaw13.PortsReads': WHATEVER THE INPUT: true; the input reads as it did. -/
def portsReadsSpec : ChangeSpec := { name := "portsReads", fn := fun _ => fun
  | [d1, d2, d3] => { results := [.lit (.bool true)], args := [d1, d2, d3] }
  | _ => none }
def portsReadsRow : OpenClaim := { program := "ytikejeihmhpabaa", sum := "a01c3abfab54dcaaa98e9c19407d1b332791bf629a31d7beba546c0993b71fff", func := "weighbridge/weighbridgelaw13.PortsReads", spec := "portsReads", apart := false }
def PortsReadsSaid : Prop := portsReadsRow.holds Try.pinned (OpenSpec.ofChange portsReadsSpec)

/-- ITS FALSE NEIGHBOUR: 'it returns false'. Refute it at one input. -/
def portsReadsWrong : ChangeSpec := { name := "portsReads", fn := fun _ => fun
  | [d1, d2, d3] => { results := [.lit (.bool false)], args := [d1, d2, d3] }
  | _ => none }
def PortsReadsWrongFalsely : Prop := portsReadsRow.holds Try.pinned (OpenSpec.ofChange portsReadsWrong)

/-- 'weighbridgelaw13.PortsWrites': WHATEVER THE INPUT: true; the input reads as it did. -/
def portsWritesSpec : ChangeSpec := { name := "portsWrites", fn := fun _ => fun
  | [d1, d2, d3] => { results := [.lit (.bool true)], args := [d1, d2, d3] }
  | _ => none }
def portsWritesRow : OpenClaim := { program := "ytikejeihmhpabaa", sum := "a01c3abfab54dcaaa98e9c19407d1b332791bf629a31d7beba546c0993b71fff", func := "weighbridge/weighbridgelaw13.PortsWrites", spec := "portsWrites", apart := false }
def PortsWritesSaid : Prop := portsWritesRow.holds Try.pinned (OpenSpec.ofChange portsWritesSpec)

/-- ITS FALSE NEIGHBOUR: 'it returns false'. Refute it at one input. -/
def portsWritesWrong : ChangeSpec := { name := "portsWrites", fn := fun _ => fun
  | [d1, d2, d3] => { results := [.lit (.bool false)], args := [d1, d2, d3] }
  | _ => none }
def PortsWritesWrongFalsely : Prop := portsWritesRow.holds Try.pinned (OpenSpec.ofChange portsWritesWrong)

/-- 'weighbridgelaw13.PortsBack': WHATEVER THE INPUT: true; the input reads as it did. -/
def portsBackSpec : ChangeSpec := { name := "portsBack", fn := fun _ => fun
  | [d1, d2, d3] => { results := [.lit (.bool true)], args := [d1, d2, d3] }
  | _ => none }
def portsBackRow : OpenClaim := { program := "ytikejeihmhpabaa", sum := "a01c3abfab54dcaaa98e9c19407d1b332791bf629a31d7beba546c0993b71fff", func := "weighbridge/weighbridgelaw13.PortsBack", spec := "portsBack", apart := false }
def PortsBackSaid : Prop := portsBackRow.holds Try.pinned (OpenSpec.ofChange portsBackSpec)

/-- ITS FALSE NEIGHBOUR: 'it returns false'. Refute it at one input. -/
def portsBackWrong : ChangeSpec := { name := "portsBack", fn := fun _ => fun
  | [d1, d2, d3] => { results := [.lit (.bool false)], args := [d1, d2, d3] }
  | _ => none }
def PortsBackWrongFalsely : Prop := portsBackRow.holds Try.pinned (OpenSpec.ofChange portsBackWrong)

/-- 'weighbridgelaw02.WideAdds': WHATEVER THE INPUT: true; the input reads as it did. -/
def wideAddsSpec : ChangeSpec := { name := "wideAdds", fn := fun _ => fun
  | [d1, d2] => { results := [.lit (.bool true)], args := [d1, d2] }
  | _ => none }
def wideAddsRow : OpenClaim := { program := "ytikejeihmhpabaa", sum := "a01c3abfab54dcaaa98e9c19407d1b332791bf629a31d7beba546c0993b71fff", func := "weighbridge/weighbridgelaw02.WideAdds", spec := "wideAdds", apart := false }
def WideAddsSaid : Prop := wideAddsRow.holds Try.pinned (OpenSpec.ofChange wideAddsSpec)

/-- ITS FALSE NEIGHBOUR: 'it returns false'. Refute it at one input. -/
def wideAddsWrong : ChangeSpec := { name := "wideAdds", fn := fun _ => fun
  | [d1, d2] => { results := [.lit (.bool false)], args := [d1, d2] }
  | _ => none }
def WideAddsWrongFalsely : Prop := wideAddsRow.holds Try.pinned (OpenSpec.ofChange wideAddsWrong)

/-- 'weighbridgelaw02.WideMuls': WHATEVER THE INPUT: true; the input reads as it did. -/
def wideMulsSpec : ChangeSpec := { name := "wideMuls", fn := fun _ => fun
  | [d1, d2] => { results := [.lit (.bool true)], args := [d1, d2] }
  | _ => none }
def wideMulsRow : OpenClaim := { program := "ytikejeihmhpabaa", sum := "a01c3abfab54dcaaa98e9c19407d1b332791bf629a31d7beba546c0993b71fff", func := "weighbridge/weighbridgelaw02.WideMuls", spec := "wideMuls", apart := false }
def WideMulsSaid : Prop := wideMulsRow.holds Try.pinned (OpenSpec.ofChange wideMulsSpec)

/-- ITS FALSE NEIGHBOUR: 'it returns false'. Refute it at one input. -/
def wideMulsWrong : ChangeSpec := { name := "wideMuls", fn := fun _ => fun
  | [d1, d2] => { results := [.lit (.bool false)], args := [d1, d2] }
  | _ => none }
def WideMulsWrongFalsely : Prop := wideMulsRow.holds Try.pinned (OpenSpec.ofChange wideMulsWrong)

/-- 'weighbridgelaw02.WideDivs': WHATEVER THE INPUT: true; the input reads as it did. -/
def wideDivsSpec : ChangeSpec := { name := "wideDivs", fn := fun _ => fun
  | [d1, d2] => { results := [.lit (.bool true)], args := [d1, d2] }
  | _ => none }
def wideDivsRow : OpenClaim := { program := "ytikejeihmhpabaa", sum := "a01c3abfab54dcaaa98e9c19407d1b332791bf629a31d7beba546c0993b71fff", func := "weighbridge/weighbridgelaw02.WideDivs", spec := "wideDivs", apart := false }
def WideDivsSaid : Prop := wideDivsRow.holds Try.pinned (OpenSpec.ofChange wideDivsSpec)

/-- ITS FALSE NEIGHBOUR: 'it returns false'. Refute it at one input. -/
def wideDivsWrong : ChangeSpec := { name := "wideDivs", fn := fun _ => fun
  | [d1, d2] => { results := [.lit (.bool false)], args := [d1, d2] }
  | _ => none }
def WideDivsWrongFalsely : Prop := wideDivsRow.holds Try.pinned (OpenSpec.ofChange wideDivsWrong)

/-- 'weighbridgelaw02.WideTexts': WHATEVER THE INPUT: true; the input reads as it did. -/
def wideTextsSpec : ChangeSpec := { name := "wideTexts", fn := fun _ => fun
  | [d1, d2] => { results := [.lit (.bool true)], args := [d1, d2] }
  | _ => none }
def wideTextsRow : OpenClaim := { program := "ytikejeihmhpabaa", sum := "a01c3abfab54dcaaa98e9c19407d1b332791bf629a31d7beba546c0993b71fff", func := "weighbridge/weighbridgelaw02.WideTexts", spec := "wideTexts", apart := false }
def WideTextsSaid : Prop := wideTextsRow.holds Try.pinned (OpenSpec.ofChange wideTextsSpec)

/-- ITS FALSE NEIGHBOUR: 'it returns false'. Refute it at one input. -/
def wideTextsWrong : ChangeSpec := { name := "wideTexts", fn := fun _ => fun
  | [d1, d2] => { results := [.lit (.bool false)], args := [d1, d2] }
  | _ => none }
def WideTextsWrongFalsely : Prop := wideTextsRow.holds Try.pinned (OpenSpec.ofChange wideTextsWrong)

/-- 'weighbridgelaw02.WideBack': WHATEVER THE INPUT: true; the input reads as it did. -/
def wideBackSpec : ChangeSpec := { name := "wideBack", fn := fun _ => fun
  | [d1, d2, d3] => { results := [.lit (.bool true)], args := [d1, d2, d3] }
  | _ => none }
def wideBackRow : OpenClaim := { program := "ytikejeihmhpabaa", sum := "a01c3abfab54dcaaa98e9c19407d1b332791bf629a31d7beba546c0993b71fff", func := "weighbridge/weighbridgelaw02.WideBack", spec := "wideBack", apart := false }
def WideBackSaid : Prop := wideBackRow.holds Try.pinned (OpenSpec.ofChange wideBackSpec)

/-- ITS FALSE NEIGHBOUR: 'it returns false'. Refute it at one input. -/
def wideBackWrong : ChangeSpec := { name := "wideBack", fn := fun _ => fun
  | [d1, d2, d3] => { results := [.lit (.bool false)], args := [d1, d2, d3] }
  | _ => none }
def WideBackWrongFalsely : Prop := wideBackRow.holds Try.pinned (OpenSpec.ofChange wideBackWrong)

/- THE SECOND FORM. 'bulk': how many values and letters a reading holds, each counted each time it is reached (what is shared counts as often as it is met; a slice's spare places count too). A statement '..UptoSaid' is the law's where the arguments, and the package variables that the reading takes, are together of bulk at most 1048576: NARROWER than '..Said'. Prove '..Said' where nothing that the law and all that it calls make is longer than what came in: it says more and counts as full. Else prove '..UptoSaid'. A law counts once. -/
mutual
def uptoBulk {H : Type} : DataW H → Nat
  | .lit (.string bytes) => bytes.length + 1
  | .lit _ => 1
  | .nil => 1
  | .ptr d => uptoBulk d + 1
  | .slice elems spare => uptoBulkAll elems + uptoBulkAll spare + 1
  | .agg parts => uptoBulkAll parts + 1
  | .iface _ d => uptoBulk d + 1
  | .map entries => uptoBulkEntries entries + 1
  | .held _ => 1
def uptoBulkAll {H : Type} : List (DataW H) → Nat
  | [] => 0
  | d :: r => uptoBulk d + uptoBulkAll r
def uptoBulkEntries {H : Type} : List (Lit × DataW H) → Nat
  | [] => 0
  | x :: r => uptoBulkEntry x + uptoBulkEntries r
def uptoBulkEntry {H : Type} : Lit × DataW H → Nat
  | (.string bytes, d) => bytes.length + uptoBulk d + 1
  | (_, d) => uptoBulk d + 1
 end
def uptoSmall : (H : Type) → List (DataW H) → Bool := fun _ ds => decide (uptoBulkAll ds ≤ 1048576)
def OpenSpec.upto (s : _root_.Go.ChangeSpec) : _root_.Go.OpenSpec := { _root_.Go.OpenSpec.ofChange s with cond := some uptoSmall }

/-- 'weighbridgelaw03.OnesumSums', WHERE WHAT IT READS IS OF BULK AT MOST 1048576: true; the input reads as it did. -/
def onesumSumsUptoRow : OpenClaim := { program := "ytikejeihmhpabaa", sum := "a01c3abfab54dcaaa98e9c19407d1b332791bf629a31d7beba546c0993b71fff", func := "weighbridge/weighbridgelaw03.OnesumSums", spec := "onesumSums", unfollowed := true, recurses := true, apart := false, narrowed := true }
def OnesumSumsUptoSaid : Prop := onesumSumsUptoRow.holds Try.pinned (OpenSpec.upto onesumSumsSpec)

/-- 'weighbridgelaw03.OnesumJoins', WHERE WHAT IT READS IS OF BULK AT MOST 1048576: true; the input reads as it did. -/
def onesumJoinsUptoRow : OpenClaim := { program := "ytikejeihmhpabaa", sum := "a01c3abfab54dcaaa98e9c19407d1b332791bf629a31d7beba546c0993b71fff", func := "weighbridge/weighbridgelaw03.OnesumJoins", spec := "onesumJoins", unfollowed := true, recurses := true, apart := false, narrowed := true }
def OnesumJoinsUptoSaid : Prop := onesumJoinsUptoRow.holds Try.pinned (OpenSpec.upto onesumJoinsSpec)

/-- 'weighbridgelaw03.OnesumFills', WHERE WHAT IT READS IS OF BULK AT MOST 1048576: true; the input reads as it did. -/
def onesumFillsUptoRow : OpenClaim := { program := "ytikejeihmhpabaa", sum := "a01c3abfab54dcaaa98e9c19407d1b332791bf629a31d7beba546c0993b71fff", func := "weighbridge/weighbridgelaw03.OnesumFills", spec := "onesumFills", unfollowed := true, recurses := true, apart := false, narrowed := true }
def OnesumFillsUptoSaid : Prop := onesumFillsUptoRow.holds Try.pinned (OpenSpec.upto onesumFillsSpec)

/-- 'weighbridgelaw03.OnesumFinds', WHERE WHAT IT READS IS OF BULK AT MOST 1048576: true; the input reads as it did. -/
def onesumFindsUptoRow : OpenClaim := { program := "ytikejeihmhpabaa", sum := "a01c3abfab54dcaaa98e9c19407d1b332791bf629a31d7beba546c0993b71fff", func := "weighbridge/weighbridgelaw03.OnesumFinds", spec := "onesumFinds", unfollowed := true, recurses := true, apart := false, narrowed := true }
def OnesumFindsUptoSaid : Prop := onesumFindsUptoRow.holds Try.pinned (OpenSpec.upto onesumFindsSpec)

/-- 'weighbridgelaw13.PortsReads', WHERE WHAT IT READS IS OF BULK AT MOST 1048576: true; the input reads as it did. -/
def portsReadsUptoRow : OpenClaim := { program := "ytikejeihmhpabaa", sum := "a01c3abfab54dcaaa98e9c19407d1b332791bf629a31d7beba546c0993b71fff", func := "weighbridge/weighbridgelaw13.PortsReads", spec := "portsReads", apart := false, narrowed := true }
def PortsReadsUptoSaid : Prop := portsReadsUptoRow.holds Try.pinned (OpenSpec.upto portsReadsSpec)

/-- 'weighbridgelaw13.PortsWrites', WHERE WHAT IT READS IS OF BULK AT MOST 1048576: true; the input reads as it did. -/
def portsWritesUptoRow : OpenClaim := { program := "ytikejeihmhpabaa", sum := "a01c3abfab54dcaaa98e9c19407d1b332791bf629a31d7beba546c0993b71fff", func := "weighbridge/weighbridgelaw13.PortsWrites", spec := "portsWrites", apart := false, narrowed := true }
def PortsWritesUptoSaid : Prop := portsWritesUptoRow.holds Try.pinned (OpenSpec.upto portsWritesSpec)

/-- 'weighbridgelaw13.PortsBack', WHERE WHAT IT READS IS OF BULK AT MOST 1048576: true; the input reads as it did. -/
def portsBackUptoRow : OpenClaim := { program := "ytikejeihmhpabaa", sum := "a01c3abfab54dcaaa98e9c19407d1b332791bf629a31d7beba546c0993b71fff", func := "weighbridge/weighbridgelaw13.PortsBack", spec := "portsBack", apart := false, narrowed := true }
def PortsBackUptoSaid : Prop := portsBackUptoRow.holds Try.pinned (OpenSpec.upto portsBackSpec)

/-- 'weighbridgelaw02.WideAdds', WHERE WHAT IT READS IS OF BULK AT MOST 1048576: true; the input reads as it did. -/
def wideAddsUptoRow : OpenClaim := { program := "ytikejeihmhpabaa", sum := "a01c3abfab54dcaaa98e9c19407d1b332791bf629a31d7beba546c0993b71fff", func := "weighbridge/weighbridgelaw02.WideAdds", spec := "wideAdds", apart := false, narrowed := true }
def WideAddsUptoSaid : Prop := wideAddsUptoRow.holds Try.pinned (OpenSpec.upto wideAddsSpec)

/-- 'weighbridgelaw02.WideMuls', WHERE WHAT IT READS IS OF BULK AT MOST 1048576: true; the input reads as it did. -/
def wideMulsUptoRow : OpenClaim := { program := "ytikejeihmhpabaa", sum := "a01c3abfab54dcaaa98e9c19407d1b332791bf629a31d7beba546c0993b71fff", func := "weighbridge/weighbridgelaw02.WideMuls", spec := "wideMuls", apart := false, narrowed := true }
def WideMulsUptoSaid : Prop := wideMulsUptoRow.holds Try.pinned (OpenSpec.upto wideMulsSpec)

/-- 'weighbridgelaw02.WideDivs', WHERE WHAT IT READS IS OF BULK AT MOST 1048576: true; the input reads as it did. -/
def wideDivsUptoRow : OpenClaim := { program := "ytikejeihmhpabaa", sum := "a01c3abfab54dcaaa98e9c19407d1b332791bf629a31d7beba546c0993b71fff", func := "weighbridge/weighbridgelaw02.WideDivs", spec := "wideDivs", apart := false, narrowed := true }
def WideDivsUptoSaid : Prop := wideDivsUptoRow.holds Try.pinned (OpenSpec.upto wideDivsSpec)

/-- 'weighbridgelaw02.WideTexts', WHERE WHAT IT READS IS OF BULK AT MOST 1048576: true; the input reads as it did. -/
def wideTextsUptoRow : OpenClaim := { program := "ytikejeihmhpabaa", sum := "a01c3abfab54dcaaa98e9c19407d1b332791bf629a31d7beba546c0993b71fff", func := "weighbridge/weighbridgelaw02.WideTexts", spec := "wideTexts", apart := false, narrowed := true }
def WideTextsUptoSaid : Prop := wideTextsUptoRow.holds Try.pinned (OpenSpec.upto wideTextsSpec)

/-- 'weighbridgelaw02.WideBack', WHERE WHAT IT READS IS OF BULK AT MOST 1048576: true; the input reads as it did. -/
def wideBackUptoRow : OpenClaim := { program := "ytikejeihmhpabaa", sum := "a01c3abfab54dcaaa98e9c19407d1b332791bf629a31d7beba546c0993b71fff", func := "weighbridge/weighbridgelaw02.WideBack", spec := "wideBack", apart := false, narrowed := true }
def WideBackUptoSaid : Prop := wideBackUptoRow.holds Try.pinned (OpenSpec.upto wideBackSpec)

end Rows
end Go.Proofs.Ytikejeihmhpabaa
