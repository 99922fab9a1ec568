/-
  No cell of these rows narrows 'for every input' (looked for: loops, veiled, ifaces, maps, wideKeys, modest, calm, conditions, laid).
  DERIVED. THE GIVEN ROWS OF THIS SEAT. 10 by the template 'for every input the law returns true; each argument reads behind the call as it read before'; 0 by the template 'total and deterministic' (their statements: YtihcipgcknjkbaaTotals.lean).
  GIVEN WITH THE SEED: the statements are not yours to turn. If you find one false, say at which input.
  Laid BY PROGRAM, IN A SANDBOX (cutbox-rows.mjs): the forced cells as the released guide's own fill.sh prints them over the translation 7375fe0135136991… (all of the seat's roots in one cut). By AI agents, Wed Nov 11 2026. No macro, syntax, notation, axiom, sorry.
-/
import Derived.Test.YtihcipgcknjkbaaChecked
import GoSem.Claim
import GoSem.ClaimJoined
import GoSem.ClaimMapViews
import Derived.JoinedTies
import Derived.KernelRfl
namespace Go.Proofs.Ytihcipgcknjkbaa
/- THE CELL 'sum', in the pinned program and in every row, IS THE sha256 OF THE DUMP (.gsa) THAT YtihcipgcknjkbaaProg.lean LOADS. Nothing in Lean hashes anything: it is a label: what it is worth is what the hold of that sum in a sandbox is worth. -/
noncomputable def Try.pinned : Pinned := { name := "ytihcipgcknjkbaa", sum := "7375fe013513699166a977c85c62197de5fa92407329484d5d3af61b708fc8db", checked := Try.checked }
namespace Rows
def none {H : Type} : Left H := { results := [], args := [] }

/-- 'weighbridgelaw31.ColourBack': WHATEVER THE INPUT: true; the input reads as it did. -/
def colourBackSpec : ChangeSpec := { name := "colourBack", fn := fun _ => fun
  | [d1, d2] => { results := [.lit (.bool true)], args := [d1, d2] }
  | _ => none }
def colourBackRow : OpenClaim := { program := "ytihcipgcknjkbaa", sum := "7375fe013513699166a977c85c62197de5fa92407329484d5d3af61b708fc8db", func := "weighbridge/weighbridgelaw31.ColourBack", spec := "colourBack", apart := false }
def ColourBackSaid : Prop := colourBackRow.holds Try.pinned (OpenSpec.ofChange colourBackSpec)

/-- ITS FALSE NEIGHBOUR: 'it returns false'. Refute it at one input. -/
def colourBackWrong : ChangeSpec := { name := "colourBack", fn := fun _ => fun
  | [d1, d2] => { results := [.lit (.bool false)], args := [d1, d2] }
  | _ => none }
def ColourBackWrongFalsely : Prop := colourBackRow.holds Try.pinned (OpenSpec.ofChange colourBackWrong)

/-- 'weighbridgelaw01.OctetGets': WHATEVER THE INPUT: true; the input reads as it did. -/
def octetGetsSpec : ChangeSpec := { name := "octetGets", fn := fun _ => fun
  | [d1, d2, d3] => { results := [.lit (.bool true)], args := [d1, d2, d3] }
  | _ => none }
def octetGetsRow : OpenClaim := { program := "ytihcipgcknjkbaa", sum := "7375fe013513699166a977c85c62197de5fa92407329484d5d3af61b708fc8db", func := "weighbridge/weighbridgelaw01.OctetGets", spec := "octetGets", apart := false }
def OctetGetsSaid : Prop := octetGetsRow.holds Try.pinned (OpenSpec.ofChange octetGetsSpec)

/-- ITS FALSE NEIGHBOUR: 'it returns false'. Refute it at one input. -/
def octetGetsWrong : ChangeSpec := { name := "octetGets", fn := fun _ => fun
  | [d1, d2, d3] => { results := [.lit (.bool false)], args := [d1, d2, d3] }
  | _ => none }
def OctetGetsWrongFalsely : Prop := octetGetsRow.holds Try.pinned (OpenSpec.ofChange octetGetsWrong)

/-- 'weighbridgelaw01.OctetPuts': WHATEVER THE INPUT: true; the input reads as it did. -/
def octetPutsSpec : ChangeSpec := { name := "octetPuts", fn := fun _ => fun
  | [d1, d2, d3] => { results := [.lit (.bool true)], args := [d1, d2, d3] }
  | _ => none }
def octetPutsRow : OpenClaim := { program := "ytihcipgcknjkbaa", sum := "7375fe013513699166a977c85c62197de5fa92407329484d5d3af61b708fc8db", func := "weighbridge/weighbridgelaw01.OctetPuts", spec := "octetPuts", apart := false }
def OctetPutsSaid : Prop := octetPutsRow.holds Try.pinned (OpenSpec.ofChange octetPutsSpec)

/-- ITS FALSE NEIGHBOUR: 'it returns false'. Refute it at one input. -/
def octetPutsWrong : ChangeSpec := { name := "octetPuts", fn := fun _ => fun
  | [d1, d2, d3] => { results := [.lit (.bool false)], args := [d1, d2, d3] }
  | _ => none }
def OctetPutsWrongFalsely : Prop := octetPutsRow.holds Try.pinned (OpenSpec.ofChange octetPutsWrong)

/-- 'weighbridgelaw01.OctetBits': WHATEVER THE INPUT: true; the input reads as it did. -/
def octetBitsSpec : ChangeSpec := { name := "octetBits", fn := fun _ => fun
  | [d1, d2, d3] => { results := [.lit (.bool true)], args := [d1, d2, d3] }
  | _ => none }
def octetBitsRow : OpenClaim := { program := "ytihcipgcknjkbaa", sum := "7375fe013513699166a977c85c62197de5fa92407329484d5d3af61b708fc8db", func := "weighbridge/weighbridgelaw01.OctetBits", spec := "octetBits", apart := false }
def OctetBitsSaid : Prop := octetBitsRow.holds Try.pinned (OpenSpec.ofChange octetBitsSpec)

/-- ITS FALSE NEIGHBOUR: 'it returns false'. Refute it at one input. -/
def octetBitsWrong : ChangeSpec := { name := "octetBits", fn := fun _ => fun
  | [d1, d2, d3] => { results := [.lit (.bool false)], args := [d1, d2, d3] }
  | _ => none }
def OctetBitsWrongFalsely : Prop := octetBitsRow.holds Try.pinned (OpenSpec.ofChange octetBitsWrong)

/-- 'weighbridgelaw01.OctetHex': WHATEVER THE INPUT: true; the input reads as it did. -/
def octetHexSpec : ChangeSpec := { name := "octetHex", fn := fun _ => fun
  | [d1, d2] => { results := [.lit (.bool true)], args := [d1, d2] }
  | _ => none }
def octetHexRow : OpenClaim := { program := "ytihcipgcknjkbaa", sum := "7375fe013513699166a977c85c62197de5fa92407329484d5d3af61b708fc8db", func := "weighbridge/weighbridgelaw01.OctetHex", spec := "octetHex", apart := false }
def OctetHexSaid : Prop := octetHexRow.holds Try.pinned (OpenSpec.ofChange octetHexSpec)

/-- ITS FALSE NEIGHBOUR: 'it returns false'. Refute it at one input. -/
def octetHexWrong : ChangeSpec := { name := "octetHex", fn := fun _ => fun
  | [d1, d2] => { results := [.lit (.bool false)], args := [d1, d2] }
  | _ => none }
def OctetHexWrongFalsely : Prop := octetHexRow.holds Try.pinned (OpenSpec.ofChange octetHexWrong)

/-- 'weighbridgelaw01.OctetBack': WHATEVER THE INPUT: true; the input reads as it did. -/
def octetBackSpec : ChangeSpec := { name := "octetBack", fn := fun _ => fun
  | [d1, d2, d3] => { results := [.lit (.bool true)], args := [d1, d2, d3] }
  | _ => none }
def octetBackRow : OpenClaim := { program := "ytihcipgcknjkbaa", sum := "7375fe013513699166a977c85c62197de5fa92407329484d5d3af61b708fc8db", func := "weighbridge/weighbridgelaw01.OctetBack", spec := "octetBack", apart := false }
def OctetBackSaid : Prop := octetBackRow.holds Try.pinned (OpenSpec.ofChange octetBackSpec)

/-- ITS FALSE NEIGHBOUR: 'it returns false'. Refute it at one input. -/
def octetBackWrong : ChangeSpec := { name := "octetBack", fn := fun _ => fun
  | [d1, d2, d3] => { results := [.lit (.bool false)], args := [d1, d2, d3] }
  | _ => none }
def OctetBackWrongFalsely : Prop := octetBackRow.holds Try.pinned (OpenSpec.ofChange octetBackWrong)

/-- 'weighbridgelaw04.AdjustWords': WHATEVER THE INPUT: true; the input reads as it did. -/
def adjustWordsSpec : ChangeSpec := { name := "adjustWords", fn := fun _ => fun
  | [d1, d2, d3] => { results := [.lit (.bool true)], args := [d1, d2, d3] }
  | _ => none }
def adjustWordsRow : OpenClaim := { program := "ytihcipgcknjkbaa", sum := "7375fe013513699166a977c85c62197de5fa92407329484d5d3af61b708fc8db", func := "weighbridge/weighbridgelaw04.AdjustWords", spec := "adjustWords", unfollowed := true, recurses := true, apart := false }
def AdjustWordsSaid : Prop := adjustWordsRow.holds Try.pinned (OpenSpec.ofChange adjustWordsSpec)

/-- ITS FALSE NEIGHBOUR: 'it returns false'. Refute it at one input. -/
def adjustWordsWrong : ChangeSpec := { name := "adjustWords", fn := fun _ => fun
  | [d1, d2, d3] => { results := [.lit (.bool false)], args := [d1, d2, d3] }
  | _ => none }
def AdjustWordsWrongFalsely : Prop := adjustWordsRow.holds Try.pinned (OpenSpec.ofChange adjustWordsWrong)

/-- 'weighbridgelaw04.AdjustAts': WHATEVER THE INPUT: true; the input reads as it did. -/
def adjustAtsSpec : ChangeSpec := { name := "adjustAts", fn := fun _ => fun
  | [d1, d2, d3] => { results := [.lit (.bool true)], args := [d1, d2, d3] }
  | _ => none }
def adjustAtsRow : OpenClaim := { program := "ytihcipgcknjkbaa", sum := "7375fe013513699166a977c85c62197de5fa92407329484d5d3af61b708fc8db", func := "weighbridge/weighbridgelaw04.AdjustAts", spec := "adjustAts", unfollowed := true, recurses := true, apart := false }
def AdjustAtsSaid : Prop := adjustAtsRow.holds Try.pinned (OpenSpec.ofChange adjustAtsSpec)

/-- ITS FALSE NEIGHBOUR: 'it returns false'. Refute it at one input. -/
def adjustAtsWrong : ChangeSpec := { name := "adjustAts", fn := fun _ => fun
  | [d1, d2, d3] => { results := [.lit (.bool false)], args := [d1, d2, d3] }
  | _ => none }
def AdjustAtsWrongFalsely : Prop := adjustAtsRow.holds Try.pinned (OpenSpec.ofChange adjustAtsWrong)

/-- 'weighbridgelaw04.AdjustBack': WHATEVER THE INPUT: true; the input reads as it did. -/
def adjustBackSpec : ChangeSpec := { name := "adjustBack", fn := fun _ => fun
  | [d1, d2, d3] => { results := [.lit (.bool true)], args := [d1, d2, d3] }
  | _ => none }
def adjustBackRow : OpenClaim := { program := "ytihcipgcknjkbaa", sum := "7375fe013513699166a977c85c62197de5fa92407329484d5d3af61b708fc8db", func := "weighbridge/weighbridgelaw04.AdjustBack", spec := "adjustBack", unfollowed := true, recurses := true, apart := false }
def AdjustBackSaid : Prop := adjustBackRow.holds Try.pinned (OpenSpec.ofChange adjustBackSpec)

/-- ITS FALSE NEIGHBOUR: 'it returns false'. Refute it at one input. -/
def adjustBackWrong : ChangeSpec := { name := "adjustBack", fn := fun _ => fun
  | [d1, d2, d3] => { results := [.lit (.bool false)], args := [d1, d2, d3] }
  | _ => none }
def AdjustBackWrongFalsely : Prop := adjustBackRow.holds Try.pinned (OpenSpec.ofChange adjustBackWrong)

/-- 'weighbridgelaw04.AdjustFresh': WHATEVER THE INPUT: true; the input reads as it did. -/
def adjustFreshSpec : ChangeSpec := { name := "adjustFresh", fn := fun _ => fun
  | [d1, d2, d3] => { results := [.lit (.bool true)], args := [d1, d2, d3] }
  | _ => none }
def adjustFreshRow : OpenClaim := { program := "ytihcipgcknjkbaa", sum := "7375fe013513699166a977c85c62197de5fa92407329484d5d3af61b708fc8db", func := "weighbridge/weighbridgelaw04.AdjustFresh", spec := "adjustFresh", unfollowed := true, recurses := true, apart := false }
def AdjustFreshSaid : Prop := adjustFreshRow.holds Try.pinned (OpenSpec.ofChange adjustFreshSpec)

/-- ITS FALSE NEIGHBOUR: 'it returns false'. Refute it at one input. -/
def adjustFreshWrong : ChangeSpec := { name := "adjustFresh", fn := fun _ => fun
  | [d1, d2, d3] => { results := [.lit (.bool false)], args := [d1, d2, d3] }
  | _ => none }
def AdjustFreshWrongFalsely : Prop := adjustFreshRow.holds Try.pinned (OpenSpec.ofChange adjustFreshWrong)

/- THE SECOND FORM. 'bulk': how many values and letters a reading holds, each counted each time it is reached (what is shared counts as often as it is met; a slice's spare places count too). A statement '..UptoSaid' is the law's where the arguments, and the package variables that the reading takes, are together of bulk at most 1048576: NARROWER than '..Said'. Prove '..Said' where nothing that the law and all that it calls make is longer than what came in: it says more and counts as full. Else prove '..UptoSaid'. A law counts once. -/
mutual
def uptoBulk {H : Type} : DataW H → Nat
  | .lit (.string bytes) => bytes.length + 1
  | .lit _ => 1
  | .nil => 1
  | .ptr d => uptoBulk d + 1
  | .slice elems spare => uptoBulkAll elems + uptoBulkAll spare + 1
  | .agg parts => uptoBulkAll parts + 1
  | .iface _ d => uptoBulk d + 1
  | .map entries => uptoBulkEntries entries + 1
  | .held _ => 1
def uptoBulkAll {H : Type} : List (DataW H) → Nat
  | [] => 0
  | d :: r => uptoBulk d + uptoBulkAll r
def uptoBulkEntries {H : Type} : List (Lit × DataW H) → Nat
  | [] => 0
  | x :: r => uptoBulkEntry x + uptoBulkEntries r
def uptoBulkEntry {H : Type} : Lit × DataW H → Nat
  | (.string bytes, d) => bytes.length + uptoBulk d + 1
  | (_, d) => uptoBulk d + 1
 end
def uptoSmall : (H : Type) → List (DataW H) → Bool := fun _ ds => decide (uptoBulkAll ds ≤ 1048576)
def OpenSpec.upto (s : _root_.Go.ChangeSpec) : _root_.Go.OpenSpec := { _root_.Go.OpenSpec.ofChange s with cond := some uptoSmall }

/-- 'weighbridgelaw31.ColourBack', WHERE WHAT IT READS IS OF BULK AT MOST 1048576: true; the input reads as it did. -/
def colourBackUptoRow : OpenClaim := { program := "ytihcipgcknjkbaa", sum := "7375fe013513699166a977c85c62197de5fa92407329484d5d3af61b708fc8db", func := "weighbridge/weighbridgelaw31.ColourBack", spec := "colourBack", apart := false, narrowed := true }
def ColourBackUptoSaid : Prop := colourBackUptoRow.holds Try.pinned (OpenSpec.upto colourBackSpec)

/-- 'weighbridgelaw01.OctetGets', WHERE WHAT IT READS IS OF BULK AT MOST 1048576: true; the input reads as it did. -/
def octetGetsUptoRow : OpenClaim := { program := "ytihcipgcknjkbaa", sum := "7375fe013513699166a977c85c62197de5fa92407329484d5d3af61b708fc8db", func := "weighbridge/weighbridgelaw01.OctetGets", spec := "octetGets", apart := false, narrowed := true }
def OctetGetsUptoSaid : Prop := octetGetsUptoRow.holds Try.pinned (OpenSpec.upto octetGetsSpec)

/-- 'weighbridgelaw01.OctetPuts', WHERE WHAT IT READS IS OF BULK AT MOST 1048576: true; the input reads as it did. -/
def octetPutsUptoRow : OpenClaim := { program := "ytihcipgcknjkbaa", sum := "7375fe013513699166a977c85c62197de5fa92407329484d5d3af61b708fc8db", func := "weighbridge/weighbridgelaw01.OctetPuts", spec := "octetPuts", apart := false, narrowed := true }
def OctetPutsUptoSaid : Prop := octetPutsUptoRow.holds Try.pinned (OpenSpec.upto octetPutsSpec)

/-- 'weighbridgelaw01.OctetBits', WHERE WHAT IT READS IS OF BULK AT MOST 1048576: true; the input reads as it did. -/
def octetBitsUptoRow : OpenClaim := { program := "ytihcipgcknjkbaa", sum := "7375fe013513699166a977c85c62197de5fa92407329484d5d3af61b708fc8db", func := "weighbridge/weighbridgelaw01.OctetBits", spec := "octetBits", apart := false, narrowed := true }
def OctetBitsUptoSaid : Prop := octetBitsUptoRow.holds Try.pinned (OpenSpec.upto octetBitsSpec)

/-- 'weighbridgelaw01.OctetHex', WHERE WHAT IT READS IS OF BULK AT MOST 1048576: true; the input reads as it did. -/
def octetHexUptoRow : OpenClaim := { program := "ytihcipgcknjkbaa", sum := "7375fe013513699166a977c85c62197de5fa92407329484d5d3af61b708fc8db", func := "weighbridge/weighbridgelaw01.OctetHex", spec := "octetHex", apart := false, narrowed := true }
def OctetHexUptoSaid : Prop := octetHexUptoRow.holds Try.pinned (OpenSpec.upto octetHexSpec)

/-- 'weighbridgelaw01.OctetBack', WHERE WHAT IT READS IS OF BULK AT MOST 1048576: true; the input reads as it did. -/
def octetBackUptoRow : OpenClaim := { program := "ytihcipgcknjkbaa", sum := "7375fe013513699166a977c85c62197de5fa92407329484d5d3af61b708fc8db", func := "weighbridge/weighbridgelaw01.OctetBack", spec := "octetBack", apart := false, narrowed := true }
def OctetBackUptoSaid : Prop := octetBackUptoRow.holds Try.pinned (OpenSpec.upto octetBackSpec)

/-- 'weighbridgelaw04.AdjustWords', WHERE WHAT IT READS IS OF BULK AT MOST 1048576: true; the input reads as it did. -/
def adjustWordsUptoRow : OpenClaim := { program := "ytihcipgcknjkbaa", sum := "7375fe013513699166a977c85c62197de5fa92407329484d5d3af61b708fc8db", func := "weighbridge/weighbridgelaw04.AdjustWords", spec := "adjustWords", unfollowed := true, recurses := true, apart := false, narrowed := true }
def AdjustWordsUptoSaid : Prop := adjustWordsUptoRow.holds Try.pinned (OpenSpec.upto adjustWordsSpec)

/-- 'weighbridgelaw04.AdjustAts', WHERE WHAT IT READS IS OF BULK AT MOST 1048576: true; the input reads as it did. -/
def adjustAtsUptoRow : OpenClaim := { program := "ytihcipgcknjkbaa", sum := "7375fe013513699166a977c85c62197de5fa92407329484d5d3af61b708fc8db", func := "weighbridge/weighbridgelaw04.AdjustAts", spec := "adjustAts", unfollowed := true, recurses := true, apart := false, narrowed := true }
def AdjustAtsUptoSaid : Prop := adjustAtsUptoRow.holds Try.pinned (OpenSpec.upto adjustAtsSpec)

/-- 'weighbridgelaw04.AdjustBack', WHERE WHAT IT READS IS OF BULK AT MOST 1048576: true; the input reads as it did. -/
def adjustBackUptoRow : OpenClaim := { program := "ytihcipgcknjkbaa", sum := "7375fe013513699166a977c85c62197de5fa92407329484d5d3af61b708fc8db", func := "weighbridge/weighbridgelaw04.AdjustBack", spec := "adjustBack", unfollowed := true, recurses := true, apart := false, narrowed := true }
def AdjustBackUptoSaid : Prop := adjustBackUptoRow.holds Try.pinned (OpenSpec.upto adjustBackSpec)

/-- 'weighbridgelaw04.AdjustFresh', WHERE WHAT IT READS IS OF BULK AT MOST 1048576: true; the input reads as it did. -/
def adjustFreshUptoRow : OpenClaim := { program := "ytihcipgcknjkbaa", sum := "7375fe013513699166a977c85c62197de5fa92407329484d5d3af61b708fc8db", func := "weighbridge/weighbridgelaw04.AdjustFresh", spec := "adjustFresh", unfollowed := true, recurses := true, apart := false, narrowed := true }
def AdjustFreshUptoSaid : Prop := adjustFreshUptoRow.holds Try.pinned (OpenSpec.upto adjustFreshSpec)

end Rows
end Go.Proofs.Ytihcipgcknjkbaa
