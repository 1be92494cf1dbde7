/-
  No cell of these rows narrows 'for every input' (looked for: loops, veiled, ifaces, maps, wideKeys, modest, calm, conditions, laid).
  DERIVED. THE GIVEN ROWS OF THIS SEAT. 12 by the template 'for every input the law returns true; each argument reads behind the call as it read before'; 0 by the template 'total and deterministic' (their statements: YtoeppofkmcdknaaTotals.lean).
  GIVEN WITH THE SEED: the statements are not yours to turn. If you find one false, say at which input.
  Laid BY PROGRAM, IN A SANDBOX (cutbox-rows.mjs): the forced cells as the released guide's own fill.sh prints them over the translation 9740b0f5861e1004… (all of the seat's roots in one cut). By AI agents, Wed Nov 11 2026. No macro, syntax, notation, axiom, sorry.
-/
import Derived.Test.YtoeppofkmcdknaaChecked
import GoSem.Claim
import GoSem.ClaimJoined
import GoSem.ClaimMapViews
import Derived.JoinedTies
import Derived.KernelRfl
namespace Go.Proofs.Ytoeppofkmcdknaa
/- THE CELL 'sum', in the pinned program and in every row, IS THE sha256 OF THE DUMP (.gsa) THAT YtoeppofkmcdknaaProg.lean LOADS. Nothing in Lean hashes anything: it is a label: what it is worth is what the hold of that sum in a sandbox is worth. -/
noncomputable def Try.pinned : Pinned := { name := "ytoeppofkmcdknaa", sum := "9740b0f5861e1004491527c082e7bb057ba323b11596850a23cfcb2aa330b0e9", checked := Try.checked }
namespace Rows
def none {H : Type} : Left H := { results := [], args := [] }

/-- 'dormouselaw47.PagePuts': WHATEVER THE INPUT: true; the input reads as it did. -/
def pagePutsSpec : ChangeSpec := { name := "pagePuts", fn := fun _ => fun
  | [d1, d2] => { results := [.lit (.bool true)], args := [d1, d2] }
  | _ => none }
def pagePutsRow : OpenClaim := { program := "ytoeppofkmcdknaa", sum := "9740b0f5861e1004491527c082e7bb057ba323b11596850a23cfcb2aa330b0e9", func := "dormouse/dormouselaw47.PagePuts", spec := "pagePuts", unfollowed := true, recurses := true, apart := false }
def PagePutsSaid : Prop := pagePutsRow.holds Try.pinned (OpenSpec.ofChange pagePutsSpec)

/-- ITS FALSE NEIGHBOUR: 'it returns false'. Refute it at one input. -/
def pagePutsWrong : ChangeSpec := { name := "pagePuts", fn := fun _ => fun
  | [d1, d2] => { results := [.lit (.bool false)], args := [d1, d2] }
  | _ => none }
def PagePutsWrongFalsely : Prop := pagePutsRow.holds Try.pinned (OpenSpec.ofChange pagePutsWrong)

/-- 'dormouselaw47.PageGets': WHATEVER THE INPUT: true; the input reads as it did. -/
def pageGetsSpec : ChangeSpec := { name := "pageGets", fn := fun _ => fun
  | [d] => { results := [.lit (.bool true)], args := [d] }
  | _ => none }
def pageGetsRow : OpenClaim := { program := "ytoeppofkmcdknaa", sum := "9740b0f5861e1004491527c082e7bb057ba323b11596850a23cfcb2aa330b0e9", func := "dormouse/dormouselaw47.PageGets", spec := "pageGets", unfollowed := true, recurses := true, apart := false }
def PageGetsSaid : Prop := pageGetsRow.holds Try.pinned (OpenSpec.ofChange pageGetsSpec)

/-- ITS FALSE NEIGHBOUR: 'it returns false'. Refute it at one input. -/
def pageGetsWrong : ChangeSpec := { name := "pageGets", fn := fun _ => fun
  | [d] => { results := [.lit (.bool false)], args := [d] }
  | _ => none }
def PageGetsWrongFalsely : Prop := pageGetsRow.holds Try.pinned (OpenSpec.ofChange pageGetsWrong)

/-- 'dormouselaw47.PageRows': WHATEVER THE INPUT: true; the input reads as it did. -/
def pageRowsSpec : ChangeSpec := { name := "pageRows", fn := fun _ => fun
  | [d1, d2, d3] => { results := [.lit (.bool true)], args := [d1, d2, d3] }
  | _ => none }
def pageRowsRow : OpenClaim := { program := "ytoeppofkmcdknaa", sum := "9740b0f5861e1004491527c082e7bb057ba323b11596850a23cfcb2aa330b0e9", func := "dormouse/dormouselaw47.PageRows", spec := "pageRows", unfollowed := true, recurses := true, apart := false }
def PageRowsSaid : Prop := pageRowsRow.holds Try.pinned (OpenSpec.ofChange pageRowsSpec)

/-- ITS FALSE NEIGHBOUR: 'it returns false'. Refute it at one input. -/
def pageRowsWrong : ChangeSpec := { name := "pageRows", fn := fun _ => fun
  | [d1, d2, d3] => { results := [.lit (.bool false)], args := [d1, d2, d3] }
  | _ => none }
def PageRowsWrongFalsely : Prop := pageRowsRow.holds Try.pinned (OpenSpec.ofChange pageRowsWrong)

/-- 'dormouselaw06.NodePuts': WHATEVER THE INPUT: true; the input reads as it did. -/
def nodePutsSpec : ChangeSpec := { name := "nodePuts", fn := fun _ => fun
  | [d] => { results := [.lit (.bool true)], args := [d] }
  | _ => none }
def nodePutsRow : OpenClaim := { program := "ytoeppofkmcdknaa", sum := "9740b0f5861e1004491527c082e7bb057ba323b11596850a23cfcb2aa330b0e9", func := "dormouse/dormouselaw06.NodePuts", spec := "nodePuts", unfollowed := true, recurses := true, apart := false }
def NodePutsSaid : Prop := nodePutsRow.holds Try.pinned (OpenSpec.ofChange nodePutsSpec)

/-- ITS FALSE NEIGHBOUR: 'it returns false'. Refute it at one input. -/
def nodePutsWrong : ChangeSpec := { name := "nodePuts", fn := fun _ => fun
  | [d] => { results := [.lit (.bool false)], args := [d] }
  | _ => none }
def NodePutsWrongFalsely : Prop := nodePutsRow.holds Try.pinned (OpenSpec.ofChange nodePutsWrong)

/-- 'dormouselaw06.NodeGets': WHATEVER THE INPUT: true; the input reads as it did. -/
def nodeGetsSpec : ChangeSpec := { name := "nodeGets", fn := fun _ => fun
  | [d] => { results := [.lit (.bool true)], args := [d] }
  | _ => none }
def nodeGetsRow : OpenClaim := { program := "ytoeppofkmcdknaa", sum := "9740b0f5861e1004491527c082e7bb057ba323b11596850a23cfcb2aa330b0e9", func := "dormouse/dormouselaw06.NodeGets", spec := "nodeGets", unfollowed := true, recurses := true, apart := false }
def NodeGetsSaid : Prop := nodeGetsRow.holds Try.pinned (OpenSpec.ofChange nodeGetsSpec)

/-- ITS FALSE NEIGHBOUR: 'it returns false'. Refute it at one input. -/
def nodeGetsWrong : ChangeSpec := { name := "nodeGets", fn := fun _ => fun
  | [d] => { results := [.lit (.bool false)], args := [d] }
  | _ => none }
def NodeGetsWrongFalsely : Prop := nodeGetsRow.holds Try.pinned (OpenSpec.ofChange nodeGetsWrong)

/-- 'dormouselaw06.NodeParts': WHATEVER THE INPUT: true; the input reads as it did. -/
def nodePartsSpec : ChangeSpec := { name := "nodeParts", fn := fun _ => fun
  | [d1, d2, d3] => { results := [.lit (.bool true)], args := [d1, d2, d3] }
  | _ => none }
def nodePartsRow : OpenClaim := { program := "ytoeppofkmcdknaa", sum := "9740b0f5861e1004491527c082e7bb057ba323b11596850a23cfcb2aa330b0e9", func := "dormouse/dormouselaw06.NodeParts", spec := "nodeParts", unfollowed := true, recurses := true, apart := false }
def NodePartsSaid : Prop := nodePartsRow.holds Try.pinned (OpenSpec.ofChange nodePartsSpec)

/-- ITS FALSE NEIGHBOUR: 'it returns false'. Refute it at one input. -/
def nodePartsWrong : ChangeSpec := { name := "nodeParts", fn := fun _ => fun
  | [d1, d2, d3] => { results := [.lit (.bool false)], args := [d1, d2, d3] }
  | _ => none }
def NodePartsWrongFalsely : Prop := nodePartsRow.holds Try.pinned (OpenSpec.ofChange nodePartsWrong)

/-- 'dormouselaw48.PindexDoes': WHATEVER THE INPUT: true; the input reads as it did. -/
def pindexDoesSpec : ChangeSpec := { name := "pindexDoes", fn := fun _ => fun
  | [d1, d2] => { results := [.lit (.bool true)], args := [d1, d2] }
  | _ => none }
def pindexDoesRow : OpenClaim := { program := "ytoeppofkmcdknaa", sum := "9740b0f5861e1004491527c082e7bb057ba323b11596850a23cfcb2aa330b0e9", func := "dormouse/dormouselaw48.PindexDoes", spec := "pindexDoes", unfollowed := true, recurses := true, apart := false }
def PindexDoesSaid : Prop := pindexDoesRow.holds Try.pinned (OpenSpec.ofChange pindexDoesSpec)

/-- ITS FALSE NEIGHBOUR: 'it returns false'. Refute it at one input. -/
def pindexDoesWrong : ChangeSpec := { name := "pindexDoes", fn := fun _ => fun
  | [d1, d2] => { results := [.lit (.bool false)], args := [d1, d2] }
  | _ => none }
def PindexDoesWrongFalsely : Prop := pindexDoesRow.holds Try.pinned (OpenSpec.ofChange pindexDoesWrong)

/-- 'dormouselaw48.PindexTexts': WHATEVER THE INPUT: true; the input reads as it did. -/
def pindexTextsSpec : ChangeSpec := { name := "pindexTexts", fn := fun _ => fun
  | [d1, d2, d3] => { results := [.lit (.bool true)], args := [d1, d2, d3] }
  | _ => none }
def pindexTextsRow : OpenClaim := { program := "ytoeppofkmcdknaa", sum := "9740b0f5861e1004491527c082e7bb057ba323b11596850a23cfcb2aa330b0e9", func := "dormouse/dormouselaw48.PindexTexts", spec := "pindexTexts", unfollowed := true, recurses := true, apart := false }
def PindexTextsSaid : Prop := pindexTextsRow.holds Try.pinned (OpenSpec.ofChange pindexTextsSpec)

/-- ITS FALSE NEIGHBOUR: 'it returns false'. Refute it at one input. -/
def pindexTextsWrong : ChangeSpec := { name := "pindexTexts", fn := fun _ => fun
  | [d1, d2, d3] => { results := [.lit (.bool false)], args := [d1, d2, d3] }
  | _ => none }
def PindexTextsWrongFalsely : Prop := pindexTextsRow.holds Try.pinned (OpenSpec.ofChange pindexTextsWrong)

/-- 'dormouselaw48.PindexLoads': WHATEVER THE INPUT: true; the input reads as it did. -/
def pindexLoadsSpec : ChangeSpec := { name := "pindexLoads", fn := fun _ => fun
  | [d] => { results := [.lit (.bool true)], args := [d] }
  | _ => none }
def pindexLoadsRow : OpenClaim := { program := "ytoeppofkmcdknaa", sum := "9740b0f5861e1004491527c082e7bb057ba323b11596850a23cfcb2aa330b0e9", func := "dormouse/dormouselaw48.PindexLoads", spec := "pindexLoads", unfollowed := true, recurses := true, apart := false }
def PindexLoadsSaid : Prop := pindexLoadsRow.holds Try.pinned (OpenSpec.ofChange pindexLoadsSpec)

/-- ITS FALSE NEIGHBOUR: 'it returns false'. Refute it at one input. -/
def pindexLoadsWrong : ChangeSpec := { name := "pindexLoads", fn := fun _ => fun
  | [d] => { results := [.lit (.bool false)], args := [d] }
  | _ => none }
def PindexLoadsWrongFalsely : Prop := pindexLoadsRow.holds Try.pinned (OpenSpec.ofChange pindexLoadsWrong)

/-- 'dormouselaw07.RefsKinds': WHATEVER THE INPUT: true; the input reads as it did. -/
def refsKindsSpec : ChangeSpec := { name := "refsKinds", fn := fun _ => fun
  | [d1, d2] => { results := [.lit (.bool true)], args := [d1, d2] }
  | _ => none }
def refsKindsRow : OpenClaim := { program := "ytoeppofkmcdknaa", sum := "9740b0f5861e1004491527c082e7bb057ba323b11596850a23cfcb2aa330b0e9", func := "dormouse/dormouselaw07.RefsKinds", spec := "refsKinds", unfollowed := true, recurses := true, apart := false }
def RefsKindsSaid : Prop := refsKindsRow.holds Try.pinned (OpenSpec.ofChange refsKindsSpec)

/-- ITS FALSE NEIGHBOUR: 'it returns false'. Refute it at one input. -/
def refsKindsWrong : ChangeSpec := { name := "refsKinds", fn := fun _ => fun
  | [d1, d2] => { results := [.lit (.bool false)], args := [d1, d2] }
  | _ => none }
def RefsKindsWrongFalsely : Prop := refsKindsRow.holds Try.pinned (OpenSpec.ofChange refsKindsWrong)

/-- 'dormouselaw07.RefsClash': WHATEVER THE INPUT: true; the input reads as it did. -/
def refsClashSpec : ChangeSpec := { name := "refsClash", fn := fun _ => fun
  | [d] => { results := [.lit (.bool true)], args := [d] }
  | _ => none }
def refsClashRow : OpenClaim := { program := "ytoeppofkmcdknaa", sum := "9740b0f5861e1004491527c082e7bb057ba323b11596850a23cfcb2aa330b0e9", func := "dormouse/dormouselaw07.RefsClash", spec := "refsClash", unfollowed := true, recurses := true, apart := false }
def RefsClashSaid : Prop := refsClashRow.holds Try.pinned (OpenSpec.ofChange refsClashSpec)

/-- ITS FALSE NEIGHBOUR: 'it returns false'. Refute it at one input. -/
def refsClashWrong : ChangeSpec := { name := "refsClash", fn := fun _ => fun
  | [d] => { results := [.lit (.bool false)], args := [d] }
  | _ => none }
def RefsClashWrongFalsely : Prop := refsClashRow.holds Try.pinned (OpenSpec.ofChange refsClashWrong)

/-- 'dormouselaw07.RefsOf': WHATEVER THE INPUT: true; the input reads as it did. -/
def refsOfSpec : ChangeSpec := { name := "refsOf", fn := fun _ => fun
  | [d1, d2, d3] => { results := [.lit (.bool true)], args := [d1, d2, d3] }
  | _ => none }
def refsOfRow : OpenClaim := { program := "ytoeppofkmcdknaa", sum := "9740b0f5861e1004491527c082e7bb057ba323b11596850a23cfcb2aa330b0e9", func := "dormouse/dormouselaw07.RefsOf", spec := "refsOf", unfollowed := true, recurses := true, apart := false }
def RefsOfSaid : Prop := refsOfRow.holds Try.pinned (OpenSpec.ofChange refsOfSpec)

/-- ITS FALSE NEIGHBOUR: 'it returns false'. Refute it at one input. -/
def refsOfWrong : ChangeSpec := { name := "refsOf", fn := fun _ => fun
  | [d1, d2, d3] => { results := [.lit (.bool false)], args := [d1, d2, d3] }
  | _ => none }
def RefsOfWrongFalsely : Prop := refsOfRow.holds Try.pinned (OpenSpec.ofChange refsOfWrong)

/- THE SECOND FORM. 'bulk': how many values and letters a reading holds, each counted each time it is reached (what is shared counts as often as it is met; a slice's spare places count too). A statement '..UptoSaid' is the law's where the arguments, and the package variables that the reading takes, are together of bulk at most 1048576: NARROWER than '..Said'. Prove '..Said' where nothing that the law and all that it calls make is longer than what came in: it says more and counts as full. Else prove '..UptoSaid'. A law counts once. -/
mutual
def uptoBulk {H : Type} : DataW H → Nat
  | .lit (.string bytes) => bytes.length + 1
  | .lit _ => 1
  | .nil => 1
  | .ptr d => uptoBulk d + 1
  | .slice elems spare => uptoBulkAll elems + uptoBulkAll spare + 1
  | .agg parts => uptoBulkAll parts + 1
  | .iface _ d => uptoBulk d + 1
  | .map entries => uptoBulkEntries entries + 1
  | .held _ => 1
def uptoBulkAll {H : Type} : List (DataW H) → Nat
  | [] => 0
  | d :: r => uptoBulk d + uptoBulkAll r
def uptoBulkEntries {H : Type} : List (Lit × DataW H) → Nat
  | [] => 0
  | x :: r => uptoBulkEntry x + uptoBulkEntries r
def uptoBulkEntry {H : Type} : Lit × DataW H → Nat
  | (.string bytes, d) => bytes.length + uptoBulk d + 1
  | (_, d) => uptoBulk d + 1
 end
def uptoSmall : (H : Type) → List (DataW H) → Bool := fun _ ds => decide (uptoBulkAll ds ≤ 1048576)
def OpenSpec.upto (s : _root_.Go.ChangeSpec) : _root_.Go.OpenSpec := { _root_.Go.OpenSpec.ofChange s with cond := some uptoSmall }

/-- 'dormouselaw47.PagePuts', WHERE WHAT IT READS IS OF BULK AT MOST 1048576: true; the input reads as it did. -/
def pagePutsUptoRow : OpenClaim := { program := "ytoeppofkmcdknaa", sum := "9740b0f5861e1004491527c082e7bb057ba323b11596850a23cfcb2aa330b0e9", func := "dormouse/dormouselaw47.PagePuts", spec := "pagePuts", unfollowed := true, recurses := true, apart := false, narrowed := true }
def PagePutsUptoSaid : Prop := pagePutsUptoRow.holds Try.pinned (OpenSpec.upto pagePutsSpec)

/-- 'dormouselaw47.PageGets', WHERE WHAT IT READS IS OF BULK AT MOST 1048576: true; the input reads as it did. -/
def pageGetsUptoRow : OpenClaim := { program := "ytoeppofkmcdknaa", sum := "9740b0f5861e1004491527c082e7bb057ba323b11596850a23cfcb2aa330b0e9", func := "dormouse/dormouselaw47.PageGets", spec := "pageGets", unfollowed := true, recurses := true, apart := false, narrowed := true }
def PageGetsUptoSaid : Prop := pageGetsUptoRow.holds Try.pinned (OpenSpec.upto pageGetsSpec)

/-- 'dormouselaw47.PageRows', WHERE WHAT IT READS IS OF BULK AT MOST 1048576: true; the input reads as it did. -/
def pageRowsUptoRow : OpenClaim := { program := "ytoeppofkmcdknaa", sum := "9740b0f5861e1004491527c082e7bb057ba323b11596850a23cfcb2aa330b0e9", func := "dormouse/dormouselaw47.PageRows", spec := "pageRows", unfollowed := true, recurses := true, apart := false, narrowed := true }
def PageRowsUptoSaid : Prop := pageRowsUptoRow.holds Try.pinned (OpenSpec.upto pageRowsSpec)

/-- 'dormouselaw06.NodePuts', WHERE WHAT IT READS IS OF BULK AT MOST 1048576: true; the input reads as it did. -/
def nodePutsUptoRow : OpenClaim := { program := "ytoeppofkmcdknaa", sum := "9740b0f5861e1004491527c082e7bb057ba323b11596850a23cfcb2aa330b0e9", func := "dormouse/dormouselaw06.NodePuts", spec := "nodePuts", unfollowed := true, recurses := true, apart := false, narrowed := true }
def NodePutsUptoSaid : Prop := nodePutsUptoRow.holds Try.pinned (OpenSpec.upto nodePutsSpec)

/-- 'dormouselaw06.NodeGets', WHERE WHAT IT READS IS OF BULK AT MOST 1048576: true; the input reads as it did. -/
def nodeGetsUptoRow : OpenClaim := { program := "ytoeppofkmcdknaa", sum := "9740b0f5861e1004491527c082e7bb057ba323b11596850a23cfcb2aa330b0e9", func := "dormouse/dormouselaw06.NodeGets", spec := "nodeGets", unfollowed := true, recurses := true, apart := false, narrowed := true }
def NodeGetsUptoSaid : Prop := nodeGetsUptoRow.holds Try.pinned (OpenSpec.upto nodeGetsSpec)

/-- 'dormouselaw06.NodeParts', WHERE WHAT IT READS IS OF BULK AT MOST 1048576: true; the input reads as it did. -/
def nodePartsUptoRow : OpenClaim := { program := "ytoeppofkmcdknaa", sum := "9740b0f5861e1004491527c082e7bb057ba323b11596850a23cfcb2aa330b0e9", func := "dormouse/dormouselaw06.NodeParts", spec := "nodeParts", unfollowed := true, recurses := true, apart := false, narrowed := true }
def NodePartsUptoSaid : Prop := nodePartsUptoRow.holds Try.pinned (OpenSpec.upto nodePartsSpec)

/-- 'dormouselaw48.PindexDoes', WHERE WHAT IT READS IS OF BULK AT MOST 1048576: true; the input reads as it did. -/
def pindexDoesUptoRow : OpenClaim := { program := "ytoeppofkmcdknaa", sum := "9740b0f5861e1004491527c082e7bb057ba323b11596850a23cfcb2aa330b0e9", func := "dormouse/dormouselaw48.PindexDoes", spec := "pindexDoes", unfollowed := true, recurses := true, apart := false, narrowed := true }
def PindexDoesUptoSaid : Prop := pindexDoesUptoRow.holds Try.pinned (OpenSpec.upto pindexDoesSpec)

/-- 'dormouselaw48.PindexTexts', WHERE WHAT IT READS IS OF BULK AT MOST 1048576: true; the input reads as it did. -/
def pindexTextsUptoRow : OpenClaim := { program := "ytoeppofkmcdknaa", sum := "9740b0f5861e1004491527c082e7bb057ba323b11596850a23cfcb2aa330b0e9", func := "dormouse/dormouselaw48.PindexTexts", spec := "pindexTexts", unfollowed := true, recurses := true, apart := false, narrowed := true }
def PindexTextsUptoSaid : Prop := pindexTextsUptoRow.holds Try.pinned (OpenSpec.upto pindexTextsSpec)

/-- 'dormouselaw48.PindexLoads', WHERE WHAT IT READS IS OF BULK AT MOST 1048576: true; the input reads as it did. -/
def pindexLoadsUptoRow : OpenClaim := { program := "ytoeppofkmcdknaa", sum := "9740b0f5861e1004491527c082e7bb057ba323b11596850a23cfcb2aa330b0e9", func := "dormouse/dormouselaw48.PindexLoads", spec := "pindexLoads", unfollowed := true, recurses := true, apart := false, narrowed := true }
def PindexLoadsUptoSaid : Prop := pindexLoadsUptoRow.holds Try.pinned (OpenSpec.upto pindexLoadsSpec)

/-- 'dormouselaw07.RefsKinds', WHERE WHAT IT READS IS OF BULK AT MOST 1048576: true; the input reads as it did. -/
def refsKindsUptoRow : OpenClaim := { program := "ytoeppofkmcdknaa", sum := "9740b0f5861e1004491527c082e7bb057ba323b11596850a23cfcb2aa330b0e9", func := "dormouse/dormouselaw07.RefsKinds", spec := "refsKinds", unfollowed := true, recurses := true, apart := false, narrowed := true }
def RefsKindsUptoSaid : Prop := refsKindsUptoRow.holds Try.pinned (OpenSpec.upto refsKindsSpec)

/-- 'dormouselaw07.RefsClash', WHERE WHAT IT READS IS OF BULK AT MOST 1048576: true; the input reads as it did. -/
def refsClashUptoRow : OpenClaim := { program := "ytoeppofkmcdknaa", sum := "9740b0f5861e1004491527c082e7bb057ba323b11596850a23cfcb2aa330b0e9", func := "dormouse/dormouselaw07.RefsClash", spec := "refsClash", unfollowed := true, recurses := true, apart := false, narrowed := true }
def RefsClashUptoSaid : Prop := refsClashUptoRow.holds Try.pinned (OpenSpec.upto refsClashSpec)

/-- 'dormouselaw07.RefsOf', WHERE WHAT IT READS IS OF BULK AT MOST 1048576: true; the input reads as it did. -/
def refsOfUptoRow : OpenClaim := { program := "ytoeppofkmcdknaa", sum := "9740b0f5861e1004491527c082e7bb057ba323b11596850a23cfcb2aa330b0e9", func := "dormouse/dormouselaw07.RefsOf", spec := "refsOf", unfollowed := true, recurses := true, apart := false, narrowed := true }
def RefsOfUptoSaid : Prop := refsOfUptoRow.holds Try.pinned (OpenSpec.upto refsOfSpec)

end Rows
end Go.Proofs.Ytoeppofkmcdknaa
