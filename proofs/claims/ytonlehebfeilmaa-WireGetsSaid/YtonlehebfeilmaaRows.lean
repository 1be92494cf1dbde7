/-
  NARROWER THAN 'FOR EVERY INPUT', by the rows' own cells (each row's printed sentence says how): RlpHeads: loops.
  DERIVED. THE GIVEN ROWS OF THIS SEAT. 12 by the template 'for every input the law returns true; each argument reads behind the call as it read before'; 0 by the template 'total and deterministic' (their statements: YtonlehebfeilmaaTotals.lean).
  GIVEN WITH THE SEED: the statements are not yours to turn. If you find one false, say at which input.
  Laid BY PROGRAM, IN A SANDBOX (cutbox-rows.mjs): the forced cells as the released guide's own fill.sh prints them over the translation 99fef4b80cd0488d… (all of the seat's roots in one cut). By AI agents, Wed Nov 11 2026. No macro, syntax, notation, axiom, sorry.
-/
import Derived.Test.YtonlehebfeilmaaChecked
import GoSem.Claim
import GoSem.ClaimJoined
import GoSem.ClaimMapViews
import Derived.JoinedTies
import Derived.KernelRfl
namespace Go.Proofs.Ytonlehebfeilmaa
/- THE CELL 'sum', in the pinned program and in every row, IS THE sha256 OF THE DUMP (.gsa) THAT YtonlehebfeilmaaProg.lean LOADS. Nothing in Lean hashes anything: it is a label: what it is worth is what the hold of that sum in a sandbox is worth. -/
noncomputable def Try.pinned : Pinned := { name := "ytonlehebfeilmaa", sum := "99fef4b80cd0488d1211db56b613679cc85584afefea2fd11bec2995be643539", checked := Try.checked }
namespace Rows
def none {H : Type} : Left H := { results := [], args := [] }

/-- 'dormouselaw20.SizeTells': WHATEVER THE INPUT: true; the input reads as it did. -/
def sizeTellsSpec : ChangeSpec := { name := "sizeTells", fn := fun _ => fun
  | [d1, d2, d3] => { results := [.lit (.bool true)], args := [d1, d2, d3] }
  | _ => none }
def sizeTellsRow : OpenClaim := { program := "ytonlehebfeilmaa", sum := "99fef4b80cd0488d1211db56b613679cc85584afefea2fd11bec2995be643539", func := "dormouse/dormouselaw20.SizeTells", spec := "sizeTells", unfollowed := true, recurses := true, apart := false }
def SizeTellsSaid : Prop := sizeTellsRow.holds Try.pinned (OpenSpec.ofChange sizeTellsSpec)

/-- ITS FALSE NEIGHBOUR: 'it returns false'. Refute it at one input. -/
def sizeTellsWrong : ChangeSpec := { name := "sizeTells", fn := fun _ => fun
  | [d1, d2, d3] => { results := [.lit (.bool false)], args := [d1, d2, d3] }
  | _ => none }
def SizeTellsWrongFalsely : Prop := sizeTellsRow.holds Try.pinned (OpenSpec.ofChange sizeTellsWrong)

/-- 'dormouselaw20.SizeTrees': WHATEVER THE INPUT: true; the input reads as it did. -/
def sizeTreesSpec : ChangeSpec := { name := "sizeTrees", fn := fun _ => fun
  | [d1, d2] => { results := [.lit (.bool true)], args := [d1, d2] }
  | _ => none }
def sizeTreesRow : OpenClaim := { program := "ytonlehebfeilmaa", sum := "99fef4b80cd0488d1211db56b613679cc85584afefea2fd11bec2995be643539", func := "dormouse/dormouselaw20.SizeTrees", spec := "sizeTrees", unfollowed := true, recurses := true, apart := false }
def SizeTreesSaid : Prop := sizeTreesRow.holds Try.pinned (OpenSpec.ofChange sizeTreesSpec)

/-- ITS FALSE NEIGHBOUR: 'it returns false'. Refute it at one input. -/
def sizeTreesWrong : ChangeSpec := { name := "sizeTrees", fn := fun _ => fun
  | [d1, d2] => { results := [.lit (.bool false)], args := [d1, d2] }
  | _ => none }
def SizeTreesWrongFalsely : Prop := sizeTreesRow.holds Try.pinned (OpenSpec.ofChange sizeTreesWrong)

/-- 'dormouselaw02.NibPacks': WHATEVER THE INPUT: true; the input reads as it did. -/
def nibPacksSpec : ChangeSpec := { name := "nibPacks", fn := fun _ => fun
  | [d1, d2] => { results := [.lit (.bool true)], args := [d1, d2] }
  | _ => none }
def nibPacksRow : OpenClaim := { program := "ytonlehebfeilmaa", sum := "99fef4b80cd0488d1211db56b613679cc85584afefea2fd11bec2995be643539", func := "dormouse/dormouselaw02.NibPacks", spec := "nibPacks", unfollowed := true, recurses := true, apart := false }
def NibPacksSaid : Prop := nibPacksRow.holds Try.pinned (OpenSpec.ofChange nibPacksSpec)

/-- ITS FALSE NEIGHBOUR: 'it returns false'. Refute it at one input. -/
def nibPacksWrong : ChangeSpec := { name := "nibPacks", fn := fun _ => fun
  | [d1, d2] => { results := [.lit (.bool false)], args := [d1, d2] }
  | _ => none }
def NibPacksWrongFalsely : Prop := nibPacksRow.holds Try.pinned (OpenSpec.ofChange nibPacksWrong)

/-- 'dormouselaw02.NibUnpacks': WHATEVER THE INPUT: true; the input reads as it did. -/
def nibUnpacksSpec : ChangeSpec := { name := "nibUnpacks", fn := fun _ => fun
  | [d] => { results := [.lit (.bool true)], args := [d] }
  | _ => none }
def nibUnpacksRow : OpenClaim := { program := "ytonlehebfeilmaa", sum := "99fef4b80cd0488d1211db56b613679cc85584afefea2fd11bec2995be643539", func := "dormouse/dormouselaw02.NibUnpacks", spec := "nibUnpacks", unfollowed := true, recurses := true, apart := false }
def NibUnpacksSaid : Prop := nibUnpacksRow.holds Try.pinned (OpenSpec.ofChange nibUnpacksSpec)

/-- ITS FALSE NEIGHBOUR: 'it returns false'. Refute it at one input. -/
def nibUnpacksWrong : ChangeSpec := { name := "nibUnpacks", fn := fun _ => fun
  | [d] => { results := [.lit (.bool false)], args := [d] }
  | _ => none }
def NibUnpacksWrongFalsely : Prop := nibUnpacksRow.holds Try.pinned (OpenSpec.ofChange nibUnpacksWrong)

/-- 'dormouselaw02.NibKeys': WHATEVER THE INPUT: true; the input reads as it did. -/
def nibKeysSpec : ChangeSpec := { name := "nibKeys", fn := fun _ => fun
  | [d1, d2] => { results := [.lit (.bool true)], args := [d1, d2] }
  | _ => none }
def nibKeysRow : OpenClaim := { program := "ytonlehebfeilmaa", sum := "99fef4b80cd0488d1211db56b613679cc85584afefea2fd11bec2995be643539", func := "dormouse/dormouselaw02.NibKeys", spec := "nibKeys", unfollowed := true, recurses := true, apart := false }
def NibKeysSaid : Prop := nibKeysRow.holds Try.pinned (OpenSpec.ofChange nibKeysSpec)

/-- ITS FALSE NEIGHBOUR: 'it returns false'. Refute it at one input. -/
def nibKeysWrong : ChangeSpec := { name := "nibKeys", fn := fun _ => fun
  | [d1, d2] => { results := [.lit (.bool false)], args := [d1, d2] }
  | _ => none }
def NibKeysWrongFalsely : Prop := nibKeysRow.holds Try.pinned (OpenSpec.ofChange nibKeysWrong)

/-- 'dormouselaw02.NibPaths': WHATEVER THE INPUT: true; the input reads as it did. -/
def nibPathsSpec : ChangeSpec := { name := "nibPaths", fn := fun _ => fun
  | [d1, d2] => { results := [.lit (.bool true)], args := [d1, d2] }
  | _ => none }
def nibPathsRow : OpenClaim := { program := "ytonlehebfeilmaa", sum := "99fef4b80cd0488d1211db56b613679cc85584afefea2fd11bec2995be643539", func := "dormouse/dormouselaw02.NibPaths", spec := "nibPaths", unfollowed := true, recurses := true, apart := false }
def NibPathsSaid : Prop := nibPathsRow.holds Try.pinned (OpenSpec.ofChange nibPathsSpec)

/-- ITS FALSE NEIGHBOUR: 'it returns false'. Refute it at one input. -/
def nibPathsWrong : ChangeSpec := { name := "nibPaths", fn := fun _ => fun
  | [d1, d2] => { results := [.lit (.bool false)], args := [d1, d2] }
  | _ => none }
def NibPathsWrongFalsely : Prop := nibPathsRow.holds Try.pinned (OpenSpec.ofChange nibPathsWrong)

/-- 'dormouselaw31.FrozenDigests': WHATEVER THE INPUT: true; the input reads as it did. -/
def frozenDigestsSpec : ChangeSpec := { name := "frozenDigests", fn := fun _ => fun
  | [d1, d2] => { results := [.lit (.bool true)], args := [d1, d2] }
  | _ => none }
def frozenDigestsRow : OpenClaim := { program := "ytonlehebfeilmaa", sum := "99fef4b80cd0488d1211db56b613679cc85584afefea2fd11bec2995be643539", func := "dormouse/dormouselaw31.FrozenDigests", spec := "frozenDigests", unfollowed := true, recurses := true, apart := false }
def FrozenDigestsSaid : Prop := frozenDigestsRow.holds Try.pinned (OpenSpec.ofChange frozenDigestsSpec)

/-- ITS FALSE NEIGHBOUR: 'it returns false'. Refute it at one input. -/
def frozenDigestsWrong : ChangeSpec := { name := "frozenDigests", fn := fun _ => fun
  | [d1, d2] => { results := [.lit (.bool false)], args := [d1, d2] }
  | _ => none }
def FrozenDigestsWrongFalsely : Prop := frozenDigestsRow.holds Try.pinned (OpenSpec.ofChange frozenDigestsWrong)

/-- 'dormouselaw31.FrozenLooks': WHATEVER THE INPUT: true; the input reads as it did. -/
def frozenLooksSpec : ChangeSpec := { name := "frozenLooks", fn := fun _ => fun
  | [d1, d2, d3] => { results := [.lit (.bool true)], args := [d1, d2, d3] }
  | _ => none }
def frozenLooksRow : OpenClaim := { program := "ytonlehebfeilmaa", sum := "99fef4b80cd0488d1211db56b613679cc85584afefea2fd11bec2995be643539", func := "dormouse/dormouselaw31.FrozenLooks", spec := "frozenLooks", unfollowed := true, recurses := true, apart := false }
def FrozenLooksSaid : Prop := frozenLooksRow.holds Try.pinned (OpenSpec.ofChange frozenLooksSpec)

/-- ITS FALSE NEIGHBOUR: 'it returns false'. Refute it at one input. -/
def frozenLooksWrong : ChangeSpec := { name := "frozenLooks", fn := fun _ => fun
  | [d1, d2, d3] => { results := [.lit (.bool false)], args := [d1, d2, d3] }
  | _ => none }
def FrozenLooksWrongFalsely : Prop := frozenLooksRow.holds Try.pinned (OpenSpec.ofChange frozenLooksWrong)

/-- 'dormouselaw05.RlpHeads': WHATEVER THE INPUT: true; the input reads as it did. -/
def rlpHeadsSpec : ChangeSpec := { name := "rlpHeads", fn := fun _ => fun
  | [d] => { results := [.lit (.bool true)], args := [d] }
  | _ => none }
def rlpHeadsRow : OpenClaim := { program := "ytonlehebfeilmaa", sum := "99fef4b80cd0488d1211db56b613679cc85584afefea2fd11bec2995be643539", func := "dormouse/dormouselaw05.RlpHeads", spec := "rlpHeads", unfollowed := true, recurses := true, loops := true, apart := false }
def RlpHeadsSaid : Prop := rlpHeadsRow.holds Try.pinned (OpenSpec.ofChange rlpHeadsSpec)

/-- ITS FALSE NEIGHBOUR: 'it returns false'. Refute it at one input. -/
def rlpHeadsWrong : ChangeSpec := { name := "rlpHeads", fn := fun _ => fun
  | [d] => { results := [.lit (.bool false)], args := [d] }
  | _ => none }
def RlpHeadsWrongFalsely : Prop := rlpHeadsRow.holds Try.pinned (OpenSpec.ofChange rlpHeadsWrong)

/-- 'dormouselaw15.WirePuts': WHATEVER THE INPUT: true; the input reads as it did. -/
def wirePutsSpec : ChangeSpec := { name := "wirePuts", fn := fun _ => fun
  | [d1, d2] => { results := [.lit (.bool true)], args := [d1, d2] }
  | _ => none }
def wirePutsRow : OpenClaim := { program := "ytonlehebfeilmaa", sum := "99fef4b80cd0488d1211db56b613679cc85584afefea2fd11bec2995be643539", func := "dormouse/dormouselaw15.WirePuts", spec := "wirePuts", unfollowed := true, recurses := true, apart := false }
def WirePutsSaid : Prop := wirePutsRow.holds Try.pinned (OpenSpec.ofChange wirePutsSpec)

/-- ITS FALSE NEIGHBOUR: 'it returns false'. Refute it at one input. -/
def wirePutsWrong : ChangeSpec := { name := "wirePuts", fn := fun _ => fun
  | [d1, d2] => { results := [.lit (.bool false)], args := [d1, d2] }
  | _ => none }
def WirePutsWrongFalsely : Prop := wirePutsRow.holds Try.pinned (OpenSpec.ofChange wirePutsWrong)

/-- 'dormouselaw15.WireGets': WHATEVER THE INPUT: true; the input reads as it did. -/
def wireGetsSpec : ChangeSpec := { name := "wireGets", fn := fun _ => fun
  | [d] => { results := [.lit (.bool true)], args := [d] }
  | _ => none }
def wireGetsRow : OpenClaim := { program := "ytonlehebfeilmaa", sum := "99fef4b80cd0488d1211db56b613679cc85584afefea2fd11bec2995be643539", func := "dormouse/dormouselaw15.WireGets", spec := "wireGets", unfollowed := true, recurses := true, apart := false }
def WireGetsSaid : Prop := wireGetsRow.holds Try.pinned (OpenSpec.ofChange wireGetsSpec)

/-- ITS FALSE NEIGHBOUR: 'it returns false'. Refute it at one input. -/
def wireGetsWrong : ChangeSpec := { name := "wireGets", fn := fun _ => fun
  | [d] => { results := [.lit (.bool false)], args := [d] }
  | _ => none }
def WireGetsWrongFalsely : Prop := wireGetsRow.holds Try.pinned (OpenSpec.ofChange wireGetsWrong)

/-- 'dormouselaw15.WireTurned': WHATEVER THE INPUT: true; the input reads as it did. -/
def wireTurnedSpec : ChangeSpec := { name := "wireTurned", fn := fun _ => fun
  | [d1, d2, d3] => { results := [.lit (.bool true)], args := [d1, d2, d3] }
  | _ => none }
def wireTurnedRow : OpenClaim := { program := "ytonlehebfeilmaa", sum := "99fef4b80cd0488d1211db56b613679cc85584afefea2fd11bec2995be643539", func := "dormouse/dormouselaw15.WireTurned", spec := "wireTurned", unfollowed := true, recurses := true, apart := false }
def WireTurnedSaid : Prop := wireTurnedRow.holds Try.pinned (OpenSpec.ofChange wireTurnedSpec)

/-- ITS FALSE NEIGHBOUR: 'it returns false'. Refute it at one input. -/
def wireTurnedWrong : ChangeSpec := { name := "wireTurned", fn := fun _ => fun
  | [d1, d2, d3] => { results := [.lit (.bool false)], args := [d1, d2, d3] }
  | _ => none }
def WireTurnedWrongFalsely : Prop := wireTurnedRow.holds Try.pinned (OpenSpec.ofChange wireTurnedWrong)

/- THE SECOND FORM. 'bulk': how many values and letters a reading holds, each counted each time it is reached (what is shared counts as often as it is met; a slice's spare places count too). A statement '..UptoSaid' is the law's where the arguments, and the package variables that the reading takes, are together of bulk at most 1048576: NARROWER than '..Said'. Prove '..Said' where nothing that the law and all that it calls make is longer than what came in: it says more and counts as full. Else prove '..UptoSaid'. A law counts once. -/
mutual
def uptoBulk {H : Type} : DataW H → Nat
  | .lit (.string bytes) => bytes.length + 1
  | .lit _ => 1
  | .nil => 1
  | .ptr d => uptoBulk d + 1
  | .slice elems spare => uptoBulkAll elems + uptoBulkAll spare + 1
  | .agg parts => uptoBulkAll parts + 1
  | .iface _ d => uptoBulk d + 1
  | .map entries => uptoBulkEntries entries + 1
  | .held _ => 1
def uptoBulkAll {H : Type} : List (DataW H) → Nat
  | [] => 0
  | d :: r => uptoBulk d + uptoBulkAll r
def uptoBulkEntries {H : Type} : List (Lit × DataW H) → Nat
  | [] => 0
  | x :: r => uptoBulkEntry x + uptoBulkEntries r
def uptoBulkEntry {H : Type} : Lit × DataW H → Nat
  | (.string bytes, d) => bytes.length + uptoBulk d + 1
  | (_, d) => uptoBulk d + 1
 end
def uptoSmall : (H : Type) → List (DataW H) → Bool := fun _ ds => decide (uptoBulkAll ds ≤ 1048576)
def OpenSpec.upto (s : _root_.Go.ChangeSpec) : _root_.Go.OpenSpec := { _root_.Go.OpenSpec.ofChange s with cond := some uptoSmall }

/-- 'dormouselaw20.SizeTells', WHERE WHAT IT READS IS OF BULK AT MOST 1048576: true; the input reads as it did. -/
def sizeTellsUptoRow : OpenClaim := { program := "ytonlehebfeilmaa", sum := "99fef4b80cd0488d1211db56b613679cc85584afefea2fd11bec2995be643539", func := "dormouse/dormouselaw20.SizeTells", spec := "sizeTells", unfollowed := true, recurses := true, apart := false, narrowed := true }
def SizeTellsUptoSaid : Prop := sizeTellsUptoRow.holds Try.pinned (OpenSpec.upto sizeTellsSpec)

/-- 'dormouselaw20.SizeTrees', WHERE WHAT IT READS IS OF BULK AT MOST 1048576: true; the input reads as it did. -/
def sizeTreesUptoRow : OpenClaim := { program := "ytonlehebfeilmaa", sum := "99fef4b80cd0488d1211db56b613679cc85584afefea2fd11bec2995be643539", func := "dormouse/dormouselaw20.SizeTrees", spec := "sizeTrees", unfollowed := true, recurses := true, apart := false, narrowed := true }
def SizeTreesUptoSaid : Prop := sizeTreesUptoRow.holds Try.pinned (OpenSpec.upto sizeTreesSpec)

/-- 'dormouselaw02.NibPacks', WHERE WHAT IT READS IS OF BULK AT MOST 1048576: true; the input reads as it did. -/
def nibPacksUptoRow : OpenClaim := { program := "ytonlehebfeilmaa", sum := "99fef4b80cd0488d1211db56b613679cc85584afefea2fd11bec2995be643539", func := "dormouse/dormouselaw02.NibPacks", spec := "nibPacks", unfollowed := true, recurses := true, apart := false, narrowed := true }
def NibPacksUptoSaid : Prop := nibPacksUptoRow.holds Try.pinned (OpenSpec.upto nibPacksSpec)

/-- 'dormouselaw02.NibUnpacks', WHERE WHAT IT READS IS OF BULK AT MOST 1048576: true; the input reads as it did. -/
def nibUnpacksUptoRow : OpenClaim := { program := "ytonlehebfeilmaa", sum := "99fef4b80cd0488d1211db56b613679cc85584afefea2fd11bec2995be643539", func := "dormouse/dormouselaw02.NibUnpacks", spec := "nibUnpacks", unfollowed := true, recurses := true, apart := false, narrowed := true }
def NibUnpacksUptoSaid : Prop := nibUnpacksUptoRow.holds Try.pinned (OpenSpec.upto nibUnpacksSpec)

/-- 'dormouselaw02.NibKeys', WHERE WHAT IT READS IS OF BULK AT MOST 1048576: true; the input reads as it did. -/
def nibKeysUptoRow : OpenClaim := { program := "ytonlehebfeilmaa", sum := "99fef4b80cd0488d1211db56b613679cc85584afefea2fd11bec2995be643539", func := "dormouse/dormouselaw02.NibKeys", spec := "nibKeys", unfollowed := true, recurses := true, apart := false, narrowed := true }
def NibKeysUptoSaid : Prop := nibKeysUptoRow.holds Try.pinned (OpenSpec.upto nibKeysSpec)

/-- 'dormouselaw02.NibPaths', WHERE WHAT IT READS IS OF BULK AT MOST 1048576: true; the input reads as it did. -/
def nibPathsUptoRow : OpenClaim := { program := "ytonlehebfeilmaa", sum := "99fef4b80cd0488d1211db56b613679cc85584afefea2fd11bec2995be643539", func := "dormouse/dormouselaw02.NibPaths", spec := "nibPaths", unfollowed := true, recurses := true, apart := false, narrowed := true }
def NibPathsUptoSaid : Prop := nibPathsUptoRow.holds Try.pinned (OpenSpec.upto nibPathsSpec)

/-- 'dormouselaw31.FrozenDigests', WHERE WHAT IT READS IS OF BULK AT MOST 1048576: true; the input reads as it did. -/
def frozenDigestsUptoRow : OpenClaim := { program := "ytonlehebfeilmaa", sum := "99fef4b80cd0488d1211db56b613679cc85584afefea2fd11bec2995be643539", func := "dormouse/dormouselaw31.FrozenDigests", spec := "frozenDigests", unfollowed := true, recurses := true, apart := false, narrowed := true }
def FrozenDigestsUptoSaid : Prop := frozenDigestsUptoRow.holds Try.pinned (OpenSpec.upto frozenDigestsSpec)

/-- 'dormouselaw31.FrozenLooks', WHERE WHAT IT READS IS OF BULK AT MOST 1048576: true; the input reads as it did. -/
def frozenLooksUptoRow : OpenClaim := { program := "ytonlehebfeilmaa", sum := "99fef4b80cd0488d1211db56b613679cc85584afefea2fd11bec2995be643539", func := "dormouse/dormouselaw31.FrozenLooks", spec := "frozenLooks", unfollowed := true, recurses := true, apart := false, narrowed := true }
def FrozenLooksUptoSaid : Prop := frozenLooksUptoRow.holds Try.pinned (OpenSpec.upto frozenLooksSpec)

/-- 'dormouselaw05.RlpHeads', WHERE WHAT IT READS IS OF BULK AT MOST 1048576: true; the input reads as it did. -/
def rlpHeadsUptoRow : OpenClaim := { program := "ytonlehebfeilmaa", sum := "99fef4b80cd0488d1211db56b613679cc85584afefea2fd11bec2995be643539", func := "dormouse/dormouselaw05.RlpHeads", spec := "rlpHeads", unfollowed := true, recurses := true, loops := true, apart := false, narrowed := true }
def RlpHeadsUptoSaid : Prop := rlpHeadsUptoRow.holds Try.pinned (OpenSpec.upto rlpHeadsSpec)

/-- 'dormouselaw15.WirePuts', WHERE WHAT IT READS IS OF BULK AT MOST 1048576: true; the input reads as it did. -/
def wirePutsUptoRow : OpenClaim := { program := "ytonlehebfeilmaa", sum := "99fef4b80cd0488d1211db56b613679cc85584afefea2fd11bec2995be643539", func := "dormouse/dormouselaw15.WirePuts", spec := "wirePuts", unfollowed := true, recurses := true, apart := false, narrowed := true }
def WirePutsUptoSaid : Prop := wirePutsUptoRow.holds Try.pinned (OpenSpec.upto wirePutsSpec)

/-- 'dormouselaw15.WireGets', WHERE WHAT IT READS IS OF BULK AT MOST 1048576: true; the input reads as it did. -/
def wireGetsUptoRow : OpenClaim := { program := "ytonlehebfeilmaa", sum := "99fef4b80cd0488d1211db56b613679cc85584afefea2fd11bec2995be643539", func := "dormouse/dormouselaw15.WireGets", spec := "wireGets", unfollowed := true, recurses := true, apart := false, narrowed := true }
def WireGetsUptoSaid : Prop := wireGetsUptoRow.holds Try.pinned (OpenSpec.upto wireGetsSpec)

/-- 'dormouselaw15.WireTurned', WHERE WHAT IT READS IS OF BULK AT MOST 1048576: true; the input reads as it did. -/
def wireTurnedUptoRow : OpenClaim := { program := "ytonlehebfeilmaa", sum := "99fef4b80cd0488d1211db56b613679cc85584afefea2fd11bec2995be643539", func := "dormouse/dormouselaw15.WireTurned", spec := "wireTurned", unfollowed := true, recurses := true, apart := false, narrowed := true }
def WireTurnedUptoSaid : Prop := wireTurnedUptoRow.holds Try.pinned (OpenSpec.upto wireTurnedSpec)

end Rows
end Go.Proofs.Ytonlehebfeilmaa
