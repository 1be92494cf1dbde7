/- The arguments of the laws of layer 07, opened; the laws' functions return true. -/
import Derived.Test.YtoeppofkmcdknaaAKK
import Derived.Test.YtoeppofkmcdknaaAPLaw07
namespace Go.Proofs.Ytoeppofkmcdknaa.K
open Go Go.RowKit
set_option linter.unusedVariables false
theorem op_RefsKinds0 {l : List D} (h : HasC .str l) : ∃ x : (List UInt8), x.length ≤ maxLen ∧ l = [.val (sV (x))] := hs_str h
theorem op_RefsKinds1 {l : List D} (h : HasC .str l) : ∃ x : (List UInt8), x.length ≤ maxLen ∧ l = [.val (sV (x))] := hs_str h
theorem RefsKinds_fun (r : (List UInt8)) (t : (List UInt8))  : Fun Try.prog 12 [.val (sV (r)), .val (sV (t))] (.val (.bool true)) := sim_law07_RefsKinds r t true (RefsKinds_true r t)
end Go.Proofs.Ytoeppofkmcdknaa.K
