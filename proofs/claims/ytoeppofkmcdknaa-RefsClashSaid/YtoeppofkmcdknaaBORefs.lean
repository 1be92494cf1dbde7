/- The arguments of the laws of layer 07, opened; the laws' functions return true. -/
import Derived.Test.YtoeppofkmcdknaaBKK
import Derived.Test.YtoeppofkmcdknaaBPLaw07
namespace Go.Proofs.Ytoeppofkmcdknaa.K
open Go Go.RowKit
set_option linter.unusedVariables false
theorem op_RefsClash0 {l : List D} (h : HasC (.slice .str) l) : ∃ x : (List (List UInt8)), x.length ≤ maxLen ∧ l = [.slice ((x).map eS)] := (fun h => hs_slO (f := eS) rfl (fun c h => hs_strO h) h) h
theorem RefsClash_fun (l : (List (List UInt8)))  : Fun Try.prog 13 [.slice ((l).map eS)] (.val (.bool true)) := sim_law07_RefsClash l true (RefsClash_true l)
end Go.Proofs.Ytoeppofkmcdknaa.K
