/- The arguments of PindexLoads, opened; the law's function returns true. -/
import Derived.Test.YtoeppofkmcdknaaDKK
import Derived.Test.YtoeppofkmcdknaaDPPin6
namespace Go.Proofs.Ytoeppofkmcdknaa.K
open Go Go.RowKit
set_option linter.unusedVariables false
theorem op_PindexLoads0 {l : List D} (h : HasC .str l) : ∃ x : (List UInt8), x.length ≤ maxLen ∧ l = [.val (sV (x))] := hs_str h
theorem PindexLoads_fun (t : (List UInt8)) : Fun Try.prog 11 [.val (sV (t))] (.val (.bool true)) := sim_law48_PindexLoads t true (PindexLoads_true t)
end Go.Proofs.Ytoeppofkmcdknaa.K
