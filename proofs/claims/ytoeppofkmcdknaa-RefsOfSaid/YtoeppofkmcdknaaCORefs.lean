/- The arguments of the laws of layer 07, opened; the laws' functions return true. -/
import Derived.Test.YtoeppofkmcdknaaCKK
import Derived.Test.YtoeppofkmcdknaaCPLaw07
namespace Go.Proofs.Ytoeppofkmcdknaa.K
open Go Go.RowKit
set_option linter.unusedVariables false
theorem op_RefsOf0 {l : List D} (h : HasC .str l) : ∃ x : (List UInt8), x.length ≤ maxLen ∧ l = [.val (sV (x))] := hs_str h
theorem op_RefsOf1 {l : List D} (h : HasC .str l) : ∃ x : (List UInt8), x.length ≤ maxLen ∧ l = [.val (sV (x))] := hs_str h
theorem op_RefsOf2 {l : List D} (h : HasC (.slice .str) l) : ∃ x : (List (List UInt8)), x.length ≤ maxLen ∧ l = [.slice ((x).map eS)] := (fun h => hs_slO (f := eS) rfl (fun c h => hs_strO h) h) h
theorem RefsOf_fun (a : (List UInt8)) (t : (List UInt8)) (l : (List (List UInt8)))  : Fun Try.prog 14 [.val (sV (a)), .val (sV (t)), .slice ((l).map eS)] (.val (.bool true)) := sim_law07_RefsOf a t l true (RefsOf_true a t l)
end Go.Proofs.Ytoeppofkmcdknaa.K
