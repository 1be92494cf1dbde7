/- The arguments of SizeTrees, opened; the law's function returns true. -/
import Derived.Test.YtfnlcnnoedmfiaaAKK
import Derived.Test.YtfnlcnnoedmfiaaAPT20
namespace Go.Proofs.Ytfnlcnnoedmfiaa.K
open Go Go.RowKit
set_option linter.unusedVariables false
theorem hs_Pair {l : List D} (h : HasC (.st [(.arr 32 (.int .u8)), .str]) l) : ∃ x : Pair, l = cPair x := by
  unfold HasC HasL at h
  obtain ⟨a0, b0, rfl, h0, g0⟩ := h
  unfold HasL at g0
  obtain ⟨a1, b1, rfl, h1, g1⟩ := g0
  unfold HasL at g1
  subst g1
  obtain ⟨f0, rfl⟩ := (fun h => hs_arr (fun c h => has_u8 h) h) h0
  obtain ⟨f1, _, rfl⟩ := hs_str h1
  exact ⟨⟨f0, f1⟩, by simp [cPair]⟩
theorem op_SizeTrees0 {l : List D} (h : HasC (.slice (.st [(.arr 32 (.int .u8)), .str])) l) : ∃ x : (List Pair), x.length ≤ maxLen ∧ l = [.slice ((x).map ePair)] := (fun h => hs_slA (c := cPair) (f := ePair) rfl ePair_eq (fun l h => hs_Pair h) h) h
theorem op_SizeTrees1 {l : List D} (h : HasC (.arr 32 (.int .u8)) l) : ∃ x : (Arr 32 UInt8), l = x.1.map byteD := (fun h => hs_arr (fun c h => has_u8 h) h) h
theorem SizeTrees_fun (l : (List Pair)) (k : (Arr 32 UInt8)) : Fun Try.prog 3 [.slice ((l).map ePair), .agg ((k).1.map byteD)] (.val (.bool true)) := sim_law20_SizeTrees l k true (SizeTrees_true l k)
end Go.Proofs.Ytfnlcnnoedmfiaa.K
