/- The arguments of NodedbTexts, opened; the law's function returns true. -/
import Derived.Test.YthpgedneniekmaaAKK
import Derived.Test.YthpgedneniekmaaAPNdb
namespace Go.Proofs.Ythpgedneniekmaa.K
open Go Go.RowKit
set_option linter.unusedVariables false
theorem hs_Act {l : List D} (h : HasC (.st [(.int .i64), (.int .i64), .str]) l) : ∃ x : Act, l = cAct x := by
  unfold HasC HasL at h
  obtain ⟨a0, b0, rfl, h0, g0⟩ := h
  unfold HasL at g0
  obtain ⟨a1, b1, rfl, h1, g1⟩ := g0
  unfold HasL at g1
  obtain ⟨a2, b2, rfl, h2, g2⟩ := g1
  unfold HasL at g2
  subst g2
  obtain ⟨f0, rfl⟩ := hs_int h0
  obtain ⟨f1, rfl⟩ := hs_int h1
  obtain ⟨f2, _, rfl⟩ := hs_str h2
  exact ⟨⟨f0, f1, f2⟩, by simp [cAct]⟩
theorem op_NodedbTexts0 {l : List D} (h : HasC (.slice (.st [(.int .i64), (.int .i64), .str])) l) : ∃ x : (List Act), x.length ≤ maxLen ∧ l = [.slice ((x).map eAct)] := (fun h => hs_slA (c := cAct) (f := eAct) rfl eAct_eq (fun l h => hs_Act h) h) h
theorem op_NodedbTexts1 {l : List D} (h : HasC .str l) : ∃ x : (List UInt8), x.length ≤ maxLen ∧ l = [.val (sV (x))] := hs_str h
theorem NodedbTexts_fun (l : (List Act)) (s : (List UInt8)) : Fun Try.prog 3 [.slice ((l).map eAct), .val (sV (s))] (.val (.bool true)) := sim_law49_NodedbTexts l s true (NodedbTexts_true l s)
end Go.Proofs.Ythpgedneniekmaa.K
