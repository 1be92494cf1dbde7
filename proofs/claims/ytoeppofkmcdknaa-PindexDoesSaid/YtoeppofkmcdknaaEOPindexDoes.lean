/- The arguments of PindexDoes, opened; the law's function returns true. -/
import Derived.Test.YtoeppofkmcdknaaEKK
import Derived.Test.YtoeppofkmcdknaaEPPin7
namespace Go.Proofs.Ytoeppofkmcdknaa.K
open Go Go.RowKit
set_option linter.unusedVariables false
theorem hs_Row {l : List D} (h : HasC (.st [(.arr 32 (.int .u8)), (.int .i64), .str]) l) : ∃ x : Row, l = cRow x := by
  unfold HasC HasL at h
  obtain ⟨a0, b0, rfl, h0, g0⟩ := h
  unfold HasL at g0
  obtain ⟨a1, b1, rfl, h1, g1⟩ := g0
  unfold HasL at g1
  obtain ⟨a2, b2, rfl, h2, g2⟩ := g1
  unfold HasL at g2
  subst g2
  obtain ⟨f0, rfl⟩ := (fun h => hs_arr (fun c h => has_u8 h) h) h0
  obtain ⟨f1, rfl⟩ := hs_int h1
  obtain ⟨f2, _, rfl⟩ := hs_str h2
  exact ⟨⟨f0, f1, f2⟩, by simp [cRow]⟩
theorem hs_Act {l : List D} (h : HasC (.st [(.int .i64), (.st [(.arr 32 (.int .u8)), (.int .i64), .str])]) l) : ∃ x : Act, l = cAct x := by
  unfold HasC HasL at h
  obtain ⟨a0, b0, rfl, h0, g0⟩ := h
  unfold HasL at g0
  obtain ⟨a1, b1, rfl, h1, g1⟩ := g0
  unfold HasL at g1
  subst g1
  obtain ⟨f0, rfl⟩ := hs_int h0
  obtain ⟨f1, rfl⟩ := hs_Row h1
  exact ⟨⟨f0, f1⟩, by simp [cAct]⟩
theorem op_PindexDoes0 {l : List D} (h : HasC (.slice (.st [(.int .i64), (.st [(.arr 32 (.int .u8)), (.int .i64), .str])])) l) : ∃ x : (List Act), x.length ≤ maxLen ∧ l = [.slice ((x).map eAct)] := (fun h => hs_slA (c := cAct) (f := eAct) rfl eAct_eq (fun l h => hs_Act h) h) h
theorem op_PindexDoes1 {l : List D} (h : HasC (.st [(.arr 32 (.int .u8)), (.int .i64), .str]) l) : ∃ x : Row, l = cRow x := hs_Row h
theorem PindexDoes_fun (l : (List Act)) (a : Row) : Fun Try.prog 9 [.slice ((l).map eAct), .agg (cRow (a))] (.val (.bool true)) := sim_law48_PindexDoes l a true (PindexDoes_true l a)
end Go.Proofs.Ytoeppofkmcdknaa.K
