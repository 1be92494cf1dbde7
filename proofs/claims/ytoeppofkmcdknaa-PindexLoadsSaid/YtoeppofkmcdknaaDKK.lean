import Derived.Test.YtoeppofkmcdknaaDKJ
/- Rows' arguments, opened as typed values. -/
namespace Go.Proofs.Ytoeppofkmcdknaa.K
open Go Go.RowKit
set_option linter.unusedVariables false
theorem hs_str {l : List D} (h : HasC .str l) : ∃ s : List UInt8, s.length ≤ maxLen ∧ l = [.val (sV s)] := by
  simp only [HasC] at h
  obtain ⟨⟨⟨s⟩⟩, rfl, hs⟩ := h
  exact ⟨s, hs, rfl⟩
end Go.Proofs.Ytoeppofkmcdknaa.K
