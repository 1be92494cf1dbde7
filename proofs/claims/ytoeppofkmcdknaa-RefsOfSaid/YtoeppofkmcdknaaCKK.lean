import Derived.Test.YtoeppofkmcdknaaCKJ
/- Rows' arguments, opened as typed values. -/
namespace Go.Proofs.Ytoeppofkmcdknaa.K
open Go Go.RowKit
set_option linter.unusedVariables false
theorem hs_str {l : List D} (h : HasC .str l) : ∃ s : List UInt8, s.length ≤ maxLen ∧ l = [.val (sV s)] := by
  simp only [HasC] at h
  obtain ⟨⟨⟨s⟩⟩, rfl, hs⟩ := h
  exact ⟨s, hs, rfl⟩
theorem hs_strO {l : List D} (h : HasC .str l) : ∃ s : List UInt8, l = [eS s] := by
  obtain ⟨s, _, e⟩ := hs_str h
  exact ⟨s, e⟩
theorem hs_slO {α : Type} {e : Ty} {f : α → D} (he : e.isAgg = false) (one : ∀ c, HasC e c → ∃ a, c = [f a]) {l : List D} (h : HasC (.slice e) l) : ∃ xs : List α, xs.length ≤ maxLen ∧ l = [.slice (xs.map f)] := by
  simp only [HasC] at h
  obtain ⟨xs, rfl, h1, h2⟩ := h
  obtain ⟨as, h3, rfl⟩ := has_map (e := e) (f := f) (fun x hx ha => by
    obtain ⟨a, e1⟩ := one _ hx
    rw [he] at ha
    exact ⟨a, cells_sing e1 ha⟩) (xs := xs) h2
  exact ⟨as, by omega, rfl⟩
end Go.Proofs.Ytoeppofkmcdknaa.K
