import Derived.Test.YtfnlcnnoedmfiaaAKJ
/- Rows' arguments, opened as typed values. -/
namespace Go.Proofs.Ytfnlcnnoedmfiaa.K
open Go Go.RowKit
set_option linter.unusedVariables false
theorem hs_str {l : List D} (h : HasC .str l) : ∃ s : List UInt8, s.length ≤ maxLen ∧ l = [.val (sV s)] := by
  simp only [HasC] at h
  obtain ⟨⟨⟨s⟩⟩, rfl, hs⟩ := h
  exact ⟨s, hs, rfl⟩
theorem hs_arr {α : Type} {e : Ty} {f : α → D} (one : ∀ c, HasC e c → ∃ a, c = [f a]) {n : Nat} {l : List D} (h : HasC (.arr n e) l) : ∃ a : Arr n α, l = a.1.map f := by
  simp only [HasC] at h
  obtain ⟨ls, h1, rfl, h2⟩ := h
  have : ∀ ls : List (List D), (∀ c ∈ ls, HasC e c) → ∃ as : List α, as.length = ls.length ∧ ls.flatten = as.map f := by
    intro ls
    induction ls with
    | nil => intro _; exact ⟨[], rfl, rfl⟩
    | cons c r ih =>
      intro h
      obtain ⟨a, e1⟩ := one c (h c (List.mem_cons_self ..))
      obtain ⟨as, e2, e3⟩ := ih fun x hx => h x (List.mem_cons_of_mem _ hx)
      exact ⟨a :: as, by simp [e2], by simp [e1, e3]⟩
  obtain ⟨as, e1, e2⟩ := this ls h2
  exact ⟨⟨as, by omega⟩, e2⟩
theorem hs_slO {α : Type} {e : Ty} {f : α → D} (he : e.isAgg = false) (one : ∀ c, HasC e c → ∃ a, c = [f a]) {l : List D} (h : HasC (.slice e) l) : ∃ xs : List α, xs.length ≤ maxLen ∧ l = [.slice (xs.map f)] := by
  simp only [HasC] at h
  obtain ⟨xs, rfl, h1, h2⟩ := h
  obtain ⟨as, h3, rfl⟩ := has_map (e := e) (f := f) (fun x hx ha => by
    obtain ⟨a, e1⟩ := one _ hx
    rw [he] at ha
    exact ⟨a, cells_sing e1 ha⟩) (xs := xs) h2
  exact ⟨as, by omega, rfl⟩
theorem hs_slA {α : Type} {e : Ty} {c : α → List D} {f : α → D} (he : e.isAgg = true) (hf : ∀ a, f a = .agg (c a)) (one : ∀ l, HasC e l → ∃ a, l = c a) {l : List D} (h : HasC (.slice e) l) : ∃ xs : List α, xs.length ≤ maxLen ∧ l = [.slice (xs.map f)] := by
  simp only [HasC] at h
  obtain ⟨xs, rfl, h1, h2⟩ := h
  obtain ⟨as, h3, rfl⟩ := has_map (e := e) (f := f) (fun x hx ha => by
    obtain ⟨a, e1⟩ := one _ hx
    have : ∃ c, x = .agg c := ha ▸ he
    obtain ⟨c', rfl⟩ := this
    exact ⟨a, by rw [hf]; simp only [D.cells] at e1; rw [e1]⟩) (xs := xs) h2
  exact ⟨as, by omega, rfl⟩
end Go.Proofs.Ytfnlcnnoedmfiaa.K
