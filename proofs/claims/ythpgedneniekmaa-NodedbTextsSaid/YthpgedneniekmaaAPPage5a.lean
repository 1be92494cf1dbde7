import Derived.Test.YthpgedneniekmaaAPPage4
/- Layer 47: the laws are true. -/
namespace Go.Proofs.Ythpgedneniekmaa.K
open Go
set_option linter.unusedVariables false
set_option linter.unusedSimpArgs false
theorem rises_iff {l : List Row} : rises l = true ↔ l.Pairwise (fun a b => ltR a b = true) := by
  rw [List.pairwise_iff_getElem]
  constructor
  · intro h i j hi hj hij
    have := rises_lt' h hij hj
    rwa [idx_get l hi, idx_get l hj] at this
  · intro h
    unfold rises
    rw [List.all_eq_true]
    intro i hi
    have hi : i < l.length - 1 := by simpa using hi
    rw [idx_get l (by omega), idx_get l (by omega)]
    exact h i (i + 1) (by omega) (by omega) (by omega)
theorem there_iff {l : List Row} {r : Row} : there l r = true ↔ pos l r < l.length ∧ kN (idx l (pos l r : Int)) = kN r ∧ (idx l (pos l r : Int)).fEpoch = r.fEpoch := by
  unfold there
  rw [Bool.and_eq_true, decide_eq_true_eq, decide_eq_true_eq, ordR_zero]
theorem ins_rises {l : List Row} (hr : rises l = true) (r : Row) : rises (insR l r) = true := by
  unfold insR
  split
  · exact hr
  · rename_i ht
    have hp := pos_le l r
    have h0 := rises_iff.1 hr
    rw [rises_iff, List.pairwise_append]
    have hb : ∀ b ∈ l.drop (pos l r), ltR r b = true := by
      intro b hb
      obtain ⟨j, hj, rfl⟩ := List.mem_iff_getElem.1 hb
      have hj' : pos l r + j < l.length := by rw [List.length_drop] at hj; omega
      rw [List.getElem_drop, ← idx_get l hj']
      have h1 := pos_behind hr r (i := pos l r + j) (by omega) hj'
      have h2 := pos_at l r (by omega)
      rw [there_iff] at ht
      rw [ltR_false] at h1 h2
      rw [ltR_iff]
      rcases Nat.eq_zero_or_pos j with h3 | h3
      · subst h3
        rw [Nat.add_zero] at *
        omega
      · have h4 := ltR_iff.1 (rises_lt' hr (i := pos l r) (j := pos l r + j) (by omega) hj')
        omega
    refine ⟨h0.sublist (List.take_sublist _ _), List.pairwise_cons.2 ⟨hb, h0.sublist (List.drop_sublist _ _)⟩, ?_⟩
    intro a ha b hb'
    obtain ⟨i, hi, rfl⟩ := List.mem_iff_getElem.1 ha
    have hi' : i < pos l r := by rw [List.length_take] at hi; omega
    have h1 := ltR_iff.1 (pos_before l r hi')
    rw [List.getElem_take, ← idx_get l (by omega)]
    rcases List.mem_cons.1 hb' with rfl | hb'
    · exact pos_before l _ hi'
    · have h2 := ltR_iff.1 (hb b hb')
      rw [ltR_iff]; omega
theorem ins_len (l : List Row) (r : Row) : (insR l r).length ≤ l.length + 1 := by
  have hp := pos_le l r
  unfold insR
  split
  · omega
  · simp; omega
end Go.Proofs.Ythpgedneniekmaa.K
