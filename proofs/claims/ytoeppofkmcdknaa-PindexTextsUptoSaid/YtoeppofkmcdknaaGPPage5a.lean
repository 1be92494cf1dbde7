import Derived.Test.YtoeppofkmcdknaaGPPage4
/- Layer 47: the laws are true. -/
namespace Go.Proofs.Ytoeppofkmcdknaa.K
open Go
set_option linter.unusedVariables false
set_option linter.unusedSimpArgs false
theorem rises_iff {l : List Row} : rises l = true ↔ l.Pairwise (fun a b => ltR a b = true) := by
  rw [List.pairwise_iff_getElem]
  constructor
  · intro h i j hi hj hij
    have := rises_lt' h hij hj
    rwa [idx_get l hi, idx_get l hj] at this
  · intro h
    unfold rises
    rw [List.all_eq_true]
    intro i hi
    have hi : i < l.length - 1 := by simpa using hi
    rw [idx_get l (by omega), idx_get l (by omega)]
    exact h i (i + 1) (by omega) (by omega) (by omega)
theorem there_iff {l : List Row} {r : Row} : there l r = true ↔ pos l r < l.length ∧ kN (idx l (pos l r : Int)) = kN r ∧ (idx l (pos l r : Int)).fEpoch = r.fEpoch := by
  unfold there
  rw [Bool.and_eq_true, decide_eq_true_eq, decide_eq_true_eq, ordR_zero]
theorem ins_rises {l : List Row} (hr : rises l = true) (r : Row) : rises (insR l r) = true := by
  unfold insR
  split
  · exact hr
  · rename_i ht
    have hp := pos_le l r
    have h0 := rises_iff.1 hr
    rw [rises_iff, List.pairwise_append]
    have hb : ∀ b ∈ l.drop (pos l r), ltR r b = true := by
      intro b hb
      obtain ⟨j, hj, rfl⟩ := List.mem_iff_getElem.1 hb
      have hj' : pos l r + j < l.length := by rw [List.length_drop] at hj; omega
      rw [List.getElem_drop, ← idx_get l hj']
      have h1 := pos_behind hr r (i := pos l r + j) (by omega) hj'
      have h2 := pos_at l r (by omega)
      rw [there_iff] at ht
      rw [ltR_false] at h1 h2
      rw [ltR_iff]
      rcases Nat.eq_zero_or_pos j with h3 | h3
      · subst h3
        rw [Nat.add_zero] at *
        omega
      · have h4 := ltR_iff.1 (rises_lt' hr (i := pos l r) (j := pos l r + j) (by omega) hj')
        omega
    refine ⟨h0.sublist (List.take_sublist _ _), List.pairwise_cons.2 ⟨hb, h0.sublist (List.drop_sublist _ _)⟩, ?_⟩
    intro a ha b hb'
    obtain ⟨i, hi, rfl⟩ := List.mem_iff_getElem.1 ha
    have hi' : i < pos l r := by rw [List.length_take] at hi; omega
    have h1 := ltR_iff.1 (pos_before l r hi')
    rw [List.getElem_take, ← idx_get l (by omega)]
    rcases List.mem_cons.1 hb' with rfl | hb'
    · exact pos_before l _ hi'
    · have h2 := ltR_iff.1 (hb b hb')
      rw [ltR_iff]; omega
theorem ins_len (l : List Row) (r : Row) : (insR l r).length ≤ l.length + 1 := by
  have hp := pos_le l r
  unfold insR
  split
  · omega
  · simp; omega
theorem Sort_ok (l : List Row) (hl : l.length ≤ 100000) : g_ref47_Sort l = some (l.foldl insR []) := by
  refine theC_eq (.next rfl ?_)
  have one : ∀ (out : List Row) (i : Nat) (res : List Row), i < l.length → out.length ≤ i → Comes (step_ref47_Sort l) (.L1 (insR out (idx l (i : Int))) ((i + 1 : Nat) : Int)) res → Comes (step_ref47_Sort l) (.L1 out (i : Int)) res := by
    intro out i res hi ho h
    have hp := pos_le out (idx l (i : Int))
    refine .next (c' := .L3 out (i : Int) 0) (by simp only [step_ref47_Sort]; rw [decide_eq_true (by omega), cond_true]) ?_
    refine Comes.upto (step := step_ref47_Sort l) (fun k => .L3 out (i : Int) (k : Int)) (pos out (idx l (i : Int))) (fun k hk => ?_) ?_
    · have hb := pos_before out (idx l (i : Int)) hk
      simp only [step_ref47_Sort]
      rw [gO_pos (fun _ => by omega), gO_pos (fun _ => by omega), decide_eq_true (show (k : Int) < (out.length : Int) by omega), show ((true == true) : Bool) = true from rfl, cond_true, RLess_ok, Option.bind_some, hb, Bool.and_self, cond_true, gO_pos (by unfold inI; omega)]
      rfl
    · refine .next (c' := .J2 (insR out (idx l (i : Int))) (i : Int)) ?_ (.next (c' := .L1 (insR out (idx l (i : Int))) ((i + 1 : Nat) : Int)) (by simp only [step_ref47_Sort]; rw [gO_pos (by unfold inI; omega)]; rfl) h)
      simp only [step_ref47_Sort]
      rw [gO_pos (fun h => by simp only [decide_eq_true_eq] at h; omega), gO_pos (fun _ => by omega)]
      have hth : ((decide ((pos out (idx l (i : Int)) : Int) < (out.length : Int)) && ((idx out (pos out (idx l (i : Int)) : Int)).fSum.1 == (idx l (i : Int)).fSum.1)) && decide ((idx out (pos out (idx l (i : Int)) : Int)).fEpoch = (idx l (i : Int)).fEpoch)) = there out (idx l (i : Int)) := by
        rw [Bool.eq_iff_iff, there_iff, Bool.and_eq_true, Bool.and_eq_true, decide_eq_true_eq, decide_eq_true_eq, beq_iff_eq, kN_eq, Subtype.ext_iff]
        constructor
        · rintro ⟨⟨h1, h2⟩, h3⟩; exact ⟨by omega, h2, h3⟩
        · rintro ⟨h1, h2, h3⟩; exact ⟨⟨by omega, h2⟩, h3⟩
      have hle : ∀ x : Option (C_ref47_Sort ⊕ List Row), (gO ((decide ((pos out (idx l (i : Int)) : Int) < (out.length : Int))) = true → 0 ≤ (pos out (idx l (i : Int)) : Int) ∧ (pos out (idx l (i : Int)) : Int) < (out.length : Int)) x) = x := fun x => gO_pos (fun h => by simp only [decide_eq_true_eq] at h; omega)
      have tail : ∀ y : Option (C_ref47_Sort ⊕ List Row), y = (bif there out (idx l (i : Int)) then some (.inl (.J2 out (i : Int))) else some (.inl (.J2 (out.take (pos out (idx l (i : Int))) ++ idx l (i : Int) :: out.drop (pos out (idx l (i : Int)))) (i : Int)))) → y = some (.inl (.J2 (insR out (idx l (i : Int))) (i : Int))) := by
        rintro y rfl
        unfold insR
        cases there out (idx l (i : Int)) <;> rfl
      refine tail _ ?_
      by_cases hc : pos out (idx l (i : Int)) < out.length
      · have ha := pos_at out (idx l (i : Int)) hc
        rw [decide_eq_true (show (pos out (idx l (i : Int)) : Int) < (out.length : Int) by omega)] at hth ⊢
        rw [show ((true == true) : Bool) = true from rfl, cond_true, RLess_ok, Option.bind_some, ha, Bool.and_false, cond_false, gO_pos (fun _ => by omega), gO_pos (fun _ => by omega), gO_pos (fun _ => by omega), gO_pos (fun _ => by omega), hth]
        congr 1
        rw [gO_pos (by omega), gO_pos (by simp [sub_pre]; omega), gO_pos (by omega), gO_pos (by simp [sub_pre]; omega), gO_pos (by omega), gO_pos (by simp [sub_pre, sub_suf]; omega), sub_pre, sub_suf]
        simp
      · rw [decide_eq_false (show ¬ (pos out (idx l (i : Int)) : Int) < (out.length : Int) by omega)] at hth ⊢
        rw [show ((false == true) : Bool) = false from rfl, cond_false, Option.bind_some, Bool.false_and, cond_false, gO_pos (fun h => by cases h), gO_pos (fun h => by cases h), gO_pos (fun h => by simp at h), gO_pos (fun h => by simp at h), hth]
        congr 1
        rw [gO_pos (by omega), gO_pos (by simp [sub_pre]; omega), gO_pos (by omega), gO_pos (by simp [sub_pre]; omega), gO_pos (by omega), gO_pos (by simp [sub_pre, sub_suf]; omega), sub_pre, sub_suf]
        simp
  have flen : ∀ (m : List Row) (out : List Row), (m.foldl insR out).length ≤ out.length + m.length := by
    intro m
    induction m with
    | nil => intro out; simp
    | cons x m ih =>
      intro out
      have h1 := ih (insR out x)
      have h2 := ins_len out x
      simp only [List.foldl_cons, List.length_cons]; omega
  have key : ∀ k i, i + k = l.length → Comes (step_ref47_Sort l) (.L1 ((l.take i).foldl insR []) (i : Int)) (l.foldl insR []) := by
    intro k
    induction k with
    | zero =>
      intro i hi
      refine .stop ?_
      simp only [step_ref47_Sort]
      rw [decide_eq_false (by omega), cond_false, List.take_of_length_le (by omega)]
    | succ k ih =>
      intro i hi
      have h1 := flen (l.take i) []
      rw [List.length_take, List.length_nil] at h1
      refine one _ i _ (by omega) (by omega) ?_
      have := ih (i + 1) (by omega)
      rwa [take_idx l (by omega), List.foldl_append] at this
  exact key l.length 0 (by omega)
theorem fold_sorted : ∀ (m out : List Row), (out ++ m).Pairwise (fun a b => ltR a b = true) → m.foldl insR out = out ++ m
  | [], out, _ => by simp
  | x :: m, out, h => by
    have h1 := (List.pairwise_append.1 h).2.2
    have h0 : rises out = true := rises_iff.2 (List.pairwise_append.1 h).1
    have hp : pos out x = out.length := pos_eq h0 x (Nat.le_refl _) (fun i hi => h1 _ (idx_mem out hi) x (List.mem_cons_self ..)) (fun i h2 h3 => by omega)
    have hi : insR out x = out ++ [x] := by
      unfold insR
      have : there out x = false := by unfold there; rw [hp]; simp
      rw [this, if_neg (by simp), hp, List.take_of_length_le (Nat.le_refl _), List.drop_eq_nil_of_le (Nat.le_refl _)]
    rw [List.foldl_cons, hi, fold_sorted m (out ++ [x]) (by simpa using h)]
    simp
end Go.Proofs.Ytoeppofkmcdknaa.K
