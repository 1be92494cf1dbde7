import Derived.Test.YthpgedneniekmaaAPPin3
/- ref48.Drop; the rows of a sum; what is read. -/
namespace Go.Proofs.Ythpgedneniekmaa.K
open Go
set_option linter.unusedVariables false
set_option linter.unusedSimpArgs false
theorem IndexR (v : List Row) (f : Row → Option Bool) (p : Row → Bool) (hf : ∀ y ∈ v, f y = some (p y)) (hv : v.length ≤ 1000000000) : ∃ r, g_slices_IndexFunc_api_Row_api_Row v f = some r ∧ ((∃ i : Nat, r = (i : Int) ∧ i < v.length ∧ p (idx v (i : Int)) = true ∧ ∀ j, j < i → p (idx v (j : Int)) = false) ∨ (r = -1 ∧ ∀ i, i < v.length → p (idx v (i : Int)) = false)) := by
  have hq : ∀ i, i < v.length → f (idx v (i : Int)) = some (p (idx v (i : Int))) := fun i hi => hf _ (idx_mem v hi)
  obtain ⟨r, hr, h⟩ := Comes.ex (step := step_slices_IndexFunc_api_Row_api_Row v f) (fun i => .L1 (i : Int)) (fun i => p (idx v (i : Int))) v.length (fun i => (i : Int)) (-1) (by
      intro i hi h
      simp only [step_slices_IndexFunc_api_Row_api_Row]
      rw [decide_eq_true (by omega), cond_true, gO_pos (by omega), hq i hi, Option.bind_some, h, cond_false, gO_pos (by unfold inI; omega)]
      rfl) (by
      intro i hi h
      simp only [step_slices_IndexFunc_api_Row_api_Row]
      rw [decide_eq_true (by omega), cond_true, gO_pos (by omega), hq i hi, Option.bind_some, h, cond_true]) (by
      refine Comes.stop ?_
      simp only [step_slices_IndexFunc_api_Row_api_Row]
      rw [decide_eq_false (by omega), cond_false])
  refine ⟨r, theC_eq (Comes.next rfl hr), ?_⟩
  rcases h with ⟨i, hi, h1, h2, rfl⟩ | ⟨h1, rfl⟩
  · exact .inl ⟨i, rfl, hi, h1, h2⟩
  · exact .inr ⟨rfl, h1⟩
theorem Del_L1 (p : Row → Bool) (f : Row → Option Bool) (v : List (Row)) (hf : ∀ y ∈ v, f y = some (!(p y))) (hv : v.length ≤ 1000000) : ∀ (k i j : Nat) (c : List (Row)), k + j = v.length → c.length = v.length → c.drop j = v.drop j → c.take i = (v.take j).filter p → i < j →
    i ≤ v.length → Comes (step_slices_DeleteFunc_api_Row_api_Row f v) (.L1 (i : Int) (j : Int) c) (v.filter p) := by
  intro k
  induction k with
  | zero =>
    intro i j c h1 h2 h3 h4 h5 h6
    have e : c.take i = v.filter p := by rw [h4, List.take_of_length_le (by omega)]
    refine Comes.stop ?_
    simp only [step_slices_DeleteFunc_api_Row_api_Row]
    rw [decide_eq_false (by omega), cond_false, gO_pos (by omega), gO_pos h2.symm, gO_pos (by omega), gO_pos (by rw [List.length_take]; omega), Int.toNat_natCast, e]
  | succ k ih =>
    intro i j c h1 h2 h3 h4 h5 h6
    have hj : j < v.length := by omega
    have hjc : j < c.length := by omega
    have hx : idx c (j : Int) = idx v (j : Int) := by
      have := h3
      rw [drop_idx c hjc, drop_idx v hj] at this
      exact (List.cons.inj this).1
    have hd : c.drop (j + 1) = v.drop (j + 1) := by
      have := h3
      rw [drop_idx c hjc, drop_idx v hj] at this
      exact (List.cons.inj this).2
    have hfx := hf _ (idx_mem v hj)
    cases hk : p (idx v (j : Int)) with
    | true =>
      have hi : i < c.length := by omega
      refine Comes.next (c' := .L1 ((i + 1 : Nat) : Int) ((j + 1 : Nat) : Int) (c.set i (idx v (j : Int)))) ?_ (ih (i + 1) (j + 1) _ (by omega) (by simp [h2]) ?_ ?_ (by omega) (by omega))
      · simp only [step_slices_DeleteFunc_api_Row_api_Row]
        rw [decide_eq_true (by omega), cond_true, gO_pos (by omega), gO_pos (by omega), hx, hfx, Option.bind_some, hk, Bool.not_true, Bool.not_false, cond_true, gO_pos (by omega), gO_pos (by omega), gO_pos (by unfold inI; omega), Option.bind_some]
        simp only
        rw [gO_pos (by unfold inI; omega), Int.toNat_natCast]
        rfl
      · rw [List.drop_set_of_lt (by omega), hd]
      · have e1 : (c.set i (idx v (j : Int))).take (i + 1) = c.take i ++ [idx v (j : Int)] := by
          rw [List.take_add_one, List.getElem?_set_self hi, List.take_set_of_le (Nat.le_refl _)]; rfl
        rw [e1, h4, take_idx v hj, filt_snoc, if_pos hk]
    | false =>
      refine Comes.next (c' := .L1 (i : Int) ((j + 1 : Nat) : Int) c) ?_ (ih i (j + 1) _ (by omega) h2 hd ?_ (by omega) h6)
      · simp only [step_slices_DeleteFunc_api_Row_api_Row]
        rw [decide_eq_true (by omega), cond_true, gO_pos (by omega), gO_pos (by omega), hx, hfx, Option.bind_some, hk, Bool.not_false, Bool.not_true, cond_false, Option.bind_some]
        simp only
        rw [gO_pos (by unfold inI; omega)]
        rfl
      · rw [h4, take_idx v hj, filt_snoc, if_neg (by rw [hk]; simp), List.append_nil]
theorem Del_ok (p : Row → Bool) (f : Row → Option Bool) (v : List (Row)) (hf : ∀ y ∈ v, f y = some (!(p y))) (hv : v.length ≤ 1000000) : g_slices_DeleteFunc_api_Row_api_Row f v = some (v.filter p) := by
  obtain ⟨r, hr, h⟩ := IndexR v f (fun y => !(p y)) hf (by omega)
  refine theC_eq ?_
  rcases h with ⟨i, rfl, hi, h1, h2⟩ | ⟨rfl, h1⟩
  · have hall : (v.take i).filter p = v.take i := by
      rw [List.filter_eq_self]
      intro x hx
      obtain ⟨j, hj, rfl⟩ := List.mem_iff_getElem.1 hx
      have hj' : j < i := by rw [List.length_take] at hj; omega
      have := h2 j hj'
      rw [idx_get v (by omega)] at this
      rw [List.getElem_take]; simpa using this
    refine Comes.next (c' := .L1 (i : Int) ((i + 1 : Nat) : Int) v) ?_ (Del_L1 p f v hf hv (v.length - (i + 1)) i (i + 1) v (by omega) rfl rfl ?_ (by omega) (by omega))
    · simp only [step_slices_DeleteFunc_api_Row_api_Row]
      rw [hr, Option.bind_some, decide_eq_false (by omega), cond_false, gO_pos (by unfold inI; omega)]
      rfl
    · have : p (idx v (i : Int)) = false := by simpa using h1
      rw [take_idx v hi, filt_snoc, hall, if_neg (by rw [this]; simp), List.append_nil]
  · have hall : v.filter p = v := by
      rw [List.filter_eq_self]
      intro x hx
      obtain ⟨j, hj, rfl⟩ := List.mem_iff_getElem.1 hx
      have := h1 j hj
      rw [idx_get v hj] at this
      simpa using this
    rw [hall]
    refine Comes.stop ?_
    simp only [step_slices_DeleteFunc_api_Row_api_Row]
    rw [hr, Option.bind_some]
    rfl
theorem GrowW_ok (n : Nat) (hn : n ≤ 3000000) : g_slices_Grow_api_Row_api_RowW (n : Int) = some [] := by
  unfold g_slices_Grow_api_Row_api_RowW
  rw [decide_eq_false (by omega), cond_false, gO_pos (by decide), gO_pos (by unfold inI; omega)]
  by_cases h : 0 < n
  · rw [decide_eq_true (by omega), cond_true, gO_pos (by omega)]
  · rw [decide_eq_false (by omega), cond_false]
theorem ConcatR_ok (L : List (List Row)) (h1 : L.length ≤ 1000) (h2 : L.flatten.length ≤ 3000000) : g_slices_Concat_api_Row_api_RowR L = some L.flatten := by
  refine theC_eq (.next rfl ?_)
  have fl : ∀ i, i < L.length → (L.take (i + 1)).flatten = (L.take i).flatten ++ idx L (i : Int) := fun i hi => by rw [take_idx L hi, List.flatten_append]; simp
  have e2 : Comes (step_slices_Concat_api_Row_api_RowR L) (.L2 [] 0) L.flatten := by
    have := Comes.upto (step := step_slices_Concat_api_Row_api_RowR L) (r := L.flatten) (fun i => .L2 (L.take i).flatten (i : Int)) L.length (fun i hi => by
      have h3 := flat_take_le L (i + 1)
      rw [fl i hi, List.length_append] at h3
      simp only [step_slices_Concat_api_Row_api_RowR]
      rw [decide_eq_true (by omega), cond_true, gO_pos (by omega), gO_pos (by omega), gO_pos (by unfold inI; omega), fl i hi]
      rfl) (.stop (by
      simp only [step_slices_Concat_api_Row_api_RowR]
      rw [decide_eq_false (by omega), cond_false, List.take_of_length_le (Nat.le_refl _)]))
    simpa using this
  have := Comes.upto (step := step_slices_Concat_api_Row_api_RowR L) (r := L.flatten) (fun i => .L1 ((L.take i).flatten.length : Int) (i : Int)) L.length (fun i hi => by
    have h3 := flat_take_le L (i + 1)
    rw [fl i hi, List.length_append] at h3
    simp only [step_slices_Concat_api_Row_api_RowR]
    rw [decide_eq_true (by omega), cond_true, gO_pos (by omega), gO_pos (by unfold inI; omega), decide_eq_false (by omega), cond_false, gO_pos (by unfold inI; omega), fl i hi, List.length_append]
    rfl) (.next (c' := .L2 [] 0) (by
    simp only [step_slices_Concat_api_Row_api_RowR]
    rw [decide_eq_false (by omega), cond_false, List.take_of_length_le (Nat.le_refl _), GrowW_ok _ h2]; rfl) e2)
  simpa using this
theorem Of_ok (P : List (List Row)) (s : Arr 32 UInt8) (h1 : P.length ≤ 1000) (h2 : P.flatten.length ≤ 1000000) : g_pindex_Index_Of ⟨P⟩ s = some (P.flatten.filter fun r => r.fSum.1 == s.1) := by
  unfold g_pindex_Index_Of g_pindex_Index_AllR
  rw [ConcatR_ok P h1 (by omega), Option.bind_some, Option.bind_some, Del_ok (fun r => r.fSum.1 == s.1) (fun y0 => g_pindex_Index_Of_1 y0 s) P.flatten (fun y _ => rfl) h2]
  rfl
end Go.Proofs.Ythpgedneniekmaa.K
