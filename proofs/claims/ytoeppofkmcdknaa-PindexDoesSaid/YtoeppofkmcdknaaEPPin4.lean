import Derived.Test.YtoeppofkmcdknaaEPPin3
/- ref48.Drop; the rows of a sum; what is read. -/
namespace Go.Proofs.Ytoeppofkmcdknaa.K
open Go
set_option linter.unusedVariables false
set_option linter.unusedSimpArgs false
theorem IndexR (v : List Row) (f : Row → Option Bool) (p : Row → Bool) (hf : ∀ y ∈ v, f y = some (p y)) (hv : v.length ≤ 1000000000) : ∃ r, g_slices_IndexFunc_api_Row_api_Row v f = some r ∧ ((∃ i : Nat, r = (i : Int) ∧ i < v.length ∧ p (idx v (i : Int)) = true ∧ ∀ j, j < i → p (idx v (j : Int)) = false) ∨ (r = -1 ∧ ∀ i, i < v.length → p (idx v (i : Int)) = false)) := by
  have hq : ∀ i, i < v.length → f (idx v (i : Int)) = some (p (idx v (i : Int))) := fun i hi => hf _ (idx_mem v hi)
  obtain ⟨r, hr, h⟩ := Comes.ex (step := step_slices_IndexFunc_api_Row_api_Row v f) (fun i => .L1 (i : Int)) (fun i => p (idx v (i : Int))) v.length (fun i => (i : Int)) (-1) (by
      intro i hi h
      simp only [step_slices_IndexFunc_api_Row_api_Row]
      rw [decide_eq_true (by omega), cond_true, gO_pos (by omega), hq i hi, Option.bind_some, h, cond_false, gO_pos (by unfold inI; omega)]
      rfl) (by
      intro i hi h
      simp only [step_slices_IndexFunc_api_Row_api_Row]
      rw [decide_eq_true (by omega), cond_true, gO_pos (by omega), hq i hi, Option.bind_some, h, cond_true]) (by
      refine Comes.stop ?_
      simp only [step_slices_IndexFunc_api_Row_api_Row]
      rw [decide_eq_false (by omega), cond_false])
  refine ⟨r, theC_eq (Comes.next rfl hr), ?_⟩
  rcases h with ⟨i, hi, h1, h2, rfl⟩ | ⟨h1, rfl⟩
  · exact .inl ⟨i, rfl, hi, h1, h2⟩
  · exact .inr ⟨rfl, h1⟩
theorem Del_L1 (p : Row → Bool) (f : Row → Option Bool) (v : List (Row)) (hf : ∀ y ∈ v, f y = some (!(p y))) (hv : v.length ≤ 1000000) : ∀ (k i j : Nat) (c : List (Row)), k + j = v.length → c.length = v.length → c.drop j = v.drop j → c.take i = (v.take j).filter p → i < j →
    i ≤ v.length → Comes (step_slices_DeleteFunc_api_Row_api_Row f v) (.L1 (i : Int) (j : Int) c) (v.filter p) := by
  intro k
  induction k with
  | zero =>
    intro i j c h1 h2 h3 h4 h5 h6
    have e : c.take i = v.filter p := by rw [h4, List.take_of_length_le (by omega)]
    refine Comes.stop ?_
    simp only [step_slices_DeleteFunc_api_Row_api_Row]
    rw [decide_eq_false (by omega), cond_false, gO_pos (by omega), gO_pos h2.symm, gO_pos (by omega), gO_pos (by rw [List.length_take]; omega), Int.toNat_natCast, e]
  | succ k ih =>
    intro i j c h1 h2 h3 h4 h5 h6
    have hj : j < v.length := by omega
    have hjc : j < c.length := by omega
    have hx : idx c (j : Int) = idx v (j : Int) := by
      have := h3
      rw [drop_idx c hjc, drop_idx v hj] at this
      exact (List.cons.inj this).1
    have hd : c.drop (j + 1) = v.drop (j + 1) := by
      have := h3
      rw [drop_idx c hjc, drop_idx v hj] at this
      exact (List.cons.inj this).2
    have hfx := hf _ (idx_mem v hj)
    cases hk : p (idx v (j : Int)) with
    | true =>
      have hi : i < c.length := by omega
      refine Comes.next (c' := .L1 ((i + 1 : Nat) : Int) ((j + 1 : Nat) : Int) (c.set i (idx v (j : Int)))) ?_ (ih (i + 1) (j + 1) _ (by omega) (by simp [h2]) ?_ ?_ (by omega) (by omega))
      · simp only [step_slices_DeleteFunc_api_Row_api_Row]
        rw [decide_eq_true (by omega), cond_true, gO_pos (by omega), gO_pos (by omega), hx, hfx, Option.bind_some, hk, Bool.not_true, Bool.not_false, cond_true, gO_pos (by omega), gO_pos (by omega), gO_pos (by unfold inI; omega), Option.bind_some]
        simp only
        rw [gO_pos (by unfold inI; omega), Int.toNat_natCast]
        rfl
      · rw [List.drop_set_of_lt (by omega), hd]
      · have e1 : (c.set i (idx v (j : Int))).take (i + 1) = c.take i ++ [idx v (j : Int)] := by
          rw [List.take_add_one, List.getElem?_set_self hi, List.take_set_of_le (Nat.le_refl _)]; rfl
        rw [e1, h4, take_idx v hj, filt_snoc, if_pos hk]
    | false =>
      refine Comes.next (c' := .L1 (i : Int) ((j + 1 : Nat) : Int) c) ?_ (ih i (j + 1) _ (by omega) h2 hd ?_ (by omega) h6)
      · simp only [step_slices_DeleteFunc_api_Row_api_Row]
        rw [decide_eq_true (by omega), cond_true, gO_pos (by omega), gO_pos (by omega), hx, hfx, Option.bind_some, hk, Bool.not_false, Bool.not_true, cond_false, Option.bind_some]
        simp only
        rw [gO_pos (by unfold inI; omega)]
        rfl
      · rw [h4, take_idx v hj, filt_snoc, if_neg (by rw [hk]; simp), List.append_nil]
theorem Del_ok (p : Row → Bool) (f : Row → Option Bool) (v : List (Row)) (hf : ∀ y ∈ v, f y = some (!(p y))) (hv : v.length ≤ 1000000) : g_slices_DeleteFunc_api_Row_api_Row f v = some (v.filter p) := by
  obtain ⟨r, hr, h⟩ := IndexR v f (fun y => !(p y)) hf (by omega)
  refine theC_eq ?_
  rcases h with ⟨i, rfl, hi, h1, h2⟩ | ⟨rfl, h1⟩
  · have hall : (v.take i).filter p = v.take i := by
      rw [List.filter_eq_self]
      intro x hx
      obtain ⟨j, hj, rfl⟩ := List.mem_iff_getElem.1 hx
      have hj' : j < i := by rw [List.length_take] at hj; omega
      have := h2 j hj'
      rw [idx_get v (by omega)] at this
      rw [List.getElem_take]; simpa using this
    refine Comes.next (c' := .L1 (i : Int) ((i + 1 : Nat) : Int) v) ?_ (Del_L1 p f v hf hv (v.length - (i + 1)) i (i + 1) v (by omega) rfl rfl ?_ (by omega) (by omega))
    · simp only [step_slices_DeleteFunc_api_Row_api_Row]
      rw [hr, Option.bind_some, decide_eq_false (by omega), cond_false, gO_pos (by unfold inI; omega)]
      rfl
    · have : p (idx v (i : Int)) = false := by simpa using h1
      rw [take_idx v hi, filt_snoc, hall, if_neg (by rw [this]; simp), List.append_nil]
  · have hall : v.filter p = v := by
      rw [List.filter_eq_self]
      intro x hx
      obtain ⟨j, hj, rfl⟩ := List.mem_iff_getElem.1 hx
      have := h1 j hj
      rw [idx_get v hj] at this
      simpa using this
    rw [hall]
    refine Comes.stop ?_
    simp only [step_slices_DeleteFunc_api_Row_api_Row]
    rw [hr, Option.bind_some]
    rfl
theorem GrowW_ok (n : Nat) (hn : n ≤ 3000000) : g_slices_Grow_api_Row_api_RowW (n : Int) = some [] := by
  unfold g_slices_Grow_api_Row_api_RowW
  rw [decide_eq_false (by omega), cond_false, gO_pos (by decide), gO_pos (by unfold inI; omega)]
  by_cases h : 0 < n
  · rw [decide_eq_true (by omega), cond_true, gO_pos (by omega)]
  · rw [decide_eq_false (by omega), cond_false]
theorem ConcatR_ok (L : List (List Row)) (h1 : L.length ≤ 1000) (h2 : L.flatten.length ≤ 3000000) : g_slices_Concat_api_Row_api_RowR L = some L.flatten := by
  refine theC_eq (.next rfl ?_)
  have fl : ∀ i, i < L.length → (L.take (i + 1)).flatten = (L.take i).flatten ++ idx L (i : Int) := fun i hi => by rw [take_idx L hi, List.flatten_append]; simp
  have e2 : Comes (step_slices_Concat_api_Row_api_RowR L) (.L2 [] 0) L.flatten := by
    have := Comes.upto (step := step_slices_Concat_api_Row_api_RowR L) (r := L.flatten) (fun i => .L2 (L.take i).flatten (i : Int)) L.length (fun i hi => by
      have h3 := flat_take_le L (i + 1)
      rw [fl i hi, List.length_append] at h3
      simp only [step_slices_Concat_api_Row_api_RowR]
      rw [decide_eq_true (by omega), cond_true, gO_pos (by omega), gO_pos (by omega), gO_pos (by unfold inI; omega), fl i hi]
      rfl) (.stop (by
      simp only [step_slices_Concat_api_Row_api_RowR]
      rw [decide_eq_false (by omega), cond_false, List.take_of_length_le (Nat.le_refl _)]))
    simpa using this
  have := Comes.upto (step := step_slices_Concat_api_Row_api_RowR L) (r := L.flatten) (fun i => .L1 ((L.take i).flatten.length : Int) (i : Int)) L.length (fun i hi => by
    have h3 := flat_take_le L (i + 1)
    rw [fl i hi, List.length_append] at h3
    simp only [step_slices_Concat_api_Row_api_RowR]
    rw [decide_eq_true (by omega), cond_true, gO_pos (by omega), gO_pos (by unfold inI; omega), decide_eq_false (by omega), cond_false, gO_pos (by unfold inI; omega), fl i hi, List.length_append]
    rfl) (.next (c' := .L2 [] 0) (by
    simp only [step_slices_Concat_api_Row_api_RowR]
    rw [decide_eq_false (by omega), cond_false, List.take_of_length_le (Nat.le_refl _), GrowW_ok _ h2]; rfl) e2)
  simpa using this
theorem Of_ok (P : List (List Row)) (s : Arr 32 UInt8) (h1 : P.length ≤ 1000) (h2 : P.flatten.length ≤ 1000000) : g_pindex_Index_Of ⟨P⟩ s = some (P.flatten.filter fun r => r.fSum.1 == s.1) := by
  unfold g_pindex_Index_Of g_pindex_Index_AllR
  rw [ConcatR_ok P h1 (by omega), Option.bind_some, Option.bind_some, Del_ok (fun r => r.fSum.1 == s.1) (fun y0 => g_pindex_Index_Of_1 y0 s) P.flatten (fun y _ => rfl) h2]
  rfl
theorem RDrop48_ok {P : List (List Row)} (h : OKP P) (r : Row) (ht : there P.flatten r = true) (h1 : P.length ≤ 1000) : g_ref48_Drop P r.fSum r.fEpoch = some (dropP P r) := by
  have hP : P ≠ [] := fun e => by rw [e, List.flatten_nil, there_nil] at ht; cases ht
  have hlen := List.length_pos_iff.2 hP
  have a1 := (atF_spec h r hP).1
  have hpm := idx_mem P a1
  have h2 := ht
  rw [there_flat h r hP] at h2
  obtain ⟨b1, b2, b3⟩ := there_iff.1 h2
  have hF : ∀ j, j < P.length → g_ref47_Find (idx P (j : Int)) r.fSum r.fEpoch = some (if there (idx P (j : Int)) r = true then (pos (idx P (j : Int)) r : Int) else -1) := fun j hj =>
    RFind_ok (rises_iff.2 (h.page (idx_mem P hj))) (by have := h.le _ (idx_mem P hj); omega) r
  have hFn := hF _ a1
  rw [if_pos h2] at hFn
  have hFo : ∀ j, j < P.length → j ≠ atF P r → g_ref47_Find (idx P (j : Int)) r.fSum r.fEpoch = some (-1) := fun j hj hne => by
    rw [hF j hj, there_not h r hP hj hne]; rfl
  have h8 := h.le _ hpm
  have hs := rem_sub (idx P (atF P r : Int)) r
  obtain ⟨c1, c2⟩ := cut_ok h a1 hs
  have hq : (idx P (atF P r : Int)).take (pos (idx P (atF P r : Int)) r) ++ (idx P (atF P r : Int)).drop (pos (idx P (atF P r : Int)) r + 1) = remR (idx P (atF P r : Int)) r := rfl
  unfold dropP
  have hsl := hs.length_le
  generalize hn : atF P r = n at *
  generalize hqe : remR (idx P (n : Int)) r = q at *
  generalize hpe : pos (idx P (n : Int)) r = m at *
  let out : Nat → List (List Row) := fun i => if i ≤ n then P.take i else if q.length = 0 then P.take n ++ (P.take i).drop (n + 1) else P.take n ++ q :: (P.take i).drop (n + 1)
  let av : Nat → Int := fun i => if i ≤ n then -1 else if q.length = 0 then -2 else (n : Int)
  have o1 : ∀ i, i ≤ n → out i = P.take i ∧ av i = -1 := fun i hi => ⟨if_pos hi, if_pos hi⟩
  have o2 : ∀ i, n < i → q.length = 0 → out i = P.take n ++ (P.take i).drop (n + 1) ∧ av i = -2 := fun i hi h0 => ⟨(if_neg (by omega)).trans (if_pos h0), (if_neg (by omega)).trans (if_pos h0)⟩
  have o3 : ∀ i, n < i → ¬ q.length = 0 → out i = P.take n ++ q :: (P.take i).drop (n + 1) ∧ av i = (n : Int) := fun i hi h0 => ⟨(if_neg (by omega)).trans (if_neg h0), (if_neg (by omega)).trans (if_neg h0)⟩
  have ol : ∀ i, (out i).length ≤ 2000 := by
    intro i
    by_cases hi : i ≤ n
    · rw [(o1 i hi).1, List.length_take]; omega
    · by_cases h0 : q.length = 0
      · rw [(o2 i (by omega) h0).1]; simp only [List.length_append, List.length_take, List.length_drop]; omega
      · rw [(o3 i (by omega) h0).1]; simp only [List.length_append, List.length_cons, List.length_take, List.length_drop]; omega
  refine theC_eq (Comes.next (c' := .L1 (out 0) (av 0) ((0 : Nat) : Int)) ?_ ?_)
  · rw [(o1 0 (by omega)).1, (o1 0 (by omega)).2]; rfl
  refine Comes.uptoC (step := step_ref48_Drop P r.fSum r.fEpoch) (fun i => .L1 (out i) (av i) (i : Int)) P.length ?_ ?_
  · intro i hi hnx
    have hol := ol i
    by_cases hin : i = n
    · subst hin
      obtain ⟨e1, e2⟩ := o1 i (Nat.le_refl _)
      have em : (m : Int) + 1 = ((m + 1 : Nat) : Int) := by omega
      have hqq : (idx P (i : Int)).take m ++ (idx P (i : Int)).drop (m + 1) = q := hq
      have hstep : ∀ c, (bif decide (((q).length : Int) = 0) then some (Sum.inl (C_ref48_Drop.L1 (P.take i) (-2) ((i : Int) + 1)) : C_ref48_Drop ⊕ List (List Row)) else some (.inl (.J2 (P.take i) ((P.take i).length : Int) (i : Int) q))) = some (.inl c) → step_ref48_Drop P r.fSum r.fEpoch (.L1 (out i) (av i) (i : Int)) = some (.inl c) := by
        intro c hc
        rw [e1, e2]
        simp only [step_ref48_Drop, List.nil_append]
        rw [decide_eq_true (by omega), cond_true, gO_pos (by omega), hFn, Option.bind_some, gO_pos (by omega), decide_eq_true (by omega), cond_true, em, gO_pos (by omega), gO_pos (by omega), gO_pos (by simp only [List.length_nil]; rw [sub_pre, List.length_take]; omega), gO_pos (by omega), gO_pos (by unfold inI; omega), gO_pos (by omega), sub_pre, sub_suf, gO_pos (by rw [List.length_take, List.length_drop]; omega), ← hc]
        by_cases h0 : (q.length : Int) = 0
        · rw [decide_eq_true (show (((idx P (i : Int)).take m ++ (idx P (i : Int)).drop (m + 1)).length : Int) = 0 by rw [hqq]; exact h0), decide_eq_true h0, cond_true, cond_true, gO_pos (by unfold inI; omega)]
        · rw [decide_eq_false (show ¬ (((idx P (i : Int)).take m ++ (idx P (i : Int)).drop (m + 1)).length : Int) = 0 by rw [hqq]; exact h0), decide_eq_false h0, cond_false, cond_false, hqq]
      by_cases h0 : q.length = 0
      · obtain ⟨f1, f2⟩ := o2 (i + 1) (by omega) h0
        rw [drop_take_nil, List.append_nil] at f1
        refine Comes.next (hstep (.L1 (P.take i) (-2) ((i : Int) + 1)) ?_) ?_
        · rw [decide_eq_true (by omega), cond_true]
        · rw [f1, f2] at hnx; exact hnx
      · obtain ⟨f1, f2⟩ := o3 (i + 1) (by omega) h0
        rw [drop_take_nil] at f1
        refine Comes.next (hstep (.J2 (P.take i) ((P.take i).length : Int) (i : Int) q) ?_) (Comes.next (c' := .L1 (out (i + 1)) (av (i + 1)) ((i + 1 : Nat) : Int)) ?_ hnx)
        · rw [decide_eq_false (by omega), cond_false]
        · rw [f1, f2]
          have hl : (P.take i).length = i := by rw [List.length_take]; omega
          simp only [step_ref48_Drop]
          rw [hl, gO_pos (by simp only [List.length_singleton]; omega), gO_pos (by unfold inI; omega)]
          rfl
    · have hnx2 : out (i + 1) = out i ++ [idx P (i : Int)] ∧ av (i + 1) = av i := by
        rcases Nat.lt_or_ge i n with hlt | hge
        · obtain ⟨f1, f2⟩ := o1 i (by omega)
          obtain ⟨g1, g2⟩ := o1 (i + 1) (by omega)
          exact ⟨by rw [g1, f1, take_idx P hi], by rw [g2, f2]⟩
        · by_cases h0 : q.length = 0
          · obtain ⟨f1, f2⟩ := o2 i (by omega) h0
            obtain ⟨g1, g2⟩ := o2 (i + 1) (by omega) h0
            exact ⟨by rw [g1, f1, drop_take_succ P (by omega) hi, List.append_assoc], by rw [g2, f2]⟩
          · obtain ⟨f1, f2⟩ := o3 i (by omega) h0
            obtain ⟨g1, g2⟩ := o3 (i + 1) (by omega) h0
            exact ⟨by rw [g1, f1, drop_take_succ P (by omega) hi, List.append_assoc]; rfl, by rw [g2, f2]⟩
      refine Comes.next (c' := .J2 (out i) (av i) (i : Int) (idx P (i : Int))) ?_ (Comes.next (c' := .L1 (out (i + 1)) (av (i + 1)) ((i + 1 : Nat) : Int)) ?_ hnx)
      · simp only [step_ref48_Drop]
        rw [decide_eq_true (by omega), cond_true, gO_pos (by omega), hFo i hi hin, Option.bind_some, gO_pos (by omega), decide_eq_false (by omega), cond_false]
      · rw [hnx2.1, hnx2.2]
        simp only [step_ref48_Drop]
        rw [gO_pos (by simp only [List.length_singleton]; omega), gO_pos (by unfold inI; omega)]
        rfl
  · by_cases h0 : q.length = 0
    · obtain ⟨f1, f2⟩ := o2 P.length a1 h0
      show Comes (step_ref48_Drop P r.fSum r.fEpoch) (.L1 (out P.length) (av P.length) (P.length : Int)) _
      rw [f1, f2, if_pos h0, List.take_length]
      refine Comes.stop ?_
      simp only [step_ref48_Drop]
      rw [decide_eq_false (by omega), cond_false, show decide ((0 : Int) ≤ -2) = false from rfl, show decide ((0 : Int) < -2) = false from rfl]
      simp only [Bool.false_and]
      rw [gO_pos (fun h => by cases h), gO_pos (fun h => by cases h), gO_pos (fun h => by cases h), gO_pos (fun h => by cases h), gO_pos (fun h => by cases h), cond_false, gO_pos (fun h => by cases h), gO_pos (fun h => by cases h), gO_pos (fun h => by cases h), gO_pos (fun h => by cases h), cond_false]
    · obtain ⟨f1, f2⟩ := o3 P.length a1 h0
      have hqn : q ≠ [] := fun e => h0 (by rw [e]; rfl)
      have hQ := c1 hqn
      show Comes (step_ref48_Drop P r.fSum r.fEpoch) (.L1 (out P.length) (av P.length) (P.length : Int)) _
      rw [f1, f2, if_neg h0, List.take_length]
      have hnl : n < (P.take n ++ q :: P.drop (n + 1)).length := by simp; omega
      have hQl : (P.take n ++ q :: P.drop (n + 1)).length ≤ 1000 := by simp only [List.length_append, List.length_cons, List.length_take, List.length_drop]; omega
      generalize P.take n ++ q :: P.drop (n + 1) = Q at *
      refine Comes.stop ?_
      have e1 : (n : Int) + 1 = ((n + 1 : Nat) : Int) := by omega
      have lA := hQ.le _ (idx_mem Q hnl)
      have lB : ∀ (hk : n + 1 < Q.length), (idx Q ((n + 1 : Nat) : Int)).length ≤ 8 := fun hk => hQ.le _ (idx_mem Q hk)
      have hg : ((decide ((0 : Int) ≤ (n : Int)) && decide (((n + 1 : Nat) : Int) < (Q.length : Int))) == true) = true → n + 1 < Q.length := by
        intro hh
        simp only [beq_iff_eq, Bool.and_eq_true, decide_eq_true_eq] at hh
        omega
      simp only [step_ref48_Drop]
      rw [e1, decide_eq_false (by omega), cond_false, gO_pos (fun _ => by unfold inI; omega), gO_pos (fun _ => by omega), gO_pos (fun _ => by unfold inI; omega), gO_pos (fun hh => by have := hg hh; omega), gO_pos (fun hh => by have := lB (hg hh); unfold inI; omega)]
      unfold joinP
      by_cases hc : n + 1 < Q.length ∧ (idx Q (n : Int)).length + (idx Q ((n + 1 : Nat) : Int)).length ≤ 8
      · rw [if_pos hc, decide_eq_true (by omega), decide_eq_true (by omega), decide_eq_true (by omega), Bool.and_self, Bool.and_self, cond_true, Rjoin_ok hQ hc.1 hQl]; rfl
      · have hf : ((decide ((0 : Int) ≤ (n : Int)) && decide (((n + 1 : Nat) : Int) < (Q.length : Int))) && decide (((idx Q (n : Int)).length : Int) + ((idx Q ((n + 1 : Nat) : Int)).length : Int) ≤ 8)) = false := by
          rw [Bool.eq_false_iff]
          intro hh
          simp only [Bool.and_eq_true, decide_eq_true_eq] at hh
          exact hc ⟨by omega, by omega⟩
        rw [if_neg hc, hf, cond_false]
        by_cases hz : n = 0
        · subst hz
          rw [if_neg (by omega), show decide ((0 : Int) < ((0 : Nat) : Int)) = false from rfl, gO_pos (fun h => by cases h), gO_pos (fun h => by cases h), gO_pos (fun h => by cases h), gO_pos (fun h => by cases h), Bool.false_and, cond_false]
        · have m1 : (n : Int) - 1 = ((n - 1 : Nat) : Int) := by omega
          have lC := hQ.le _ (idx_mem Q (show n - 1 < Q.length by omega))
          rw [m1, gO_pos (fun _ => by omega), gO_pos (fun _ => by unfold inI; omega), gO_pos (fun _ => by omega), gO_pos (fun _ => by unfold inI; omega), show decide ((0 : Int) < (n : Int)) = true from decide_eq_true (by omega), Bool.true_and]
          by_cases hd : 0 < n ∧ (idx Q ((n - 1 : Nat) : Int)).length + (idx Q (n : Int)).length ≤ 8
          · rw [if_pos hd, decide_eq_true (by omega), cond_true, gO_pos (by unfold inI; omega), Rjoin_ok hQ (by omega) hQl]; rfl
          · rw [if_neg hd, decide_eq_false (by omega), cond_false]
end Go.Proofs.Ytoeppofkmcdknaa.K
