import Derived.Test.YthpgedneniekmaaAPPin
/- Package pindex and ref48: what they reckon is the plain answer. -/
namespace Go.Proofs.Ythpgedneniekmaa.K
open Go
set_option linter.unusedVariables false
set_option linter.unusedSimpArgs false
def neP (p : List Row) : Bool := decide (0 < p.length)
theorem filt_snoc {α : Type} (p : α → Bool) (l : List α) (x : α) : (l ++ [x]).filter p = l.filter p ++ (if p x = true then [x] else []) := by
  rw [List.filter_append, List.filter_cons]
  rfl
theorem with_ok (P : List (List Row)) (a b : Nat) (L : List (List Row)) (ha : a ≤ P.length) (hb : b ≤ P.length) (hP : P.length ≤ 100000) (hL : L.length ≤ 1000) : g_pindex_Index_with ⟨P⟩ (a : Int) (b : Int) L = some ⟨P.take a ++ L.filter neP ++ P.drop b⟩ := by
  refine theC_eq (Comes.next (c' := .L1 (P.take a ++ (L.take 0).filter neP) ((0 : Nat) : Int)) ?_ ?_)
  · simp only [step_pindex_Index_with]
    rw [gO_pos (by omega), sub_pre]
    unfold g_slices_Clone_LL_api_Row_api_Row
    rw [gO_pos (by simp only [List.length_nil, List.length_take]; omega)]
    simp
  · refine Comes.upto (step := step_pindex_Index_with ⟨P⟩ (a : Int) (b : Int) L) (fun i => .L1 (P.take a ++ (L.take i).filter neP) (i : Int)) L.length ?_ ?_
    · intro i hi
      have h1 := List.length_filter_le neP (L.take i)
      have h2 : (P.take a ++ (L.take i).filter neP).length ≤ 110000 := by
        rw [List.length_append]; simp only [List.length_take] at *; omega
      have e : (L.take (i + 1)).filter neP = (L.take i).filter neP ++ (if neP (idx L (i : Int)) = true then [idx L (i : Int)] else []) := by rw [take_idx L hi, filt_snoc]
      simp only [step_pindex_Index_with]
      rw [decide_eq_true (by omega), cond_true, gO_pos (by omega), e]
      by_cases hc : 0 < (idx L (i : Int)).length
      · have hn : neP (idx L (i : Int)) = true := decide_eq_true hc
        rw [decide_eq_true (by omega), cond_true, gO_pos (by simp only [List.length_singleton]; omega), gO_pos (by unfold inI; omega), if_pos hn, List.append_assoc]
        rfl
      · have hn : neP (idx L (i : Int)) = false := decide_eq_false hc
        rw [decide_eq_false (by omega), cond_false, gO_pos (by unfold inI; omega), hn, if_neg (by decide), List.append_nil]
        rfl
    · have h1 := List.length_filter_le neP L
      refine Comes.stop ?_
      simp only [step_pindex_Index_with]
      rw [decide_eq_false (by omega), cond_false, gO_pos (by omega), sub_suf, List.take_of_length_le (Nat.le_refl _), gO_pos (by rw [List.length_append]; simp only [List.length_take, List.length_drop]; omega)]
theorem IndexLL (v : List (List Row)) (f : List Row → Option Bool) (p : List Row → Bool) (hf : ∀ y ∈ v, f y = some (p y)) (hv : v.length ≤ 1000000000) : ∃ r, g_slices_IndexFunc_LL_api_Row_api_Row v f = some r ∧ ((∃ i : Nat, r = (i : Int) ∧ i < v.length ∧ p (idx v (i : Int)) = true ∧ ∀ j, j < i → p (idx v (j : Int)) = false) ∨ (r = -1 ∧ ∀ i, i < v.length → p (idx v (i : Int)) = false)) := by
  have hq : ∀ i, i < v.length → f (idx v (i : Int)) = some (p (idx v (i : Int))) := fun i hi => hf _ (idx_mem v hi)
  obtain ⟨r, hr, h⟩ := Comes.ex (step := step_slices_IndexFunc_LL_api_Row_api_Row v f) (fun i => .L1 (i : Int)) (fun i => p (idx v (i : Int))) v.length (fun i => (i : Int)) (-1) (by
      intro i hi h
      simp only [step_slices_IndexFunc_LL_api_Row_api_Row]
      rw [decide_eq_true (by omega), cond_true, gO_pos (by omega), hq i hi, Option.bind_some, h, cond_false, gO_pos (by unfold inI; omega)]
      rfl) (by
      intro i hi h
      simp only [step_slices_IndexFunc_LL_api_Row_api_Row]
      rw [decide_eq_true (by omega), cond_true, gO_pos (by omega), hq i hi, Option.bind_some, h, cond_true]) (by
      refine Comes.stop ?_
      simp only [step_slices_IndexFunc_LL_api_Row_api_Row]
      rw [decide_eq_false (by omega), cond_false])
  refine ⟨r, theC_eq (Comes.next rfl hr), ?_⟩
  rcases h with ⟨i, hi, h1, h2, rfl⟩ | ⟨h1, rfl⟩
  · exact .inl ⟨i, rfl, hi, h1, h2⟩
  · exact .inr ⟨rfl, h1⟩
theorem at1_ok {p : List Row} (r : Row) (h : p ≠ []) : g_pindex_Index_at_1 p r = some (ltR r (fst p)) := by
  have := List.length_pos_iff.2 h
  unfold g_pindex_Index_at_1
  rw [gO_pos (by omega), Less_ok]; rfl
theorem at_ok {P : List (List Row)} (h : OKP P) (r : Row) (hP : P ≠ []) (hl : P.length ≤ 100000) : g_pindex_Index_at ⟨P⟩ r = some ((atF P r : Nat) : Int) := by
  obtain ⟨x, hx, hc⟩ := IndexLL P (fun y0 => g_pindex_Index_at_1 y0 r) (fun p => ltR r (fst p)) (fun p hp => at1_ok r (h.ne p hp)) (by omega)
  obtain ⟨a1, a2, a3, a4⟩ := atF_spec h r hP
  generalize atF P r = n at *
  unfold g_pindex_Index_at
  simp only []
  rw [hx, Option.bind_some]
  rcases hc with ⟨i, rfl, hi, h1, h2⟩ | ⟨rfl, h1⟩
  · rw [decide_eq_false (by omega), cond_false, Option.bind_some, gO_pos (by unfold inI; omega)]
    have : i = n + 1 ∨ (i = 0 ∧ n = 0) := by
      rcases Nat.lt_trichotomy i n with hlt | heq | hgt
      · rw [a2 i hlt] at h1; cases h1
      · rcases a3 with a3 | a3
        · exact .inr ⟨by omega, a3⟩
        · rw [heq, a3] at h1; cases h1
      · rcases Nat.lt_or_ge (n + 1) i with h5 | h5
        · have := a4 (n + 1) (by omega) (by omega)
          rw [LT, h2 (n + 1) h5] at this; cases this
        · exact .inl (by omega)
    unfold maxI
    split <;> congr 1 <;> omega
  · have hn : n + 1 = P.length := by
      rcases Nat.lt_or_ge (n + 1) P.length with h5 | h5
      · have := a4 (n + 1) (by omega) h5
        rw [LT, h1 (n + 1) h5] at this; cases this
      · omega
    rw [decide_eq_true (by omega), cond_true, Option.bind_some, gO_pos (by unfold inI; omega)]
    unfold maxI
    split <;> congr 1 <;> omega
theorem may1 (r : Row) : mayB [r] = okRow r := by
  unfold mayB rises
  simp
theorem there_nil (r : Row) : there [] r = false := by
  unfold there
  rw [decide_eq_false (by simp), Bool.false_and]
theorem filt1 {p : List Row} (h : p ≠ []) : [p].filter neP = [p] := by
  have : neP p = true := decide_eq_true (List.length_pos_iff.2 h)
  rw [List.filter_cons, if_pos this]; rfl
theorem filt0 : ([[]] : List (List Row)).filter neP = [] := rfl
theorem Put48_ok {P : List (List Row)} (h : OKP P) (r : Row) (hl : P.flatten.length ≤ 100000) : g_pindex_Index_Put ⟨P⟩ r = some (if (okRow r && !there P.flatten r) = true then (⟨putP P r⟩, true) else (⟨P⟩, false)) := by
  have hpl := pages_le h.ne
  unfold g_pindex_Index_Put
  rw [Check_ok [r] (by simp), may1, Option.bind_some]
  cases hr : okRow r with
  | false => simp
  | true =>
    rw [cond_true, show (!decide ((0 : Int) = 0)) = false from rfl, cond_false, Bool.true_and]
    simp only []
    by_cases hP : P = []
    · subst hP
      have := with_ok [] 0 0 [[r]] (by simp) (by simp) (by simp) (by simp)
      rw [show decide (((([] : List (List Row)).length : Nat) : Int) = 0) = true from rfl, cond_true, show g_pindex_Index_with ⟨[]⟩ 0 0 [[r]] = _ from this, filt1 (by simp)]
      rfl
    · have hlen := List.length_pos_iff.2 hP
      have a1 := (atF_spec h r hP).1
      have hpm := idx_mem P a1
      have hI := Insert_ok (rises_iff.2 (h.page hpm)) (by have := h.le _ hpm; omega) r
      have hth := there_flat h r hP
      have e1 : ((atF P r : Nat) : Int) + 1 = ((atF P r + 1 : Nat) : Int) := by omega
      rw [decide_eq_false (by omega), cond_false, at_ok h r hP (by omega), Option.bind_some, gO_pos (by omega), hI, Option.bind_some, hth]
      cases ht : there (idx P (atF P r : Int)) r with
      | true => rfl
      | false =>
        have hpne := ins_ne r (h.ne _ hpm)
        have hil := ins_len (idx P (atF P r : Int)) r
        have h8 := h.le _ hpm
        rw [Bool.not_false, Bool.not_true, cond_false, if_pos rfl]
        simp only []
        have hput : putP P r = P.take (atF P r) ++ (splt (insR (idx P (atF P r : Int)) r) ++ P.drop (atF P r + 1)) := by unfold putP; rw [if_neg (by omega)]
        rw [hput]
        generalize insR (idx P (atF P r : Int)) r = q at *
        by_cases hq : 8 < q.length
        · have hS := Split_ok q (by omega)
          have e5 : q.length - q.length / 2 = 5 := by omega
          rw [e5] at hS
          have hw := with_ok P (atF P r) (atF P r + 1) [q.take 5, q.drop 5] (by omega) (by omega) (by omega) (by simp)
          have n1 : neP (q.take 5) = true := decide_eq_true (by rw [List.length_take]; omega)
          have n2 : neP (q.drop 5) = true := decide_eq_true (by rw [List.length_drop]; omega)
          have ef : [q.take 5, q.drop 5].filter neP = [q.take 5, q.drop 5] := by
            rw [List.filter_cons, if_pos n1, List.filter_cons, if_pos n2]; rfl
          rw [ef] at hw
          rw [decide_eq_true (by omega), cond_true, hS, Option.bind_some, gO_pos (by unfold inI; omega), e1, hw]
          unfold splt
          rw [if_pos hq, List.append_assoc]; rfl
        · have hw := with_ok P (atF P r) (atF P r + 1) [q] (by omega) (by omega) (by omega) (by simp)
          rw [filt1 hpne] at hw
          rw [decide_eq_false (by omega), cond_false, gO_pos (by unfold inI; omega), e1, hw]
          unfold splt
          rw [if_neg hq, List.append_assoc]; rfl
theorem atK_key (P : List (List Row)) (r : Row) : ∀ k, atK P (keyR r.fSum r.fEpoch) k = atK P r k
  | 0 => rfl
  | k + 1 => by
    rw [atK, atK, atK_key P r k, show ltR (keyR r.fSum r.fEpoch) (fst (idx P (k : Int))) = ltR r (fst (idx P (k : Int))) from rfl]
theorem find_ok {P : List (List Row)} (h : OKP P) (r : Row) (hl : P.flatten.length ≤ 100000) : g_pindex_Index_find ⟨P⟩ r.fSum r.fEpoch = some (if P.length = 0 then ((0 : Int), (0 : Int), false) else (((atF P r : Nat) : Int), ((pos (idx P (atF P r : Int)) r : Nat) : Int), there P.flatten r)) := by
  have hpl := pages_le h.ne
  unfold g_pindex_Index_find
  simp only []
  by_cases hP : P = []
  · subst hP; rfl
  · have hlen := List.length_pos_iff.2 hP
    have a1 := (atF_spec h r hP).1
    have hpm := idx_mem P a1
    have hat := at_ok h (keyR r.fSum r.fEpoch) hP (by omega)
    rw [show atF P (keyR r.fSum r.fEpoch) = atF P r from atK_key P r _] at hat
    have hF := Find_ok (rises_iff.2 (h.page hpm)) (by have := h.le _ hpm; omega) r
    rw [if_neg (by omega), decide_eq_false (by omega), cond_false, show (⟨r.fSum, r.fEpoch, []⟩ : Row) = keyR r.fSum r.fEpoch from rfl, hat, Option.bind_some, gO_pos (by omega), hF, there_flat h r hP]
    rfl
noncomputable def jn (Q : List (List Row)) (v k : Int) : Option (C_pindex_Index_joined ⊕ Index) :=
  bif decide (v < (2 : Int)) then
    gO (0 ≤ v ∧ v < (2 : Int)) (
    gO ((decide ((0 : Int) ≤ k)) = true → inI (k + (1 : Int))) (
    gO ((((decide ((0 : Int) ≤ k)) && (decide ((k + (1 : Int)) < (Q.length : Int)))) == true) = true → 0 ≤ k ∧ k < (Q.length : Int)) (
    gO ((((decide ((0 : Int) ≤ k)) && (decide ((k + (1 : Int)) < (Q.length : Int)))) == true) = true → inI (k + (1 : Int))) (
    gO ((((decide ((0 : Int) ≤ k)) && (decide ((k + (1 : Int)) < (Q.length : Int)))) == true) = true → 0 ≤ (k + (1 : Int)) ∧ (k + (1 : Int)) < (Q.length : Int)) (
    gO ((((decide ((0 : Int) ≤ k)) && (decide ((k + (1 : Int)) < (Q.length : Int)))) == true) = true → inI (((idx Q k).length : Int) + ((idx Q (k + (1 : Int))).length : Int))) (
    (bif (((decide ((0 : Int) ≤ k)) && (decide ((k + (1 : Int)) < (Q.length : Int)))) && (decide ((((idx Q k).length : Int) + ((idx Q (k + (1 : Int))).length : Int)) ≤ (8 : Int)))) then
    gO (inI (k + (2 : Int))) (
    gO (0 ≤ k ∧ k < (Q.length : Int)) (
    gO (inI (k + (1 : Int))) (
    gO (0 ≤ (k + (1 : Int)) ∧ (k + (1 : Int)) < (Q.length : Int)) (
    ((g_slices_Concat_api_Row_api_Row ([(idx Q k), (idx Q (k + (1 : Int)))] : List (List Row))).bind fun (x_15 : (List Row)) =>
    ((g_pindex_Index_with ⟨Q⟩ k (k + (2 : Int)) ([x_15] : List (List Row))).bind fun (x_17 : Index) =>
    some (.inr x_17)))))))
    else
    gO (inI (v + (1 : Int))) (
    some (.inl (.L1 (v + (1 : Int))))))))))))
  else some (.inr ⟨Q⟩)
theorem jn_step (Q : List (List Row)) (n v : Int) : step_pindex_Index_joined ⟨Q⟩ n (.L1 v) = jn Q v (idx ([n, n - 1] : List Int) v) := rfl
theorem jn_yes {Q : List (List Row)} (h : OKP Q) (hl : Q.flatten.length ≤ 100000) {v : Int} (hv : 0 ≤ v ∧ v < 2) {k : Nat} (hk : k + 1 < Q.length) (h8 : (idx Q (k : Int)).length + (idx Q ((k + 1 : Nat) : Int)).length ≤ 8) : jn Q v (k : Int) = some (.inr ⟨mrg Q k⟩) := by
  have hpl := pages_le h.ne
  have e1 : (k : Int) + 1 = ((k + 1 : Nat) : Int) := by omega
  have e2 : (k : Int) + 2 = ((k + 2 : Nat) : Int) := by omega
  have hne : idx Q (k : Int) ++ idx Q ((k + 1 : Nat) : Int) ≠ [] := by simp [h.ne _ (idx_mem Q (show k < Q.length by omega))]
  have hC := Concat_ok [idx Q (k : Int), idx Q ((k + 1 : Nat) : Int)] (by simp) (by simp only [List.flatten_cons, List.flatten_nil, List.length_append, List.length_nil]; omega)
  have hw := with_ok Q k (k + 2) [idx Q (k : Int) ++ idx Q ((k + 1 : Nat) : Int)] (by omega) (by omega) (by omega) (by simp)
  rw [filt1 hne, List.append_assoc] at hw
  unfold jn
  rw [e1, e2]
  generalize hB : idx Q ((k + 1 : Nat) : Int) = B at *
  generalize hA : idx Q (k : Int) = A at *
  rw [decide_eq_true (by omega), cond_true, gO_pos (by omega), gO_pos (fun _ => by unfold inI; omega), gO_pos (fun _ => by omega), gO_pos (fun _ => by unfold inI; omega), gO_pos (fun _ => by omega), gO_pos (fun _ => by unfold inI; omega),
    show decide ((0 : Int) ≤ (k : Int)) = true from decide_eq_true (by omega), show decide (((k + 1 : Nat) : Int) < (Q.length : Int)) = true from decide_eq_true (by omega), show decide ((A.length : Int) + (B.length : Int) ≤ 8) = true from decide_eq_true (by omega), Bool.and_self, Bool.and_self, cond_true, gO_pos (by unfold inI; omega), gO_pos (by omega), gO_pos (by unfold inI; omega), gO_pos (by omega), hC, Option.bind_some,
    show [A, B].flatten = A ++ B by simp, hw, Option.bind_some]
  unfold mrg
  rw [hA, hB]
  rfl
theorem jn_no {Q : List (List Row)} (h : OKP Q) (hl : Q.flatten.length ≤ 100000) {v : Int} (hv : 0 ≤ v ∧ v < 2) {k : Int} (hk : -1 ≤ k ∧ k ≤ 100000) (hc : ¬ (0 ≤ k ∧ k + 1 < (Q.length : Int) ∧ (idx Q k).length + (idx Q (k + 1)).length ≤ 8)) : jn Q v k = some (.inl (.L1 (v + 1))) := by
  have hg : ((decide ((0 : Int) ≤ k) && decide (k + 1 < (Q.length : Int))) == true) = true → 0 ≤ k ∧ k + 1 < (Q.length : Int) := by
    intro hh
    simp only [beq_iff_eq, Bool.and_eq_true, decide_eq_true_eq] at hh
    exact hh
  have hb : 0 ≤ k ∧ k + 1 < (Q.length : Int) → (idx Q k).length ≤ 8 ∧ (idx Q (k + 1)).length ≤ 8 := by
    rintro ⟨h1, h2⟩
    obtain ⟨m, rfl⟩ : ∃ m : Nat, k = (m : Int) := ⟨k.toNat, by omega⟩
    rw [show (m : Int) + 1 = ((m + 1 : Nat) : Int) by omega]
    exact ⟨h.le _ (idx_mem Q (by omega)), h.le _ (idx_mem Q (by omega))⟩
  have hf : ((decide ((0 : Int) ≤ k) && decide (k + 1 < (Q.length : Int))) && decide (((idx Q k).length : Int) + ((idx Q (k + 1)).length : Int) ≤ 8)) = false := by
    rw [Bool.eq_false_iff]
    intro hh
    simp only [Bool.and_eq_true, decide_eq_true_eq] at hh
    exact hc ⟨by omega, by omega, by omega⟩
  unfold jn
  rw [decide_eq_true (by omega), cond_true, gO_pos (by omega), gO_pos (fun _ => by unfold inI; omega), gO_pos (fun hh => by have := hg hh; omega), gO_pos (fun _ => by unfold inI; omega), gO_pos (fun hh => by have := hg hh; omega), gO_pos (fun hh => by have := hb (hg hh); unfold inI; omega), hf, cond_false, gO_pos (by unfold inI; omega)]
theorem joined_ok {Q : List (List Row)} (h : OKP Q) {n : Nat} (hn : n < Q.length) (hl : Q.flatten.length ≤ 100000) : g_pindex_Index_joined ⟨Q⟩ (n : Int) = some ⟨joinP Q n⟩ := by
  have hpl := pages_le h.ne
  have e1 : (n : Int) + 1 = ((n + 1 : Nat) : Int) := by omega
  refine theC_eq (Comes.next (c' := .L1 0) ?_ ?_)
  · simp only [step_pindex_Index_joined]
    rw [gO_pos (by unfold inI; omega)]
  · unfold joinP
    by_cases hc : n + 1 < Q.length ∧ (idx Q (n : Int)).length + (idx Q ((n + 1 : Nat) : Int)).length ≤ 8
    · rw [if_pos hc]
      exact Comes.stop ((jn_step Q n 0).trans (jn_yes h hl (by omega) hc.1 hc.2))
    · rw [if_neg hc]
      refine Comes.next ((jn_step Q n 0).trans (jn_no h hl (k := (n : Int)) (by omega) (by omega) (fun hh => hc ⟨by omega, by rw [e1] at hh; exact hh.2.2⟩))) ?_
      by_cases hd : 0 < n ∧ (idx Q ((n - 1 : Nat) : Int)).length + (idx Q (n : Int)).length ≤ 8
      · rw [if_pos hd]
        have m1 : (n : Int) - 1 = ((n - 1 : Nat) : Int) := by omega
        have m4 : n - 1 + 1 = n := by omega
        refine Comes.stop ((jn_step Q n (0 + 1)).trans ?_)
        show jn Q (0 + 1) ((n : Int) - 1) = _
        rw [m1]
        exact jn_yes h hl (by omega) (by omega) (by rw [m4]; exact hd.2)
      · rw [if_neg hd]
        refine Comes.next ((jn_step Q n (0 + 1)).trans (jn_no h hl (k := (n : Int) - 1) (by omega) (by omega) (fun hh => hd ⟨by omega, ?_⟩))) (Comes.stop ((jn_step Q n (0 + 1 + 1)).trans ?_))
        · have := hh.2.2
          rw [show (n : Int) - 1 + 1 = (n : Int) by omega, show (n : Int) - 1 = ((n - 1 : Nat) : Int) by omega] at this
          exact this
        · unfold jn
          rw [decide_eq_false (by omega), cond_false]
theorem Drop48_ok {P : List (List Row)} (h : OKP P) (r : Row) (hl : P.flatten.length ≤ 100000) : g_pindex_Index_Drop ⟨P⟩ r.fSum r.fEpoch = some (if there P.flatten r = true then (⟨dropP P r⟩, true) else (⟨P⟩, false)) := by
  have hpl := pages_le h.ne
  unfold g_pindex_Index_Drop
  rw [find_ok h r hl, Option.bind_some]
  by_cases hP : P = []
  · subst hP
    rw [List.flatten_nil, there_nil]; rfl
  · have hlen := List.length_pos_iff.2 hP
    have a1 := (atF_spec h r hP).1
    rw [if_neg (by omega)]
    simp only []
    cases ht : there P.flatten r with
    | false => rfl
    | true =>
      have h2 := ht
      rw [there_flat h r hP] at h2
      obtain ⟨b1, b2, b3⟩ := there_iff.1 h2
      have hpm := idx_mem P a1
      have h8 := h.le _ hpm
      have e1 : ((atF P r : Nat) : Int) + 1 = ((atF P r + 1 : Nat) : Int) := by omega
      have hR := Remove_ok (idx P (atF P r : Int)) (by omega) ((pos (idx P (atF P r : Int)) r : Nat) : Int)
      rw [if_pos (by omega), Int.toNat_natCast] at hR
      have hw := with_ok P (atF P r) (atF P r + 1) [remR (idx P (atF P r : Int)) r] (by omega) (by omega) (by omega) (by simp)
      have hs := rem_sub (idx P (atF P r : Int)) r
      obtain ⟨c1, c2⟩ := cut_ok h a1 hs
      have fl := congrArg List.length (flat_at a1)
      simp only [List.length_append] at fl
      have hsl := hs.length_le
      rw [Bool.not_true, cond_false, gO_pos (by omega), hR, Option.bind_some, gO_pos (by unfold inI; omega), e1, if_pos rfl]
      rw [show (idx P (atF P r : Int)).take (pos (idx P (atF P r : Int)) r) ++ (idx P (atF P r : Int)).drop (pos (idx P (atF P r : Int)) r + 1) = remR (idx P (atF P r : Int)) r from rfl, hw, Option.bind_some]
      unfold dropP
      generalize remR (idx P (atF P r : Int)) r = q at *
      by_cases hq : q.length = 0
      · have hq0 := List.eq_nil_of_length_eq_zero hq
        subst hq0
        rw [decide_eq_true (by simp), cond_true, if_pos hq, filt0, List.append_nil]
      · have hqn : q ≠ [] := fun e => hq (by rw [e]; rfl)
        rw [decide_eq_false (by omega), cond_false, if_neg hq, filt1 hqn, List.append_assoc]
        have := joined_ok (c1 hqn) (n := atF P r) (by simp; omega) (by rw [List.flatten_append, List.flatten_cons, List.length_append, List.length_append]; omega)
        rw [show P.take (atF P r) ++ ([q] ++ P.drop (atF P r + 1)) = P.take (atF P r) ++ q :: P.drop (atF P r + 1) from rfl, this]
        rfl
end Go.Proofs.Ythpgedneniekmaa.K
