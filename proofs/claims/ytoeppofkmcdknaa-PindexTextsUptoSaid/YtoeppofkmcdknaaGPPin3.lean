import Derived.Test.YtoeppofkmcdknaaGPPin2
/- ref48, and what an index tells: the plain answers. -/
namespace Go.Proofs.Ytoeppofkmcdknaa.K
open Go
set_option linter.unusedVariables false
set_option linter.unusedSimpArgs false
theorem flat_leN {α β : Type} (f : α → List β) (b : Nat) : ∀ l : List α, (∀ k ∈ l, (f k).length ≤ b) → (l.flatMap f).length ≤ l.length * b
  | [], _ => by simp
  | x :: r, h => by
    have h1 := flat_leN f b r fun k hk => h k (List.mem_cons_of_mem _ hk)
    have h2 := h x (List.mem_cons_self ..)
    rw [List.flatMap_cons, List.length_append, List.length_cons, Nat.succ_mul]
    omega
def tB (s : List UInt8) : List UInt8 := leB s.length 4 ++ s
theorem tB_len (s : List UInt8) : (tB s).length = 4 + s.length := by simp [tB]
theorem Texts1_ok (s acc : List UInt8) (h : s.length ≤ 10000000) (ha : acc.length ≤ 100000000000000) : g_wide_Texts_1 s acc = some ((), acc ++ tB s) := by
  unfold g_wide_Texts_1
  rw [show (4 : Int) = ((4 : Nat) : Int) from rfl, Num_ok _ 4 (by omega), Option.bind_some, gO_pos (by simp only [leB_len]; omega), gO_pos (by simp only [List.length_append, leB_len]; omega), ofInt_nat, Nat.mod_eq_of_lt (by omega)]
  unfold tB
  rw [List.append_assoc]
theorem TextsL_ok (l : List (List UInt8)) (hs : ∀ s ∈ l, s.length ≤ 600000) (hl : l.length ≤ 100000000) : g_wide_Texts l = some (l.flatMap tB) := by
  refine theC_eq (Comes.next (c' := .L1 ((0 : Nat) : Int) ((l.take 0).flatMap tB)) rfl ?_)
  refine Comes.upto (step := step_wide_Texts l) (fun i => .L1 (i : Int) ((l.take i).flatMap tB)) l.length ?_ ?_
  · intro i hi
    have h1 := flat_leN tB 600004 (l.take i) (fun k hk => by have := hs k (List.mem_of_mem_take hk); rw [tB_len]; omega)
    have h2 : (l.take i).length ≤ 100000000 := by rw [List.length_take]; omega
    have h3 := Nat.mul_le_mul_right 600004 h2
    simp only [step_wide_Texts]
    rw [decide_eq_true (by omega), cond_true, gO_pos (by omega), Texts1_ok _ _ (by have := hs _ (idx_mem l hi); omega) (by omega), Option.bind_some, gO_pos (by unfold inI; omega), take_idx l hi, List.flatMap_append]
    simp
  · refine Comes.stop ?_
    simp only [step_wide_Texts]
    rw [decide_eq_false (by omega), cond_false, List.take_length]
theorem putL_len {p : List Row} (h : mayB p = true) : (putL p).length ≤ 560321 := by
  have h1 := flat_take_len h p.length
  rw [List.take_length] at h1
  unfold putL
  rw [List.length_append, leB_len]; omega
def textP (P : List (List Row)) : List UInt8 := P.flatMap fun p => tB (putL p)
theorem map_flat (P : List (List Row)) : (P.map putL).flatMap tB = textP P := by unfold textP; rw [List.flatMap_map]
theorem Text48_ok {P : List (List Row)} (h : ∀ p ∈ P, mayB p = true) (hl : P.length ≤ 100000000) : g_pindex_Index_Text ⟨P⟩ = some (textP P, 0) := by
  refine theC_eq (Comes.next (c' := .L1 ((P.take 0).map putL) ((0 : Nat) : Int)) rfl ?_)
  refine Comes.upto (step := step_pindex_Index_Text ⟨P⟩) (fun i => .L1 ((P.take i).map putL) (i : Int)) P.length ?_ ?_
  · intro i hi
    have h2 : ((P.take i).map putL).length ≤ 100000000 := by rw [List.length_map, List.length_take]; omega
    simp only [step_pindex_Index_Text]
    rw [decide_eq_true (by omega), cond_true, gO_pos (by omega), Put_may (h _ (idx_mem P hi)), Option.bind_some]
    simp only []
    rw [decide_true, Bool.not_true, cond_false, gO_pos (by simp only [List.length_singleton]; omega), gO_pos (by unfold inI; omega), take_idx P hi, List.map_append]
    rfl
  · refine Comes.stop ?_
    have := TextsL_ok (P.map putL) (fun s hs => by
      obtain ⟨p, hp, rfl⟩ := List.mem_map.1 hs
      have := putL_len (h p hp); omega) (by rw [List.length_map]; omega)
    simp only [step_pindex_Index_Text]
    rw [decide_eq_false (by omega), cond_false, List.take_length, this, map_flat]
    rfl
theorem RText48_ok {P : List (List Row)} (h : ∀ p ∈ P, mayB p = true) (hl : P.length ≤ 100000) : g_ref48_Text P = some (textP P) := by
  refine theC_eq (Comes.next (c' := .L1 (textP (P.take 0)) ((0 : Nat) : Int)) rfl ?_)
  refine Comes.upto (step := step_ref48_Text P) (fun i => .L1 (textP (P.take i)) (i : Int)) P.length ?_ ?_
  · intro i hi
    have h0 := putL_len (h _ (idx_mem P hi))
    have h1 := flat_leN (fun p => tB (putL p)) 560325 (P.take i) (fun k hk => by have := putL_len (h k (List.mem_of_mem_take hk)); rw [tB_len]; omega)
    have h2 : (P.take i).length ≤ 100000 := by rw [List.length_take]; omega
    have h3 := Nat.mul_le_mul_right 560325 h2
    have h4 : (textP (P.take i)).length ≤ 100000 * 560325 := Nat.le_trans h1 h3
    have h5 := tB_len (putL (idx P (i : Int)))
    simp only [step_ref48_Text]
    rw [decide_eq_true (by omega), cond_true, gO_pos (by omega), RPut_may (h _ (idx_mem P hi)), Option.bind_some, RText_ok _ (by omega), Option.bind_some, show leB (putL (idx P (i : Int))).length 4 ++ putL (idx P (i : Int)) = tB (putL (idx P (i : Int))) from rfl, gO_pos (by omega), gO_pos (by unfold inI; omega), take_idx P hi]
    unfold textP
    rw [List.flatMap_append]
    simp
  · refine Comes.stop ?_
    simp only [step_ref48_Text]
    rw [decide_eq_false (by omega), cond_false, List.take_length]
theorem All48_ok (P : List (List Row)) (h1 : P.length ≤ 1000) (h2 : P.flatten.length ≤ 3000000) : g_pindex_Index_All ⟨P⟩ = some P.flatten := by
  unfold g_pindex_Index_All
  rw [Concat_ok P h1 h2]; rfl
theorem take_flat (P : List (List Row)) {i : Nat} (hi : i < P.length) : (P.take (i + 1)).flatten = (P.take i).flatten ++ idx P (i : Int) := by rw [take_idx P hi, List.flatten_append]; simp
theorem RAll48_ok (P : List (List Row)) (h1 : P.length ≤ 1000) (h2 : P.flatten.length ≤ 3000000) : g_ref48_All P = some P.flatten := by
  refine theC_eq (Comes.next (c' := .L1 (P.take 0).flatten ((0 : Nat) : Int)) rfl ?_)
  refine Comes.upto (step := step_ref48_All P) (fun i => .L1 (P.take i).flatten (i : Int)) P.length ?_ ?_
  · intro i hi
    have h3 := flat_take_le P (i + 1)
    rw [take_flat P hi, List.length_append] at h3
    simp only [step_ref48_All]
    rw [decide_eq_true (by omega), cond_true, gO_pos (by omega), gO_pos (by omega), gO_pos (by unfold inI; omega), take_flat P hi]
    rfl
  · refine Comes.stop ?_
    simp only [step_ref48_All]
    rw [decide_eq_false (by omega), cond_false, List.take_length]
theorem Pages_ok (P : List (List Row)) (h1 : P.length ≤ 1000) : g_pindex_Index_Pages ⟨P⟩ = some (P.map fun p => (p.length : Int)) := by
  refine theC_eq (Comes.next (c' := .L1 ((P.take 0).map fun p => (p.length : Int)) ((0 : Nat) : Int)) rfl ?_)
  refine Comes.upto (step := step_pindex_Index_Pages ⟨P⟩) (fun i => .L1 ((P.take i).map fun p => (p.length : Int)) (i : Int)) P.length ?_ ?_
  · intro i hi
    have h2 : ((P.take i).map fun p => (p.length : Int)).length ≤ 1000 := by rw [List.length_map, List.length_take]; omega
    simp only [step_pindex_Index_Pages]
    rw [decide_eq_true (by omega), cond_true, gO_pos (by omega), gO_pos (by simp only [List.length_singleton]; omega), gO_pos (by unfold inI; omega), take_idx P hi, List.map_append]
    rfl
  · refine Comes.stop ?_
    simp only [step_pindex_Index_Pages]
    rw [decide_eq_false (by omega), cond_false, List.take_length]
theorem RAt_ok {P : List (List Row)} (h : OKP P) (r : Row) (h1 : P.length ≤ 1000) : g_ref48_At P r = some ((atF P r : Nat) : Int) := by
  refine theC_eq (Comes.next (c' := .L1 ((atK P r 0 : Nat) : Int) ((0 : Nat) : Int)) rfl ?_)
  refine Comes.upto (step := step_ref48_At P r) (fun i => .L1 ((atK P r i : Nat) : Int) (i : Int)) P.length ?_ ?_
  · intro i hi
    have hne := List.length_pos_iff.2 (h.ne _ (idx_mem P hi))
    simp only [step_ref48_At]
    rw [decide_eq_true (by omega), cond_true, gO_pos (by omega), gO_pos (by omega), RLess_ok, Option.bind_some, atK]
    cases hc : ltR r (idx (idx P (i : Int)) (0 : Int)) with
    | true => rw [Bool.not_true, cond_false, Option.bind_some, gO_pos (by unfold inI; omega), if_pos rfl]; rfl
    | false => rw [Bool.not_false, cond_true, Option.bind_some, gO_pos (by unfold inI; omega), if_neg (by decide)]; rfl
  · refine Comes.stop ?_
    simp only [step_ref48_At]
    rw [decide_eq_false (by omega), cond_false]
    rfl
theorem drop_take_succ {α : Type} [Inhabited α] (P : List α) {n i : Nat} (hn : n < i) (hi : i < P.length) : (P.take (i + 1)).drop (n + 1) = (P.take i).drop (n + 1) ++ [idx P (i : Int)] := by
  rw [take_idx P hi, List.drop_append_of_le_length (by rw [List.length_take]; omega)]
theorem drop_take_nil {α : Type} (P : List α) (n : Nat) : (P.take (n + 1)).drop (n + 1) = [] := List.drop_eq_nil_of_le (by rw [List.length_take]; omega)
theorem sort1 {p : List Row} (hs : p.Pairwise LT) (r : Row) : (p ++ [r]).foldl insR [] = insR p r := by
  rw [List.foldl_append, fold_sorted p [] (by simpa using hs)]; rfl
theorem RPut48_ok {P : List (List Row)} (h : OKP P) (r : Row) (h1 : P.length ≤ 1000) : g_ref48_Put P r = some (putP P r) := by
  by_cases hP : P = []
  · subst hP
    refine theC_eq (Comes.stop ?_)
    simp only [step_ref48_Put]
    rfl
  · have hlen := List.length_pos_iff.2 hP
    have a1 := (atF_spec h r hP).1
    have hpm := idx_mem P a1
    have hput : putP P r = P.take (atF P r) ++ (splt (insR (idx P (atF P r : Int)) r) ++ P.drop (atF P r + 1)) := by unfold putP; rw [if_neg (by omega)]
    have hA := RAt_ok h r h1
    have hS := Sort_ok (idx P (atF P r : Int) ++ [r]) (by have := h.le _ hpm; simp; omega)
    rw [sort1 (h.page hpm) r] at hS
    have hil := ins_len (idx P (atF P r : Int)) r
    have h8 := h.le _ hpm
    rw [hput]
    generalize hn : atF P r = n at *
    generalize hq : insR (idx P (n : Int)) r = q at *
    have hspl : (splt q).length ≤ 2 := by unfold splt; split <;> simp
    refine theC_eq (Comes.next (c' := .L1 (n : Int) (P.take 0) ((0 : Nat) : Int)) ?_ ?_)
    · simp only [step_ref48_Put]
      rw [decide_eq_false (by omega), cond_false, hA]; rfl
    · have e0 : P.take 0 = (fun i : Nat => if i ≤ n then P.take i else P.take n ++ (splt q ++ (P.take i).drop (n + 1))) 0 := by show _ = if 0 ≤ n then _ else _; rw [if_pos (by omega)]
      rw [e0]
      refine Comes.upto (step := step_ref48_Put P r) (fun i => .L1 (n : Int) ((fun i : Nat => if i ≤ n then P.take i else P.take n ++ (splt q ++ (P.take i).drop (n + 1))) i) (i : Int)) P.length ?_ ?_
      · intro i hi
        show step_ref48_Put P r (.L1 (n : Int) (if i ≤ n then P.take i else P.take n ++ (splt q ++ (P.take i).drop (n + 1))) (i : Int)) = some (.inl (.L1 (n : Int) (if i + 1 ≤ n then P.take (i + 1) else P.take n ++ (splt q ++ (P.take (i + 1)).drop (n + 1))) ((i + 1 : Nat) : Int)))
        rcases Nat.lt_trichotomy i n with hc | hc | hc
        · rw [if_pos (by omega), if_pos (by omega), take_idx P hi]
          simp only [step_ref48_Put]
          rw [decide_eq_true (by omega), cond_true, decide_eq_false (by omega), Bool.not_false, cond_true, gO_pos (by omega), gO_pos (by simp only [List.length_singleton, List.length_take]; omega), Option.bind_some, gO_pos (by unfold inI; omega)]
          rfl
        · subst hc
          rw [if_pos (by omega), if_neg (by omega), drop_take_nil, List.append_nil]
          simp only [step_ref48_Put, List.nil_append]
          rw [decide_eq_true (by omega), cond_true, decide_true, Bool.not_true, cond_false, gO_pos (by omega), gO_pos (by simp only [List.length_nil]; omega), gO_pos (by simp only [List.length_singleton]; omega), hS, Option.bind_some]
          unfold splt
          by_cases h9 : 8 < q.length
          · rw [decide_eq_true (by omega), cond_true, gO_pos (by omega), gO_pos (by omega), gO_pos (by simp only [List.length_cons, List.length_nil, List.length_take]; omega), Option.bind_some, gO_pos (by unfold inI; omega), if_pos h9, show sub q (0 : Int) (5 : Int) = q.take 5 from sub_pre q 5, show sub q (5 : Int) (q.length : Int) = q.drop 5 from sub_suf q 5]
            rfl
          · rw [decide_eq_false (by omega), cond_false, gO_pos (by simp only [List.length_singleton, List.length_take]; omega), Option.bind_some, gO_pos (by unfold inI; omega), if_neg h9]
            rfl
        · rw [if_neg (by omega), if_neg (by omega), drop_take_succ P hc hi]
          simp only [step_ref48_Put]
          rw [decide_eq_true (by omega), cond_true, decide_eq_false (by omega), Bool.not_false, cond_true, gO_pos (by omega), gO_pos (by simp only [List.length_singleton, List.length_append, List.length_take, List.length_drop]; omega), Option.bind_some, gO_pos (by unfold inI; omega)]
          simp only [List.append_assoc]
          rfl
      · show Comes (step_ref48_Put P r) (.L1 (n : Int) (if P.length ≤ n then P.take P.length else P.take n ++ (splt q ++ (P.take P.length).drop (n + 1))) (P.length : Int)) _
        rw [if_neg (by omega), List.take_length]
        refine Comes.stop ?_
        simp only [step_ref48_Put]
        rw [decide_eq_false (by omega), cond_false]
end Go.Proofs.Ytoeppofkmcdknaa.K
