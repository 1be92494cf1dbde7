import Derived.Test.YtoeppofkmcdknaaPPage4
/- Layer 47: the laws are true. -/
namespace Go.Proofs.Ytoeppofkmcdknaa.K
open Go
set_option linter.unusedVariables false
set_option linter.unusedSimpArgs false

theorem rises_iff {l : List Row} : rises l = true ↔ l.Pairwise (fun a b => ltR a b = true) := by
  rw [List.pairwise_iff_getElem]
  constructor
  · intro h i j hi hj hij
    have := rises_lt' h hij hj
    rwa [idx_get l hi, idx_get l hj] at this
  · intro h
    unfold rises
    rw [List.all_eq_true]
    intro i hi
    have hi : i < l.length - 1 := by simpa using hi
    rw [idx_get l (by omega), idx_get l (by omega)]
    exact h i (i + 1) (by omega) (by omega) (by omega)
theorem there_iff {l : List Row} {r : Row} : there l r = true ↔ pos l r < l.length ∧ kN (idx l (pos l r : Int)) = kN r ∧ (idx l (pos l r : Int)).fEpoch = r.fEpoch := by
  unfold there
  rw [Bool.and_eq_true, decide_eq_true_eq, decide_eq_true_eq, ordR_zero]
theorem ins_rises {l : List Row} (hr : rises l = true) (r : Row) : rises (insR l r) = true := by
  unfold insR
  split
  · exact hr
  · rename_i ht
    have hp := pos_le l r
    have h0 := rises_iff.1 hr
    rw [rises_iff, List.pairwise_append]
    have hb : ∀ b ∈ l.drop (pos l r), ltR r b = true := by
      intro b hb
      obtain ⟨j, hj, rfl⟩ := List.mem_iff_getElem.1 hb
      have hj' : pos l r + j < l.length := by rw [List.length_drop] at hj; omega
      rw [List.getElem_drop, ← idx_get l hj']
      have h1 := pos_behind hr r (i := pos l r + j) (by omega) hj'
      have h2 := pos_at l r (by omega)
      rw [there_iff] at ht
      rw [ltR_false] at h1 h2
      rw [ltR_iff]
      rcases Nat.eq_zero_or_pos j with h3 | h3
      · subst h3
        rw [Nat.add_zero] at *
        omega
      · have h4 := ltR_iff.1 (rises_lt' hr (i := pos l r) (j := pos l r + j) (by omega) hj')
        omega
    refine ⟨h0.sublist (List.take_sublist _ _), List.pairwise_cons.2 ⟨hb, h0.sublist (List.drop_sublist _ _)⟩, ?_⟩
    intro a ha b hb'
    obtain ⟨i, hi, rfl⟩ := List.mem_iff_getElem.1 ha
    have hi' : i < pos l r := by rw [List.length_take] at hi; omega
    have h1 := ltR_iff.1 (pos_before l r hi')
    rw [List.getElem_take, ← idx_get l (by omega)]
    rcases List.mem_cons.1 hb' with rfl | hb'
    · exact pos_before l _ hi'
    · have h2 := ltR_iff.1 (hb b hb')
      rw [ltR_iff]; omega
theorem ins_len (l : List Row) (r : Row) : (insR l r).length ≤ l.length + 1 := by
  have hp := pos_le l r
  unfold insR
  split
  · omega
  · simp; omega

/-! ### The reference's order of rows -/
theorem Sort_ok (l : List Row) (hl : l.length ≤ 100000) : g_ref47_Sort l = some (l.foldl insR []) := by
  refine theC_eq (.next rfl ?_)
  have one : ∀ (out : List Row) (i : Nat) (res : List Row), i < l.length → out.length ≤ i → Comes (step_ref47_Sort l) (.L1 (insR out (idx l (i : Int))) ((i + 1 : Nat) : Int)) res → Comes (step_ref47_Sort l) (.L1 out (i : Int)) res := by
    intro out i res hi ho h
    have hp := pos_le out (idx l (i : Int))
    refine .next (c' := .L3 out (i : Int) 0) (by simp only [step_ref47_Sort]; rw [decide_eq_true (by omega), cond_true]) ?_
    refine Comes.upto (step := step_ref47_Sort l) (fun k => .L3 out (i : Int) (k : Int)) (pos out (idx l (i : Int))) (fun k hk => ?_) ?_
    · have hb := pos_before out (idx l (i : Int)) hk
      simp only [step_ref47_Sort]
      rw [gO_pos (fun _ => by omega), gO_pos (fun _ => by omega), decide_eq_true (show (k : Int) < (out.length : Int) by omega), show ((true == true) : Bool) = true from rfl, cond_true, RLess_ok, Option.bind_some, hb, Bool.and_self, cond_true, gO_pos (by unfold inI; omega)]
      rfl
    · refine .next (c' := .J2 (insR out (idx l (i : Int))) (i : Int)) ?_ (.next (c' := .L1 (insR out (idx l (i : Int))) ((i + 1 : Nat) : Int)) (by simp only [step_ref47_Sort]; rw [gO_pos (by unfold inI; omega)]; rfl) h)
      simp only [step_ref47_Sort]
      rw [gO_pos (fun h => by simp only [decide_eq_true_eq] at h; omega), gO_pos (fun _ => by omega)]
      have hth : ((decide ((pos out (idx l (i : Int)) : Int) < (out.length : Int)) && ((idx out (pos out (idx l (i : Int)) : Int)).fSum.1 == (idx l (i : Int)).fSum.1)) && decide ((idx out (pos out (idx l (i : Int)) : Int)).fEpoch = (idx l (i : Int)).fEpoch)) = there out (idx l (i : Int)) := by
        rw [Bool.eq_iff_iff, there_iff, Bool.and_eq_true, Bool.and_eq_true, decide_eq_true_eq, decide_eq_true_eq, beq_iff_eq, kN_eq, Subtype.ext_iff]
        constructor
        · rintro ⟨⟨h1, h2⟩, h3⟩; exact ⟨by omega, h2, h3⟩
        · rintro ⟨h1, h2, h3⟩; exact ⟨⟨by omega, h2⟩, h3⟩
      have hle : ∀ x : Option (C_ref47_Sort ⊕ List Row), (gO ((decide ((pos out (idx l (i : Int)) : Int) < (out.length : Int))) = true → 0 ≤ (pos out (idx l (i : Int)) : Int) ∧ (pos out (idx l (i : Int)) : Int) < (out.length : Int)) x) = x := fun x => gO_pos (fun h => by simp only [decide_eq_true_eq] at h; omega)
      have tail : ∀ y : Option (C_ref47_Sort ⊕ List Row), y = (bif there out (idx l (i : Int)) then some (.inl (.J2 out (i : Int))) else some (.inl (.J2 (out.take (pos out (idx l (i : Int))) ++ idx l (i : Int) :: out.drop (pos out (idx l (i : Int)))) (i : Int)))) → y = some (.inl (.J2 (insR out (idx l (i : Int))) (i : Int))) := by
        rintro y rfl
        unfold insR
        cases there out (idx l (i : Int)) <;> rfl
      refine tail _ ?_
      by_cases hc : pos out (idx l (i : Int)) < out.length
      · have ha := pos_at out (idx l (i : Int)) hc
        rw [decide_eq_true (show (pos out (idx l (i : Int)) : Int) < (out.length : Int) by omega)] at hth ⊢
        rw [show ((true == true) : Bool) = true from rfl, cond_true, RLess_ok, Option.bind_some, ha, Bool.and_false, cond_false, gO_pos (fun _ => by omega), gO_pos (fun _ => by omega), gO_pos (fun _ => by omega), gO_pos (fun _ => by omega), hth]
        congr 1
        rw [gO_pos (by omega), gO_pos (by simp [sub_pre]; omega), gO_pos (by omega), gO_pos (by simp [sub_pre]; omega), gO_pos (by omega), gO_pos (by simp [sub_pre, sub_suf]; omega), sub_pre, sub_suf]
        simp
      · rw [decide_eq_false (show ¬ (pos out (idx l (i : Int)) : Int) < (out.length : Int) by omega)] at hth ⊢
        rw [show ((false == true) : Bool) = false from rfl, cond_false, Option.bind_some, Bool.false_and, cond_false, gO_pos (fun h => by cases h), gO_pos (fun h => by cases h), gO_pos (fun h => by simp at h), gO_pos (fun h => by simp at h), hth]
        congr 1
        rw [gO_pos (by omega), gO_pos (by simp [sub_pre]; omega), gO_pos (by omega), gO_pos (by simp [sub_pre]; omega), gO_pos (by omega), gO_pos (by simp [sub_pre, sub_suf]; omega), sub_pre, sub_suf]
        simp
  have flen : ∀ (m : List Row) (out : List Row), (m.foldl insR out).length ≤ out.length + m.length := by
    intro m
    induction m with
    | nil => intro out; simp
    | cons x m ih =>
      intro out
      have h1 := ih (insR out x)
      have h2 := ins_len out x
      simp only [List.foldl_cons, List.length_cons]; omega
  have key : ∀ k i, i + k = l.length → Comes (step_ref47_Sort l) (.L1 ((l.take i).foldl insR []) (i : Int)) (l.foldl insR []) := by
    intro k
    induction k with
    | zero =>
      intro i hi
      refine .stop ?_
      simp only [step_ref47_Sort]
      rw [decide_eq_false (by omega), cond_false, List.take_of_length_le (by omega)]
    | succ k ih =>
      intro i hi
      have h1 := flen (l.take i) []
      rw [List.length_take, List.length_nil] at h1
      refine one _ i _ (by omega) (by omega) ?_
      have := ih (i + 1) (by omega)
      rwa [take_idx l (by omega), List.foldl_append] at this
  exact key l.length 0 (by omega)
theorem fold_rises : ∀ (m : List Row) (out : List Row), rises out = true → rises (m.foldl insR out) = true
  | [], _, h => h
  | x :: m, out, h => fold_rises m _ (ins_rises h x)
theorem fold_len : ∀ (m : List Row) (out : List Row), (m.foldl insR out).length ≤ out.length + m.length
  | [], out => by simp
  | x :: m, out => by
    have h1 := fold_len m (insR out x)
    have h2 := ins_len out x
    simp only [List.foldl_cons, List.length_cons]; omega
theorem fold_sorted : ∀ (m out : List Row), (out ++ m).Pairwise (fun a b => ltR a b = true) → m.foldl insR out = out ++ m
  | [], out, _ => by simp
  | x :: m, out, h => by
    have h1 := (List.pairwise_append.1 h).2.2
    have h0 : rises out = true := rises_iff.2 (List.pairwise_append.1 h).1
    have hp : pos out x = out.length := pos_eq h0 x (Nat.le_refl _) (fun i hi => h1 _ (idx_mem out hi) x (List.mem_cons_self ..)) (fun i h2 h3 => by omega)
    have hi : insR out x = out ++ [x] := by
      unfold insR
      have : there out x = false := by unfold there; rw [hp]; simp
      rw [this, if_neg (by simp), hp, List.take_of_length_le (Nat.le_refl _), List.drop_eq_nil_of_le (Nat.le_refl _)]
    rw [List.foldl_cons, hi, fold_sorted m (out ++ [x]) (by simpa using h)]
    simp
theorem RFind_ok {l : List Row} (hr : rises l = true) (hl : l.length ≤ 1000000) (r : Row) : g_ref47_Find l r.fSum r.fEpoch = some (if there l r = true then (pos l r : Int) else -1) := by
  let q : Nat → Bool := fun i => ((idx l (i : Int)).fSum.1 == r.fSum.1) && decide ((idx l (i : Int)).fEpoch = r.fEpoch)
  have hq : ∀ i, q i = true ↔ (kN (idx l (i : Int)) = kN r ∧ (idx l (i : Int)).fEpoch = r.fEpoch) := fun i => by
    show (_ && _) = true ↔ _
    rw [Bool.and_eq_true, decide_eq_true_eq, beq_iff_eq, kN_eq, Subtype.ext_iff]
  obtain ⟨x, hx, hc⟩ := Comes.ex (step := step_ref47_Find l r.fSum r.fEpoch) (fun i => .L1 (i : Int)) q l.length (fun i => (i : Int)) (-1) (fun i hi h => by
    simp only [step_ref47_Find]
    rw [decide_eq_true (by omega), cond_true, gO_pos (by omega), gO_pos (fun _ => by omega), show (((idx l (i : Int)).fSum.1 == r.fSum.1) && decide ((idx l (i : Int)).fEpoch = r.fEpoch)) = false from h, cond_false, gO_pos (by unfold inI; omega)]
    rfl) (fun i hi h => by
    simp only [step_ref47_Find]
    rw [decide_eq_true (by omega), cond_true, gO_pos (by omega), gO_pos (fun _ => by omega), show (((idx l (i : Int)).fSum.1 == r.fSum.1) && decide ((idx l (i : Int)).fEpoch = r.fEpoch)) = true from h, cond_true]) (.stop (by
    simp only [step_ref47_Find]
    rw [decide_eq_false (by omega), cond_false]))
  unfold g_ref47_Find
  rw [theC_eq (.next rfl hx)]
  congr 1
  rcases hc with ⟨i, hi, h1, _, rfl⟩ | ⟨h1, rfl⟩
  · have h2 := (hq i).1 h1
    have hp : pos l r = i := pos_eq hr r (by omega) (fun j hj => by
      have := ltR_iff.1 (rises_lt' hr hj hi)
      rw [ltR_iff]; omega) (fun j hj hj2 => by
      rw [ltR_false]
      rcases Nat.lt_or_ge i j with h | h
      · have := ltR_iff.1 (rises_lt' hr h hj2)
        omega
      · rw [show j = i by omega]; omega)
    rw [if_pos (there_iff.2 (by rw [hp]; exact ⟨hi, h2⟩)), hp]
  · rw [if_neg]
    intro h
    have h2 := there_iff.1 h
    have h3 := h1 (pos l r) h2.1
    rw [(hq _).2 h2.2] at h3; cases h3

/-! ### The laws -/
def lightB (l : List Row) : Bool := l.all (fun r => !decide (300 < (r.fBody.length : Int))) && decide (l.length ≤ 40)
theorem Light_ok (l : List Row) (hl : l.length ≤ 9223372036854775807) : g_law47_light l = some (lightB l) := by
  refine theC_eq (.next rfl ?_)
  have := Comes.all (step := step_law47_light l) (fun i => .L1 (i : Int)) (fun i => !decide (300 < ((idx l (i : Int)).fBody.length : Int))) l.length false (decide (l.length ≤ 40)) (fun i hi hq => by
    simp only [Bool.not_eq_true'] at hq
    simp only [step_law47_light]
    rw [decide_eq_true (by omega), cond_true, gO_pos (by omega), hq, cond_false, gO_pos (by unfold inI; omega)]
    rfl) (fun i hi hq => by
    simp only [Bool.not_eq_false'] at hq
    simp only [step_law47_light]
    rw [decide_eq_true (by omega), cond_true, gO_pos (by omega), hq, cond_true]) (.stop (by
    simp only [step_law47_light]
    rw [decide_eq_false (by omega), cond_false]
    congr 2
    by_cases h : l.length ≤ 40
    · rw [decide_eq_true h, decide_eq_true (by omega)]
    · rw [decide_eq_false h, decide_eq_false (by omega)]))
  rw [all_range l (fun r => !decide (300 < (r.fBody.length : Int)))] at this
  unfold lightB
  cases h : l.all (fun r => !decide (300 < (r.fBody.length : Int))) <;> simpa [h] using this
theorem light_len {l : List Row} (h : lightB l = true) : l.length ≤ 40 := by
  simp only [lightB, Bool.and_eq_true, decide_eq_true_eq] at h; exact h.2
theorem awake47_ok : g_law47_awake = some true := by
  unfold g_law47_awake
  generalize (⟨[(1 : UInt8), 0, 0, 0, 0, 0, 0, 0, 0, 0, 0, 0, 0, 0, 0, 0, 0, 0, 0, 0, 0, 0, 0, 0, 0, 0, 0, 0, 0, 0, 0, 0], rfl⟩ : Arr 32 UInt8) = S
  have hab : ltR ⟨S, 0, [97]⟩ ⟨S, 2, []⟩ = true := ltR_iff.2 (.inr ⟨rfl, show (0 : Int) < 2 by decide⟩)
  have hba : ltR ⟨S, 2, []⟩ ⟨S, 0, [97]⟩ = false := ltR_false.2 (by intro h; rcases h with h | ⟨_, h⟩; exact absurd h (Nat.lt_irrefl _); exact absurd h (show ¬ (2 : Int) < 0 by decide))
  have hp : pos [⟨S, 2, []⟩] ⟨S, 0, [97]⟩ = 0 := by rw [pos, hba]; rfl
  have ht : there [⟨S, 2, []⟩] ⟨S, 0, [97]⟩ = false := by
    cases h : there [⟨S, 2, []⟩] ⟨S, 0, [97]⟩ with
    | false => rfl
    | true =>
      have := (there_iff.1 h).2.2
      rw [hp] at this
      exact absurd this (by show ¬ ((2 : Int) = 0); decide)
  have hi : insR [⟨S, 2, []⟩] ⟨S, 0, [97]⟩ = [⟨S, 0, [97]⟩, ⟨S, 2, []⟩] := by unfold insR; rw [ht, if_neg (by simp), hp]; rfl
  have hr : rises [⟨S, 0, [97]⟩, ⟨S, 2, []⟩] = true := by
    rw [rises_iff]; simp [hab]
  have hm : mayB [⟨S, 0, [97]⟩, ⟨S, 2, []⟩] = true := by
    unfold mayB; rw [hr]; simp [okRow]
  have hlen : (putL [⟨S, 0, [97]⟩, ⟨S, 2, []⟩]).length = 82 := by
    simp [putL, rowB_len]
  have hp2 : pos [⟨S, 0, [97]⟩, ⟨S, 2, []⟩] ⟨S, 2, []⟩ = 1 := by
    have h22 : ltR ⟨S, 2, []⟩ ⟨S, 2, []⟩ = false := ltR_false.2 (by intro h; rcases h with h | ⟨_, h⟩; exact absurd h (Nat.lt_irrefl _); exact absurd h (show ¬ (2 : Int) < 2 by decide))
    have hab' : ltR ⟨S, 0, [97]⟩ ⟨S, 2, []⟩ = true := hab
    rw [pos, hab', pos, h22]; rfl
  have ht2 : there [⟨S, 0, [97]⟩, ⟨S, 2, []⟩] ⟨S, 2, []⟩ = true := there_iff.2 (by rw [hp2]; exact ⟨by simp, rfl, rfl⟩)
  have hf := Find_ok hr (by simp) ⟨S, 2, []⟩
  rw [hp2, ht2] at hf
  rw [Insert_ok (l := [⟨S, 2, []⟩]) rfl (by simp), hi, ht, Option.bind_some]
  simp only [Bool.not_false]
  rw [Put_may hm, Option.bind_some]
  simp only
  rw [Get_put hm, Option.bind_some, Split_ok _ (by simp), Option.bind_some]
  rw [hf, Option.bind_some]
  rw [gO_pos (fun _ => by simp), Same_ok _ _ (by simp) (by simp), Remove_ok _ (by simp), Less_ok, hlen]
  have hbq : ∀ x : Row, beqRow x x = true := fun x => (beqRow_iff x x).2 rfl
  rw [show idx ([⟨S, 0, [97]⟩, ⟨S, 2, []⟩] : List Row) 0 = ⟨S, 0, [97]⟩ from rfl, hbq]
  simp [hab]
theorem PagePuts_true (l m : List Row) (hl : l.length ≤ 9223372036854775807) (hm : m.length ≤ 9223372036854775807) : g_law47_PagePuts l m = some true := by
  unfold g_law47_PagePuts
  rw [Light_ok l hl, Option.bind_some, Light_ok m hm, awake47_ok]
  cases h1 : lightB l with
  | false => rfl
  | true =>
    rw [show ((!true) == false : Bool) = true from rfl, cond_true, Option.bind_some]
    cases h2 : lightB m with
    | false => rfl
    | true =>
      have h1 := light_len h1
      have h2 := light_len h2
      rw [show ((!true) || (!true)) = false from rfl, cond_false, May_ok l (by omega), Check_ok l (by omega), Same_ok l m (by omega) (by omega), RSame_ok l m (by omega) (by omega)]
      cases hy : mayB l with
      | false =>
        rw [Put_not (by omega) hy]
        simp
      | true =>
        rw [Put_may hy]
        simp only [Option.bind_some, cond_true, decide_true, beq_self_eq_true, Bool.not_true, Bool.or_self, cond_false, Bool.and_self]
        rw [Get_put hy, RPut_may hy, Option.bind_some]
        simp only [Option.bind_some, beq_self_eq_true, decide_true, Bool.and_self, cond_true]
        rw [RSame_ok l l (by omega) (by omega)]
        simp
theorem PageGets_true (s : List UInt8) : g_law47_PageGets s = some true := by
  unfold g_law47_PageGets
  rw [awake47_ok]
  by_cases h : 1500 < s.length
  · rw [decide_eq_true (by omega)]; rfl
  · rw [decide_eq_false (by omega), cond_false]
    obtain ⟨l, e, hg, hc | ⟨rfl, hm, hp⟩⟩ := Get_end s (by omega)
    · obtain ⟨he, rfl, h5 | h6⟩ := hc
      · subst h5; rw [hg]; rfl
      · subst h6; rw [hg]; rfl
    · rw [hg, Option.bind_some]
      simp only [decide_true, Bool.not_true, cond_false, Option.bind_some, beq_self_eq_true, cond_true, Bool.true_and]
      have h8 := (may_spec hm).2.1
      rw [May_ok l (by omega), hm, Option.bind_some]
      simp only [beq_self_eq_true, cond_true]
      rw [RPut_may hm, Option.bind_some, hp]
      simp
theorem rows_part {s : List Row} (r : Row) (hr : rises s = true) (hl : s.length ≤ 1000) (T : Option Bool) : (
    gO (((((!there s r) == true) && (((decide ((pos s r : Int) < (0 : Int))) || (decide ((s.length : Int) < (pos s r : Int)))) == false)) && ((decide ((0 : Int) < (pos s r : Int))) == true)) = true → inI ((pos s r : Int) - (1 : Int))) (
    gO (((((!there s r) == true) && (((decide ((pos s r : Int) < (0 : Int))) || (decide ((s.length : Int) < (pos s r : Int)))) == false)) && ((decide ((0 : Int) < (pos s r : Int))) == true)) = true → 0 ≤ ((pos s r : Int) - (1 : Int)) ∧ ((pos s r : Int) - (1 : Int)) < (s.length : Int)) (
    ((bif ((((!there s r) == true) && (((decide ((pos s r : Int) < (0 : Int))) || (decide ((s.length : Int) < (pos s r : Int)))) == false)) && ((decide ((0 : Int) < (pos s r : Int))) == true)) then g_ref47_Less (idx s ((pos s r : Int) - (1 : Int))) r else some default).bind fun (x_25 : Bool) =>
    gO (((((!there s r) == true) && ((((decide ((pos s r : Int) < (0 : Int))) || (decide ((s.length : Int) < (pos s r : Int)))) || ((decide ((0 : Int) < (pos s r : Int))) && (!x_25))) == false)) && ((decide ((pos s r : Int) < (s.length : Int))) == true)) = true → 0 ≤ (pos s r : Int) ∧ (pos s r : Int) < (s.length : Int)) (
    ((bif ((((!there s r) == true) && ((((decide ((pos s r : Int) < (0 : Int))) || (decide ((s.length : Int) < (pos s r : Int)))) || ((decide ((0 : Int) < (pos s r : Int))) && (!x_25))) == false)) && ((decide ((pos s r : Int) < (s.length : Int))) == true)) then g_ref47_Less r (idx s (pos s r : Int)) else some default).bind fun (x_28 : Bool) =>
    (bif ((!there s r) && ((((decide ((pos s r : Int) < (0 : Int))) || (decide ((s.length : Int) < (pos s r : Int)))) || ((decide ((0 : Int) < (pos s r : Int))) && (!x_25))) || ((decide ((pos s r : Int) < (s.length : Int))) && (!x_28)))) then
    some false
    else T))))))) = T := by
  have hp := pos_le s r
  have e1 : decide ((pos s r : Int) < 0) = false := decide_eq_false (by omega)
  have e2 : decide ((s.length : Int) < (pos s r : Int)) = false := decide_eq_false (by omega)
  rw [e1, e2]
  cases ht : there s r with
  | true => simp [gO]
  | false =>
    have hb : 0 < pos s r → ltR (idx s ((pos s r : Int) - 1)) r = true := fun h => by
      have := pos_before s r (i := pos s r - 1) (by omega)
      rwa [show ((pos s r - 1 : Nat) : Int) = (pos s r : Int) - 1 by omega] at this
    have ha : pos s r < s.length → ltR r (idx s (pos s r : Int)) = true := fun h => by
      have h1 := ltR_false.1 (pos_at s r h)
      have h2 : ¬ (kN (idx s (pos s r : Int)) = kN r ∧ (idx s (pos s r : Int)).fEpoch = r.fEpoch) := fun h2 => by
        rw [there_iff.2 ⟨h, h2⟩] at ht; cases ht
      rw [ltR_iff]; omega
    rw [gO_pos (fun _ => by unfold inI; omega), gO_pos (fun h => by simp at h; omega)]
    by_cases h0 : 0 < pos s r
    · rw [decide_eq_true (show (0 : Int) < (pos s r : Int) by omega), RLess_ok, hb h0]
      by_cases h1 : pos s r < s.length
      · rw [decide_eq_true (show (pos s r : Int) < (s.length : Int) by omega), RLess_ok, ha h1]
        simp [gO, h1]
      · rw [decide_eq_false (show ¬ (pos s r : Int) < (s.length : Int) by omega)]
        simp [gO]
    · rw [decide_eq_false (show ¬ (0 : Int) < (pos s r : Int) by omega)]
      by_cases h1 : pos s r < s.length
      · rw [decide_eq_true (show (pos s r : Int) < (s.length : Int) by omega)]
        simp [gO, h1, RLess_ok, ha h1]
      · rw [decide_eq_false (show ¬ (pos s r : Int) < (s.length : Int) by omega)]
        simp [gO]
theorem PageRows_true (l : List Row) (r : Row) (i : Int) (hl : l.length ≤ 9223372036854775807) : g_law47_PageRows l r i = some true := by
  unfold g_law47_PageRows
  rw [Light_ok l hl, Option.bind_some, awake47_ok]
  cases hx : (!lightB l || decide (300 < (r.fBody.length : Int))) with
  | true => rfl
  | false =>
    rw [cond_false]
    have h1 : lightB l = true := by cases h : lightB l <;> simp [h] at hx ⊢
    have h1 := light_len h1
    have hr : rises (l.foldl insR []) = true := fold_rises l [] rfl
    have hn := fold_len l []
    rw [List.length_nil] at hn
    rw [Sort_ok l (by omega), Option.bind_some]
    generalize l.foldl insR [] = s at *
    have hp := pos_le s r
    rw [gO_pos (by simp; omega), List.nil_append, Insert_ok hr (by omega), Option.bind_some, Find_ok hr (by omega), Option.bind_some, RFind_ok hr (by omega), Option.bind_some]
    have hs : (s ++ [r]).foldl insR [] = insR s r := by
      rw [List.foldl_append, fold_sorted s [] (by simpa using rises_iff.1 hr)]; rfl
    have hins := ins_len s r
    have h0 : ((((!(!there s r) == decide ((if there s r = true then (pos s r : Int) else -1) < 0)) || (!(there s r == decide (0 ≤ (if there s r = true then (pos s r : Int) else -1))))) || (there s r && (!decide ((pos s r : Int) = (if there s r = true then (pos s r : Int) else -1)))))) = false := by
      cases there s r <;> simp
    simp only []
    rw [h0, cond_false, gO_pos (by simp; omega), gO_pos (by simp; omega), Sort_ok _ (by simp; omega), hs, Option.bind_some, RSame_ok _ _ (by omega) (by omega), Option.bind_some, beq_self_eq_true, Bool.not_true, cond_false]
    refine (rows_part r hr (by omega) _).trans ?_
    rw [gO_pos (by simp; omega), Remove_ok _ (by omega), Option.bind_some, Split_ok _ (by omega)]
    have hv : (bif decide (0 ≤ i) && decide (i < (s.length : Int)) then
        gO (0 ≤ (0 : Int) ∧ 0 ≤ i ∧ i ≤ (s.length : Int)) (gO ((([] : List Row).length + (sub s 0 i).length) * 56 ≤ 140737488355328) (gO (inI (i + 1)) (gO (0 ≤ i + 1 ∧ i + 1 ≤ (s.length : Int) ∧ (s.length : Int) ≤ (s.length : Int))
          (gO ((([] ++ sub s 0 i).length + (sub s (i + 1) (s.length : Int)).length) * 56 ≤ 140737488355328) (some ([] ++ sub s 0 i ++ sub s (i + 1) (s.length : Int)))))))
        else some s) = some (if 0 ≤ i ∧ i < (s.length : Int) then s.take i.toNat ++ s.drop (i.toNat + 1) else s) := by
      by_cases h : 0 ≤ i ∧ i < (s.length : Int)
      · rw [if_pos h, decide_eq_true h.1, decide_eq_true h.2]
        obtain ⟨n, rfl⟩ : ∃ n : Nat, i = (n : Int) := ⟨i.toNat, by omega⟩
        rw [Bool.and_self, cond_true, gO_pos (by omega), sub_pre, show (n : Int) + 1 = ((n + 1 : Nat) : Int) by omega, sub_suf, gO_pos (by simp; omega), gO_pos (inI_nat (by omega)), gO_pos (by omega), gO_pos (by simp; omega)]
        simp
      · rw [if_neg h]
        have : (decide (0 ≤ i) && decide (i < (s.length : Int))) = false := by
          rw [Bool.and_eq_false_iff, decide_eq_false_iff_not, decide_eq_false_iff_not]; omega
        rw [this, cond_false]
    rw [hv, Option.bind_some]
    have hw : (if 0 ≤ i ∧ i < (s.length : Int) then s.take i.toNat ++ s.drop (i.toNat + 1) else s).length ≤ 1000 := by
      split
      · simp; omega
      · omega
    generalize (if 0 ≤ i ∧ i < (s.length : Int) then s.take i.toNat ++ s.drop (i.toNat + 1) else s) = v at *
    simp only [Option.bind_some, beq_self_eq_true, cond_true]
    rw [RSame_ok v v (by omega) (by omega), Option.bind_some, beq_self_eq_true, Bool.and_self, cond_true, gO_pos (by simp; omega), gO_pos (by simp; omega), List.nil_append, List.take_append_drop, RSame_ok s s (by omega) (by omega), Option.bind_some, beq_self_eq_true]
    have hd : (decide (((s.take (s.length - s.length / 2)).length : Int) = ((s.drop (s.length - s.length / 2)).length : Int)) || decide (((s.take (s.length - s.length / 2)).length : Int) = ((s.drop (s.length - s.length / 2)).length : Int) + 1)) = true := by
      rw [Bool.or_eq_true, decide_eq_true_eq, decide_eq_true_eq, List.length_take, List.length_drop]
      omega
    rw [gO_pos (fun _ => by rw [List.length_drop]; unfold inI; omega), hd]
    by_cases h2 : s.length < 2
    · rw [decide_eq_true (show (s.length : Int) < 2 by omega)]
      simp [gO]
    · rw [decide_eq_false (show ¬ (s.length : Int) < 2 by omega), gO_pos (fun _ => by omega), gO_pos (fun _ => by omega), Less_ok]
      have := rises_step hr (i := 0) (by omega)
      rw [show ((0 : Nat) : Int) = 0 from rfl, show ((0 + 1 : Nat) : Int) = 1 from rfl] at this
      rw [this]
      rfl
end Go.Proofs.Ytoeppofkmcdknaa.K
