import Derived.Test.YthpgedneniekmaaAPPage
/- Package page and the reference of layer 47: what may be, sameness, texts. -/
namespace Go.Proofs.Ythpgedneniekmaa.K
open Go
set_option linter.unusedVariables false
set_option linter.unusedSimpArgs false
def rises (l : List Row) : Bool := (List.range (l.length - 1)).all fun i => ltR (idx l (i : Int)) (idx l ((i + 1 : Nat) : Int))
def okRow (r : Row) : Bool := !((decide (r.fEpoch < 0) || decide (1048576 < r.fEpoch)) || decide (70000 < (r.fBody.length : Int)))
def mayB (l : List Row) : Bool := l.all okRow && decide (l.length ≤ 8) && rises l
theorem Index_ok (l : List Row) (hl : l.length ≤ 9223372036854775807) : g_slices_ContainsFunc_api_Row_api_Row l (fun y0 => g_page_Check_1 y0) = some (!l.all okRow) := by
  have h1 : ∀ r, g_page_Check_1 r = some (!okRow r) := fun r => by simp [g_page_Check_1, okRow]
  obtain ⟨x, hx, hc⟩ := Comes.ex (step := step_slices_IndexFunc_api_Row_api_Row l (fun y0 => g_page_Check_1 y0)) (fun i => .L1 (i : Int)) (fun i => !okRow (idx l (i : Int))) l.length (fun i => (i : Int)) (-1) (fun i hi hq => by
    simp only [step_slices_IndexFunc_api_Row_api_Row]
    rw [decide_eq_true (by omega), cond_true, gO_pos (by omega), h1, Option.bind_some, hq, cond_false, gO_pos (by unfold inI; omega)]
    rfl) (fun i hi hq => by
    simp only [step_slices_IndexFunc_api_Row_api_Row]
    rw [decide_eq_true (by omega), cond_true, gO_pos (by omega), h1, Option.bind_some, hq, cond_true]) (.stop (by
    simp only [step_slices_IndexFunc_api_Row_api_Row]
    rw [decide_eq_false (by omega), cond_false]))
  unfold g_slices_ContainsFunc_api_Row_api_Row g_slices_IndexFunc_api_Row_api_Row
  rw [theC_eq (.next rfl hx), Option.bind_some]
  congr 1
  rw [← all_range l okRow]
  rcases hc with ⟨i, hi, h2, _, rfl⟩ | ⟨h2, rfl⟩
  · have : ((List.range l.length).all fun i => okRow (idx l (i : Int))) = false := by rw [List.all_eq_false]; exact ⟨i, by simpa using hi, by simpa using h2⟩
    rw [this]; simp
  · have : ((List.range l.length).all fun i => okRow (idx l (i : Int))) = true := by rw [List.all_eq_true]; intro i hi; simpa using h2 i (by simpa using hi)
    rw [this]; rfl
theorem Check_ok (l : List Row) (hl : l.length ≤ 9223372036854775807) : g_page_Check l = some (bif mayB l then 0 else 2) := by
  refine theC_eq ?_
  by_cases h8 : l.length ≤ 8
  · cases ha : l.all okRow with
    | false =>
      refine .stop ?_
      simp only [step_page_Check]
      rw [decide_eq_false (by omega), show ((false == false)) = true from rfl, cond_true, Index_ok l hl, Option.bind_some, ha]
      simp [mayB, ha]
    | true =>
      refine .next (c' := .L1 1) ?_ ?_
      · simp only [step_page_Check]
        rw [decide_eq_false (by omega), show ((false == false)) = true from rfl, cond_true, Index_ok l hl, Option.bind_some, ha]
        rfl
      · have := Comes.all (step := step_page_Check l) (fun i => .L1 ((i + 1 : Nat) : Int)) (fun i => ltR (idx l (i : Int)) (idx l ((i + 1 : Nat) : Int))) (l.length - 1) 2 0 (fun i hi hq => by
          simp only [step_page_Check]
          rw [decide_eq_true (by omega), cond_true, gO_pos (by unfold inI; omega), gO_pos (by omega), gO_pos (by omega), show ((i + 1 : Nat) : Int) - 1 = (i : Int) by omega, Less_ok, Option.bind_some, hq, Bool.not_true, cond_false, gO_pos (by unfold inI; omega)]
          rfl) (fun i hi hq => by
          simp only [step_page_Check]
          rw [decide_eq_true (by omega), cond_true, gO_pos (by unfold inI; omega), gO_pos (by omega), gO_pos (by omega), show ((i + 1 : Nat) : Int) - 1 = (i : Int) by omega, Less_ok, Option.bind_some, hq, Bool.not_false, cond_true]) (.stop (by
          simp only [step_page_Check]
          rw [decide_eq_false (by omega), cond_false]))
        simp only [mayB, ha, decide_eq_true h8, Bool.true_and]
        exact this
  · refine .stop ?_
    simp only [step_page_Check]
    rw [decide_eq_true (by omega)]
    simp [mayB, h8]
instance : BEq Row := ⟨beqRow⟩
instance : LawfulBEq Row where
  eq_of_beq {a b} h := (beqRow_iff a b).1 h
  rfl {a} := (beqRow_iff a a).2 rfl
theorem beqRow_eq (a b : Row) : beqRow a b = (a == b) := rfl
theorem RSame_ok (a b : List Row) (ha : a.length < 9223372036854775807) (hb : b.length ≤ 9223372036854775807) : g_ref47_Same a b = some (a == b) := by
  refine theC_eq ?_
  by_cases hl : a.length = b.length
  · refine .next (c' := .L1 0) (by simp only [step_ref47_Same]; rw [decide_eq_true (by omega)]; rfl) ?_
    have key : ∀ k i, i + k = a.length → Comes (step_ref47_Same a b) (.L1 (i : Int)) (a.drop i == b.drop i) := by
      intro k
      induction k with
      | zero =>
        intro i hi
        refine .stop ?_
        simp only [step_ref47_Same]
        rw [decide_eq_false (by omega), cond_false, List.drop_eq_nil_of_le (by omega), show b.drop i = [] from List.drop_eq_nil_of_le (by omega)]; rfl
      | succ k ih =>
        intro i hi
        rw [drop_idx a (by omega), drop_idx b (by omega)]
        cases h : idx a (i : Int) == idx b (i : Int) with
        | false =>
          refine .stop ?_
          simp only [step_ref47_Same]
          rw [decide_eq_true (by omega), cond_true, gO_pos (by omega), gO_pos (by omega), beqRow_eq, h, Bool.not_false, cond_true, List.cons_beq_cons, h]; rfl
        | true =>
          refine .next (c' := .L1 ((i + 1 : Nat) : Int)) ?_ ?_
          · simp only [step_ref47_Same]
            rw [decide_eq_true (by omega), cond_true, gO_pos (by omega), gO_pos (by omega), beqRow_eq, h, Bool.not_true, cond_false, gO_pos (by unfold inI; omega)]
            rfl
          · rw [List.cons_beq_cons, h, Bool.true_and]; exact ih (i + 1) (by omega)
    have := key a.length 0 (by omega)
    simpa using this
  · refine .stop ?_
    simp only [step_ref47_Same]
    rw [decide_eq_false (by omega), Bool.not_false, cond_true]
    have : (a == b) = false := by rw [beq_eq_false_iff_ne]; rintro rfl; exact hl rfl
    rw [this]
end Go.Proofs.Ythpgedneniekmaa.K
