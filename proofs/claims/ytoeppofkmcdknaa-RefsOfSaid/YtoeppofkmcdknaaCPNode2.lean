import Derived.Test.YtoeppofkmcdknaaCPNode
/- Nodes: shapes, references' items, checks, what is laid. -/
namespace Go.Proofs.Ytoeppofkmcdknaa.K
open Go
set_option linter.unusedVariables false
set_option linter.unusedSimpArgs false
def ne0 (k : List UInt8) : Bool := !(k == [])
def kcnt (n : Node) : Nat := (n.fKids.1.filter ne0).length
theorem kids16 (n : Node) : n.fKids.1.length = 16 := n.fKids.2
theorem filt_snoc {α : Type} (p : α → Bool) (l : List α) (x : α) : (l ++ [x]).filter p = l.filter p ++ (if p x = true then [x] else []) := by
  rw [List.filter_append, List.filter_cons, List.filter_nil]
theorem Del_L1 (f : List UInt8 → Option Bool) (v : List (List UInt8)) (hf : ∀ y ∈ v, f y = some (!(ne0 y))) (hv : v.length ≤ 1000000) : ∀ (k i j : Nat) (c : List (List UInt8)), k + j = v.length → c.length = v.length → c.drop j = v.drop j → c.take i = (v.take j).filter ne0 → i < j →
    i ≤ v.length → Comes (step_slices_DeleteFunc_string_string f v) (.L1 (i : Int) (j : Int) c) (v.filter ne0) := by
  intro k
  induction k with
  | zero =>
    intro i j c h1 h2 h3 h4 h5 h6
    have e : c.take i = v.filter ne0 := by rw [h4, List.take_of_length_le (by omega)]
    refine Comes.stop ?_
    simp only [step_slices_DeleteFunc_string_string]
    rw [decide_eq_false (by omega), cond_false, gO_pos (by omega), gO_pos h2.symm, gO_pos (by omega), gO_pos (by rw [List.length_take]; omega), Int.toNat_natCast, e]
  | succ k ih =>
    intro i j c h1 h2 h3 h4 h5 h6
    have hj : j < v.length := by omega
    have hjc : j < c.length := by omega
    have hx : idx c (j : Int) = idx v (j : Int) := by
      have := h3
      rw [drop_idx c hjc, drop_idx v hj] at this
      exact (List.cons.inj this).1
    have hd : c.drop (j + 1) = v.drop (j + 1) := by
      have := h3
      rw [drop_idx c hjc, drop_idx v hj] at this
      exact (List.cons.inj this).2
    have hfx := hf _ (idx_mem v hj)
    cases hk : ne0 (idx v (j : Int)) with
    | true =>
      have hi : i < c.length := by omega
      refine Comes.next (c' := .L1 ((i + 1 : Nat) : Int) ((j + 1 : Nat) : Int) (c.set i (idx v (j : Int)))) ?_ (ih (i + 1) (j + 1) _ (by omega) (by simp [h2]) ?_ ?_ (by omega) (by omega))
      · simp only [step_slices_DeleteFunc_string_string]
        rw [decide_eq_true (by omega), cond_true, gO_pos (by omega), gO_pos (by omega), hx, hfx, Option.bind_some, hk, Bool.not_true, Bool.not_false, cond_true, gO_pos (by omega), gO_pos (by omega), gO_pos (by unfold inI; omega), Option.bind_some]
        simp only
        rw [gO_pos (by unfold inI; omega), Int.toNat_natCast]
        rfl
      · rw [List.drop_set_of_lt (by omega), hd]
      · have e1 : (c.set i (idx v (j : Int))).take (i + 1) = c.take i ++ [idx v (j : Int)] := by
          rw [List.take_add_one, List.getElem?_set_self hi, List.take_set_of_le (Nat.le_refl _)]; rfl
        rw [e1, h4, take_idx v hj, filt_snoc, if_pos hk]
    | false =>
      refine Comes.next (c' := .L1 (i : Int) ((j + 1 : Nat) : Int) c) ?_ (ih i (j + 1) _ (by omega) h2 hd ?_ (by omega) h6)
      · simp only [step_slices_DeleteFunc_string_string]
        rw [decide_eq_true (by omega), cond_true, gO_pos (by omega), gO_pos (by omega), hx, hfx, Option.bind_some, hk, Bool.not_false, Bool.not_true, cond_false, Option.bind_some]
        simp only
        rw [gO_pos (by unfold inI; omega)]
        rfl
      · rw [h4, take_idx v hj, filt_snoc, if_neg (by rw [hk]; simp), List.append_nil]
theorem Del_ok (f : List UInt8 → Option Bool) (v : List (List UInt8)) (hf : ∀ y ∈ v, f y = some (!(ne0 y))) (hv : v.length ≤ 1000000) : g_slices_DeleteFunc_string_string f v = some (v.filter ne0) := by
  obtain ⟨r, hr, h⟩ := ContainsS v f (fun y => !(ne0 y)) hf (by omega)
  refine theC_eq ?_
  rcases h with ⟨i, rfl, hi, h1, h2⟩ | ⟨rfl, h1⟩
  · have hall : (v.take i).filter ne0 = v.take i := by
      rw [List.filter_eq_self]
      intro x hx
      obtain ⟨j, hj, rfl⟩ := List.mem_iff_getElem.1 hx
      have hj' : j < i := by rw [List.length_take] at hj; omega
      have := h2 j hj'
      rw [idx_get v (by omega)] at this
      rw [List.getElem_take]; simpa using this
    refine Comes.next (c' := .L1 (i : Int) ((i + 1 : Nat) : Int) v) ?_ (Del_L1 f v hf hv (v.length - (i + 1)) i (i + 1) v (by omega) rfl rfl ?_ (by omega) (by omega))
    · simp only [step_slices_DeleteFunc_string_string]
      rw [hr, Option.bind_some, decide_eq_false (by omega), cond_false, gO_pos (by unfold inI; omega)]
      rfl
    · have : ne0 (idx v (i : Int)) = false := by simpa using h1
      rw [take_idx v hi, filt_snoc, hall, if_neg (by rw [this]; simp), List.append_nil]
  · have hall : v.filter ne0 = v := by
      rw [List.filter_eq_self]
      intro x hx
      obtain ⟨j, hj, rfl⟩ := List.mem_iff_getElem.1 hx
      have := h1 j hj
      rw [idx_get v hj] at this
      simpa using this
    rw [hall]
    refine Comes.stop ?_
    simp only [step_slices_DeleteFunc_string_string]
    rw [hr, Option.bind_some]
    rfl
theorem Kids_ok (n : Node) : g_node_Kids n = some (n.fKids.1.filter ne0) := by
  have h16 := kids16 n
  unfold g_node_Kids g_slices_Clone_string_string
  rw [gO_pos (by omega), Option.bind_some, Del_ok _ _ (fun y _ => by simp [g_node_Kids_1, ne0]) (by omega)]
  rfl
theorem RKids_ok (n : Node) : g_ref06_kids n = some ((kcnt n : Nat) : Int) := by
  have h16 := kids16 n
  have h := Comes.upto (step := step_ref06_kids n) (fun i => .L1 ((((n.fKids.1.take i).filter ne0).length : Nat) : Int) (i : Int)) 16 (r := ((kcnt n : Nat) : Int)) (by
    intro i hi
    have hle : ((n.fKids.1.take i).filter ne0).length ≤ 16 := by
      have := List.length_filter_le ne0 (n.fKids.1.take i)
      rw [List.length_take] at this; omega
    simp only [step_ref06_kids]
    rw [decide_eq_true (by omega), cond_true, gO_pos (by omega), take_idx _ (by omega : i < n.fKids.1.length), filt_snoc]
    cases hk : ne0 (idx n.fKids.1 (i : Int)) with
    | true =>
      have hk' : (!(idx n.fKids.1 (i : Int) == [])) = true := hk
      rw [hk', cond_true, gO_pos (by unfold inI; omega), Option.bind_some, gO_pos (by unfold inI; omega), if_pos rfl]
      simp only [List.length_append, List.length_singleton]
      rfl
    | false =>
      have hk' : (!(idx n.fKids.1 (i : Int) == [])) = false := hk
      rw [hk', cond_false, Option.bind_some, gO_pos (by unfold inI; omega), if_neg (by simp), List.append_nil]
      rfl) (by
    refine Comes.stop ?_
    simp only [step_ref06_kids]
    rw [decide_eq_false (by omega), cond_false, List.take_of_length_le (by omega)]
    rfl)
  exact theC_eq (Comes.next rfl h)
def shapeB (n : Node) : Bool :=
  bif decide (n.fKind = 1) then ((!(n.fValue == [])) && decide ((n.fValue.length : Int) ≤ 65552)) && decide ((kcnt n : Int) = 0)
  else bif decide (n.fKind = 2) then (((n.fValue == []) && decide ((0 : Int) < (n.fPath.length : Int))) && decide ((kcnt n : Int) = 1)) && (!(idx n.fKids.1 (0 : Int) == []))
  else bif decide (n.fKind = 3) then ((n.fValue == []) && decide ((n.fPath.length : Int) = 0)) && decide ((1 : Int) < (kcnt n : Int))
  else false
theorem shape_ok (n : Node) : g_node_shape n = some (shapeB n) := by
  unfold g_node_shape shapeB
  rw [Kids_ok, Option.bind_some]
  show _ = _
  cases decide (n.fKind = 1) <;> cases decide (n.fKind = 2) <;> cases decide (n.fKind = 3) <;> rfl
def chkB (R : List UInt8 → Bool) (n : Node) : Bool := (okP n.fPath && n.fKids.1.all R) && shapeB n
theorem any_not {α : Type} (p : α → Bool) : ∀ l : List α, (l.any fun x => !(p x)) = !(l.all p)
  | [] => rfl
  | x :: r => by simp [any_not p r]
theorem Check_ok (self : List UInt8 → Option Bool) (R : List UInt8 → Bool) (n : Node) (hk : ∀ k ∈ n.fKids.1, self k = some (R k)) (hp : n.fPath.length ≤ 1000000) : gs_node_Check self n = some (if chkB R n = true then 0 else 2) := by
  have h16 := kids16 n
  have hR := Right_ok n.fPath (by omega)
  obtain ⟨r, hr, h⟩ := ContainsS n.fKids.1 (fun y0 => gs_node_Check_1 self y0) (fun k => !(R k)) (fun y hy => by unfold gs_node_Check_1; rw [hk y hy]; rfl) (by omega)
  have hC : g_slices_ContainsFunc_string_string n.fKids.1 (fun y0 => gs_node_Check_1 self y0) = some (!(n.fKids.1.all R)) := by
    unfold g_slices_ContainsFunc_string_string
    rw [hr, Option.bind_some, ← any_not]
    congr 1
    rcases h with ⟨i, rfl, hi, h1, _⟩ | ⟨rfl, h1⟩
    · rw [decide_eq_true (by omega)]; exact (List.any_eq_true.2 ⟨_, idx_mem _ hi, h1⟩).symm
    · rw [decide_eq_false (by omega)]; symm; rw [List.any_eq_false]; intro x hx
      obtain ⟨i, hi, rfl⟩ := List.mem_iff_getElem.1 hx
      have := h1 i hi
      rw [idx_get _ hi] at this; simpa using this
  unfold gs_node_Check chkB okP
  rw [shape_ok, Option.bind_some, hR, hC]
  have hd : decide ((64 : Int) < (n.fPath.length : Int)) = !(decide (n.fPath.length ≤ 64)) := by
    rw [Bool.eq_iff_iff]; simp; omega
  rw [hd]
  cases shapeB n <;> cases right n.fPath <;> cases decide (n.fPath.length ≤ 64) <;> cases n.fKids.1.all R <;> rfl
theorem May_ok (self : List UInt8 → Option Bool) (R : List UInt8 → Bool) (n : Node) (hk : ∀ k ∈ n.fKids.1, self k = some (R k)) (hp : n.fPath.length ≤ 1000000) : gs_ref06_May self n = some (chkB R n) := by
  have h16 := kids16 n
  have hR := RRight_ok n.fPath (by omega)
  have hd : decide ((64 : Int) < (n.fPath.length : Int)) = !(decide (n.fPath.length ≤ 64)) := by
    rw [Bool.eq_iff_iff]; simp; omega
  unfold chkB okP
  cases hrl : right n.fPath && decide (n.fPath.length ≤ 64) with
  | false =>
    refine theC_eq (Comes.stop ?_)
    simp only [step_ref06_May]
    rw [hR, Option.bind_some, hd]
    have : ((!(right n.fPath)) || !(decide (n.fPath.length ≤ 64))) = true := by
      rw [← Bool.not_and, hrl]; rfl
    rw [this, cond_true]
    rfl
  | true =>
    have h := Comes.all (step := step_ref06_May self n) (fun i => .L1 (i : Int)) (fun i => R (idx n.fKids.1 (i : Int))) 16 false (shapeB n) (by
      intro i hi h
      simp only [step_ref06_May]
      rw [decide_eq_true (by omega), cond_true, gO_pos (by omega), hk _ (idx_mem _ (by omega)), Option.bind_some, h, Bool.not_true, cond_false, gO_pos (by unfold inI; omega)]
      rfl) (by
      intro i hi h
      simp only [step_ref06_May]
      rw [decide_eq_true (by omega), cond_true, gO_pos (by omega), hk _ (idx_mem _ (by omega)), Option.bind_some, h]
      rfl) (by
      refine Comes.stop ?_
      simp only [step_ref06_May]
      rw [decide_eq_false (by omega), cond_false, RKids_ok]
      unfold shapeB
      have hv : decide ((1 : Int) ≤ (n.fValue.length : Int)) = !(n.fValue == []) := by
        cases n.fValue with
        | nil => rfl
        | cons a r => rw [decide_eq_true (by simp only [List.length_cons]; omega)]; rfl
      have hk2 : decide ((2 : Int) ≤ ((kcnt n : Nat) : Int)) = decide ((1 : Int) < (kcnt n : Int)) := by
        rw [Bool.eq_iff_iff]; simp only [decide_eq_true_eq]; omega
      rw [hv]
      cases decide (n.fKind = 1) <;> cases decide (n.fKind = 2) <;> cases decide (n.fKind = 3) <;> cases (n.fValue == []) <;> cases decide ((n.fValue.length : Int) ≤ 65552) <;> cases decide ((0 : Int) < (n.fPath.length : Int)) <;> cases decide ((n.fPath.length : Int) = 0) <;> cases (idx n.fKids.1 (0 : Int) == []) <;> simp only [Option.bind_some, Bool.not_true, Bool.not_false, Bool.and_true, Bool.and_false, Bool.true_and, Bool.false_and, cond_true, cond_false, Bool.and_self, beq_self_eq_true, Bool.false_beq, Bool.true_beq, hk2])
    have hall := all_range n.fKids.1 R
    rw [h16] at hall
    rw [hall] at h
    refine theC_eq (Comes.next (c' := .L1 0) ?_ ?_)
    · simp only [step_ref06_May]
      rw [hR, Option.bind_some, hd]
      have : ((!(right n.fPath)) || !(decide (n.fPath.length ≤ 64))) = false := by
        rw [← Bool.not_and, hrl]; rfl
      rw [this, cond_false]
    · rw [Bool.true_and]
      cases ha : n.fKids.1.all R with
      | true => rw [ha, cond_true] at h; rw [Bool.true_and]; exact h
      | false => rw [ha, cond_false] at h; rw [Bool.false_and]; exact h
end Go.Proofs.Ytoeppofkmcdknaa.K
