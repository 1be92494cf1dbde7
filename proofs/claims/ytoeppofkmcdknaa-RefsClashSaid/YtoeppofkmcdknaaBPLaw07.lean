import Derived.Test.YtoeppofkmcdknaaBPRefs
/- The laws of layer 07 hold. -/
namespace Go.Proofs.Ytoeppofkmcdknaa.K
open Go
set_option linter.unusedVariables false
set_option linter.unusedSimpArgs false
def awV : List UInt8 := [97, 32, 118, 97, 108, 117, 101, 32, 116, 104, 97, 116, 32, 105, 115, 32, 114, 97, 116, 104, 101, 114, 32, 97, 32, 108, 111, 110, 103, 32, 111, 110, 101]
def awM : Node := ⟨1, [1], awV, Arr.rep 16 []⟩
def awB : List UInt8 := [227, 49, 161] ++ awV
theorem awM_chk : chkB RF awM = true := by
  unfold chkB
  rw [show okP awM.fPath = true from by decide, show awM.fKids.1.all RF = true from all_rep RF RF0, show shapeB awM = true from by decide]; rfl
theorem awM_enc : ienc (itemN awM) = awB := by
  have : itemN awM = ⟨true, [], [txt [49], txt awV]⟩ := by
    unfold itemN
    rw [if_pos (show awM.fKind = 1 from rfl), show packS awM.fPath true = [49] from by decide]; rfl
  rw [this, ienc_list]
  simp [iencs, txt_enc, hd, hdC, awB, awV]
theorem awS_ne : shaB awS ≠ shaB awB := by
  rw [show shaB awS = _ from kaS, show shaB awB = _ from kbS]
  intro h
  exact absurd (congrArg (fun l => l.headD 0) h) (by decide)
theorem awB_of : rOf awB = shaB awB := by unfold rOf; rw [if_neg (by decide)]
theorem awS_of : rOf awS = awS := by unfold rOf; rw [if_pos (by decide)]
theorem allS_1 : (allV awS).length = 1 := by
  have hG := PutGet awL_chk rep_small (by decide)
  rw [awL_enc] at hG
  rw [(All_ok awS (by decide)).2.2.2 _ hG]
  have : awL.fKids.1.filter sml = [] := by
    rw [List.filter_eq_nil_iff]
    intro k hk
    have : k = [] := List.eq_of_mem_replicate hk
    rw [this]; decide
  rw [this]; rfl
theorem awake7_ok : g_law07_awake = some true := by
  have hP1 := NPut_top awL rep_small (by decide) (by decide)
  rw [if_pos awL_chk, awL_enc] at hP1
  have hP2 := NPut_top awM rep_small (by decide) (by decide)
  rw [if_pos awM_chk, awM_enc] at hP2
  have hL : g_node_Leaf [1] [97] = some awL := Leaf_ok _ _ (by decide)
  have hM : g_node_Leaf [1] awV = some awM := Leaf_ok _ _ (by decide)
  have hB := Of_ok awB (by decide)
  rw [awB_of] at hB
  have hS := Of_ok awS (by decide)
  rw [awS_of] at hS
  have h32 := shaB_len awB
  have m2 : ∀ x ∈ [awS, awB], x.length ≤ 1000000 := by
    intro x hx
    rcases List.mem_cons.1 hx with rfl | hx
    · decide
    · rcases List.mem_cons.1 hx with rfl | hx
      · decide
      · cases hx
  have m3 : ∀ x ∈ [awS, awB, awS], x.length ≤ 1000000 := by
    intro x hx
    rcases List.mem_cons.1 hx with rfl | hx
    · decide
    · exact m2 x (by
        rcases List.mem_cons.1 hx with rfl | hx
        · exact List.mem_cons_of_mem _ (List.mem_cons_self ..)
        · rw [List.mem_singleton.1 hx]; exact List.mem_cons_self ..)
  have hF : g_refs_Find (shaB awB) [awS, awB] = some (awB, true) := by
    have h1 : hit (shaB awB) awB = true := by
      unfold hit
      rw [awB_of, beq_self_eq_true, show (awB == ([] : List UInt8)) = false from by decide]; rfl
    have h0 : hit (shaB awB) awS = false := by
      unfold hit
      rw [awS_of, show (awS == ([] : List UInt8)) = false from by decide, beq_eq_false_iff_ne.2 (by intro h; rw [h] at h32; exact absurd h32 (by decide))]; rfl
    obtain ⟨p, hp, h⟩ := Find_ok (shaB awB) [awS, awB] (by decide) m2
    rw [hp]
    rcases h with ⟨i, rfl, hi, ha, hb⟩ | ⟨rfl, ha⟩
    · match i, hi with
      | 0, _ => exact absurd (ha.symm.trans h0) (by decide)
      | 1, _ => rfl
    · exact absurd ((ha 1 (by decide)).symm.trans h1) (by decide)
  have hC : g_refs_Clash [awS, awB, awS] = some (0, 0, false) := by
    obtain ⟨p, hp, h⟩ := Clash_ok [awS, awB, awS] (by decide) m3
    rw [hp]
    rcases h with ⟨j, k, rfl, h1, h2, h3⟩ | ⟨rfl, _⟩
    · have h2 : k < 3 := h2
      have : (j = 0 ∧ k = 1) ∨ (j = 0 ∧ k = 2) ∨ (j = 1 ∧ k = 2) := by omega
      rcases this with ⟨rfl, rfl⟩ | ⟨rfl, rfl⟩ | ⟨rfl, rfl⟩
      · exact absurd h3.1 awS_ne
      · exact absurd rfl h3.2
      · exact absurd h3.1.symm awS_ne
    · rfl
  have hK2 : g_refs_Kind awS = some 2 := by
    rw [Kind_ok awS (by decide)]
    unfold kindV
    rw [if_neg (by decide), if_pos awS_ref, if_neg (by decide)]
  have hK1 : g_refs_Kind (shaB awB) = some 1 := by
    rw [Kind_ok _ (by omega)]
    unfold kindV
    rw [if_neg (by intro h; rw [h] at h32; simp at h32), if_pos (RF_nil (.inr h32)), if_pos h32]
  have hK0 : g_refs_Kind [] = some 0 := rfl
  have hK3 : g_refs_Kind [120] = some 3 := by
    rw [Kind_ok _ (by decide)]
    unfold kindV
    rw [if_neg (by decide), if_neg (by rw [x_noref]; decide)]
  have hA := (All_ok awS (by decide)).1
  have hA1 := allS_1
  have d32 : decide (((shaB awB).length : Int) = 32) = true := decide_eq_true (by omega)
  have d1 : decide (((allV awS).length : Int) = 1) = true := decide_eq_true (by omega)
  unfold g_law07_awake
  rw [hL, Option.bind_some, hP1, Option.bind_some, show ([97, 32, 118, 97, 108, 117, 101, 32, 116, 104, 97, 116, 32, 105, 115, 32, 114, 97, 116, 104, 101, 114, 32, 97, 32, 108, 111, 110, 103, 32, 111, 110, 101] : List UInt8) = awV from rfl, hM, Option.bind_some, hP2, Option.bind_some]
  simp only []
  rw [hB, Option.bind_some, hF, Option.bind_some, hC, Option.bind_some, hS, Option.bind_some]
  simp only [beq_self_eq_true, cond_true, Option.bind_some, d32, Bool.and_self, hK2, hK1, hK0, hK3, decide_true, Bool.not_false, hA, d1]
theorem Clash_L2l (l0 l : List (List UInt8)) (hl : l.length ≤ 12) (he : (∀ x ∈ l, x.length ≤ 200) → Comes (step_law07_RefsClash l0) (.L2 l (l.length : Int)) true) :
    ∀ m i, m + i = l.length → (∀ j, j < i → (idx l (j : Int)).length ≤ 200) → Comes (step_law07_RefsClash l0) (.L2 l (i : Int)) true
  | 0, i, hi, hj => by
    have : i = l.length := by omega
    subst this
    refine he fun x hx => ?_
    obtain ⟨i, hi, rfl⟩ := List.mem_iff_getElem.1 hx
    have := hj i hi
    rwa [idx_get l hi] at this
  | m + 1, i, hi, hj => by
    by_cases h : 200 < (idx l (i : Int)).length
    · refine Comes.stop ?_
      simp only [step_law07_RefsClash]
      rw [decide_eq_true (by omega), cond_true, gO_pos (by omega), decide_eq_true (by omega), cond_true, awake7_ok]; rfl
    · refine Comes.next (c' := .L2 l ((i + 1 : Nat) : Int)) ?_ (Clash_L2l l0 l hl he m (i + 1) (by omega) fun j hj' => ?_)
      · simp only [step_law07_RefsClash]
        rw [decide_eq_true (by omega), cond_true, gO_pos (by omega), decide_eq_false (by omega), cond_false, gO_pos (by unfold inI; omega)]
        rfl
      · rcases Nat.lt_succ_iff_lt_or_eq.1 hj' with h1 | h1
        · exact hj j h1
        · rw [h1]; omega
theorem RefsClash_end (l0 l : List (List UInt8)) (hl : l.length ≤ 12) (ht : ∀ x ∈ l, x.length ≤ 200) : Comes (step_law07_RefsClash l0) (.L2 l (l.length : Int)) true := by
  have ht' : ∀ x ∈ l, x.length ≤ 1000000 := fun x hx => by have := ht x hx; omega
  obtain ⟨p, hp, h⟩ := Clash_ok l (by omega) ht'
  refine Comes.stop ?_
  simp only [step_law07_RefsClash]
  rw [decide_eq_false (by omega), cond_false, hp, Option.bind_some, awake7_ok]
  rcases h with ⟨j, k, rfl, h1, h2, h3⟩ | ⟨rfl, hno⟩
  · have e1 : (!(idx l (j : Int) == idx l (k : Int))) = true := by rw [beq_eq_false_iff_ne.2 h3.2]; rfl
    simp only [Bool.not_true, cond_false, Option.bind_some, e1]
    rw [show decide ((0 : Int) ≤ (j : Int)) = true from decide_eq_true (by omega), show decide ((j : Int) < (k : Int)) = true from decide_eq_true (by omega), show decide ((k : Int) < (l.length : Int)) = true from decide_eq_true (by omega)]
    rw [gO_pos (fun _ => by omega), gO_pos (fun _ => by omega), gO_pos (fun _ => by omega)]
    simp only [Bool.and_self, beq_self_eq_true, cond_true]
    rw [ROf_ok _ (ht' _ (idx_mem l (by omega))), Option.bind_some, gO_pos (fun _ => by omega), ROf_ok _ (ht' _ (idx_mem l (by omega))), Option.bind_some, beq_iff_eq.2 h3.1]
    rfl
  · obtain ⟨b, hb, hb2⟩ := RClash_ok l (by omega) ht'
    have : b = false := by
      cases b with
      | false => rfl
      | true =>
        obtain ⟨j, k, h1, h2, h3⟩ := hb2 rfl
        exact absurd h3 (hno j k h1 h2)
    subst this
    simp only [Bool.not_false, cond_true, Option.bind_some, decide_true, Bool.and_self, beq_self_eq_true]
    rw [hb]; rfl
theorem RefsClash_true (l : List (List UInt8)) : g_law07_RefsClash l = some true := by
  by_cases h : 12 < l.length
  · have hl : (l.take 12).length ≤ 12 := by rw [List.length_take]; omega
    refine theC_eq (Comes.next (c' := .L2 (l.take 12) ((0 : Nat) : Int)) ?_ (Clash_L2l l (l.take 12) hl (RefsClash_end l _ hl) _ 0 rfl fun j hj => absurd hj (by omega)))
    simp only [step_law07_RefsClash]
    rw [decide_eq_true (by omega), cond_true, gO_pos (by omega), Option.bind_some, show sub l (0 : Int) (12 : Int) = l.take 12 from sub_pre l 12]
    rfl
  · have hl : l.length ≤ 12 := by omega
    refine theC_eq (Comes.next (c' := .L2 l ((0 : Nat) : Int)) ?_ (Clash_L2l l l hl (RefsClash_end l _ hl) _ 0 rfl fun j hj => absurd hj (by omega)))
    simp only [step_law07_RefsClash]
    rw [decide_eq_false (by omega), cond_false, Option.bind_some]
    rfl
end Go.Proofs.Ytoeppofkmcdknaa.K
