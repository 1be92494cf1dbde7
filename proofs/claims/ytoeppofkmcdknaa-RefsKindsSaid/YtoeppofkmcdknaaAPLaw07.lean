import Derived.Test.YtoeppofkmcdknaaAPRefs
/- The laws of layer 07 hold. -/
namespace Go.Proofs.Ytoeppofkmcdknaa.K
open Go
set_option linter.unusedVariables false
set_option linter.unusedSimpArgs false
def awV : List UInt8 := [97, 32, 118, 97, 108, 117, 101, 32, 116, 104, 97, 116, 32, 105, 115, 32, 114, 97, 116, 104, 101, 114, 32, 97, 32, 108, 111, 110, 103, 32, 111, 110, 101]
def awM : Node := ⟨1, [1], awV, Arr.rep 16 []⟩
def awB : List UInt8 := [227, 49, 161] ++ awV
theorem awM_chk : chkB RF awM = true := by
  unfold chkB
  rw [show okP awM.fPath = true from by decide, show awM.fKids.1.all RF = true from all_rep RF RF0, show shapeB awM = true from by decide]; rfl
theorem awM_enc : ienc (itemN awM) = awB := by
  have : itemN awM = ⟨true, [], [txt [49], txt awV]⟩ := by
    unfold itemN
    rw [if_pos (show awM.fKind = 1 from rfl), show packS awM.fPath true = [49] from by decide]; rfl
  rw [this, ienc_list]
  simp [iencs, txt_enc, hd, hdC, awB, awV]
theorem awS_ne : shaB awS ≠ shaB awB := by
  rw [show shaB awS = _ from kaS, show shaB awB = _ from kbS]
  intro h
  exact absurd (congrArg (fun l => l.headD 0) h) (by decide)
theorem awB_of : rOf awB = shaB awB := by unfold rOf; rw [if_neg (by decide)]
theorem awS_of : rOf awS = awS := by unfold rOf; rw [if_pos (by decide)]
theorem allS_1 : (allV awS).length = 1 := by
  have hG := PutGet awL_chk rep_small (by decide)
  rw [awL_enc] at hG
  rw [(All_ok awS (by decide)).2.2.2 _ hG]
  have : awL.fKids.1.filter sml = [] := by
    rw [List.filter_eq_nil_iff]
    intro k hk
    have : k = [] := List.eq_of_mem_replicate hk
    rw [this]; decide
  rw [this]; rfl
theorem awake7_ok : g_law07_awake = some true := by
  have hP1 := NPut_top awL rep_small (by decide) (by decide)
  rw [if_pos awL_chk, awL_enc] at hP1
  have hP2 := NPut_top awM rep_small (by decide) (by decide)
  rw [if_pos awM_chk, awM_enc] at hP2
  have hL : g_node_Leaf [1] [97] = some awL := Leaf_ok _ _ (by decide)
  have hM : g_node_Leaf [1] awV = some awM := Leaf_ok _ _ (by decide)
  have hB := Of_ok awB (by decide)
  rw [awB_of] at hB
  have hS := Of_ok awS (by decide)
  rw [awS_of] at hS
  have h32 := shaB_len awB
  have m2 : ∀ x ∈ [awS, awB], x.length ≤ 1000000 := by
    intro x hx
    rcases List.mem_cons.1 hx with rfl | hx
    · decide
    · rcases List.mem_cons.1 hx with rfl | hx
      · decide
      · cases hx
  have m3 : ∀ x ∈ [awS, awB, awS], x.length ≤ 1000000 := by
    intro x hx
    rcases List.mem_cons.1 hx with rfl | hx
    · decide
    · exact m2 x (by
        rcases List.mem_cons.1 hx with rfl | hx
        · exact List.mem_cons_of_mem _ (List.mem_cons_self ..)
        · rw [List.mem_singleton.1 hx]; exact List.mem_cons_self ..)
  have hF : g_refs_Find (shaB awB) [awS, awB] = some (awB, true) := by
    have h1 : hit (shaB awB) awB = true := by
      unfold hit
      rw [awB_of, beq_self_eq_true, show (awB == ([] : List UInt8)) = false from by decide]; rfl
    have h0 : hit (shaB awB) awS = false := by
      unfold hit
      rw [awS_of, show (awS == ([] : List UInt8)) = false from by decide, beq_eq_false_iff_ne.2 (by intro h; rw [h] at h32; exact absurd h32 (by decide))]; rfl
    obtain ⟨p, hp, h⟩ := Find_ok (shaB awB) [awS, awB] (by decide) m2
    rw [hp]
    rcases h with ⟨i, rfl, hi, ha, hb⟩ | ⟨rfl, ha⟩
    · match i, hi with
      | 0, _ => exact absurd (ha.symm.trans h0) (by decide)
      | 1, _ => rfl
    · exact absurd ((ha 1 (by decide)).symm.trans h1) (by decide)
  have hC : g_refs_Clash [awS, awB, awS] = some (0, 0, false) := by
    obtain ⟨p, hp, h⟩ := Clash_ok [awS, awB, awS] (by decide) m3
    rw [hp]
    rcases h with ⟨j, k, rfl, h1, h2, h3⟩ | ⟨rfl, _⟩
    · have h2 : k < 3 := h2
      have : (j = 0 ∧ k = 1) ∨ (j = 0 ∧ k = 2) ∨ (j = 1 ∧ k = 2) := by omega
      rcases this with ⟨rfl, rfl⟩ | ⟨rfl, rfl⟩ | ⟨rfl, rfl⟩
      · exact absurd h3.1 awS_ne
      · exact absurd rfl h3.2
      · exact absurd h3.1.symm awS_ne
    · rfl
  have hK2 : g_refs_Kind awS = some 2 := by
    rw [Kind_ok awS (by decide)]
    unfold kindV
    rw [if_neg (by decide), if_pos awS_ref, if_neg (by decide)]
  have hK1 : g_refs_Kind (shaB awB) = some 1 := by
    rw [Kind_ok _ (by omega)]
    unfold kindV
    rw [if_neg (by intro h; rw [h] at h32; simp at h32), if_pos (RF_nil (.inr h32)), if_pos h32]
  have hK0 : g_refs_Kind [] = some 0 := rfl
  have hK3 : g_refs_Kind [120] = some 3 := by
    rw [Kind_ok _ (by decide)]
    unfold kindV
    rw [if_neg (by decide), if_neg (by rw [x_noref]; decide)]
  have hA := (All_ok awS (by decide)).1
  have hA1 := allS_1
  have d32 : decide (((shaB awB).length : Int) = 32) = true := decide_eq_true (by omega)
  have d1 : decide (((allV awS).length : Int) = 1) = true := decide_eq_true (by omega)
  unfold g_law07_awake
  rw [hL, Option.bind_some, hP1, Option.bind_some, show ([97, 32, 118, 97, 108, 117, 101, 32, 116, 104, 97, 116, 32, 105, 115, 32, 114, 97, 116, 104, 101, 114, 32, 97, 32, 108, 111, 110, 103, 32, 111, 110, 101] : List UInt8) = awV from rfl, hM, Option.bind_some, hP2, Option.bind_some]
  simp only []
  rw [hB, Option.bind_some, hF, Option.bind_some, hC, Option.bind_some, hS, Option.bind_some]
  simp only [beq_self_eq_true, cond_true, Option.bind_some, d32, Bool.and_self, hK2, hK1, hK0, hK3, decide_true, Bool.not_false, hA, d1]
theorem RefsKinds_true (r s : List UInt8) : g_law07_RefsKinds r s = some true := by
  unfold g_law07_RefsKinds
  rw [awake7_ok]
  by_cases hl : 200 < r.length ∨ 1000 < s.length
  · have : (decide ((200 : Int) < (r.length : Int)) || decide ((1000 : Int) < (s.length : Int))) = true := by
      rw [Bool.or_eq_true, decide_eq_true_eq, decide_eq_true_eq]; omega
    rw [this]; rfl
  · have : (decide ((200 : Int) < (r.length : Int)) || decide ((1000 : Int) < (s.length : Int))) = false := by
      rw [Bool.or_eq_false_iff, decide_eq_false_iff_not, decide_eq_false_iff_not]; omega
    rw [this, cond_false]
    have hK := Kind_ok r (by omega)
    have hR := RF_ref (s := r) (by omega)
    obtain ⟨a1, a2, a3, _⟩ := All_ok s (by omega)
    have hS := SameS_ok (allV s) (allV s) (by omega)
    have hv : (bif (r == ([] : List UInt8)) then some (0 : Int) else ((g_ref06_Reference r).bind fun (x_5 : Bool) => (bif (x_5 && (decide ((r.length : Int) = (32 : Int)))) then some 1 else ((g_ref06_Reference r).bind fun (x_8 : Bool) => (bif x_8 then some 2 else some 3))))) = some (kindV r) := by
      unfold kindV
      by_cases h0 : r = []
      · rw [h0]; rfl
      · rw [if_neg h0, beq_eq_false_iff_ne.2 h0, cond_false, hR, Option.bind_some, Option.bind_some]
        cases RF r with
        | false => rfl
        | true =>
          rw [if_pos rfl]
          by_cases h : r.length = 32
          · rw [decide_eq_true (by omega), if_pos h]; rfl
          · rw [decide_eq_false (by omega), if_neg h]; rfl
    rw [hv, Option.bind_some, Option.bind_some, beq_self_eq_true, cond_true, hK, Option.bind_some]
    simp only [decide_true, Bool.and_self, beq_self_eq_true, cond_true]
    rw [a1, Option.bind_some, a2, Option.bind_some, hS, Option.bind_some, beq_self_eq_true]
    rfl
end Go.Proofs.Ytoeppofkmcdknaa.K
