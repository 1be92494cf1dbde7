import Derived.Test.YtoeppofkmcdknaaCPRefs
/- The laws of layer 07 hold. -/
namespace Go.Proofs.Ytoeppofkmcdknaa.K
open Go
set_option linter.unusedVariables false
set_option linter.unusedSimpArgs false
def awV : List UInt8 := [97, 32, 118, 97, 108, 117, 101, 32, 116, 104, 97, 116, 32, 105, 115, 32, 114, 97, 116, 104, 101, 114, 32, 97, 32, 108, 111, 110, 103, 32, 111, 110, 101]
def awM : Node := ⟨1, [1], awV, Arr.rep 16 []⟩
def awB : List UInt8 := [227, 49, 161] ++ awV
theorem awM_chk : chkB RF awM = true := by
  unfold chkB
  rw [show okP awM.fPath = true from by decide, show awM.fKids.1.all RF = true from all_rep RF RF0, show shapeB awM = true from by decide]; rfl
theorem awM_enc : ienc (itemN awM) = awB := by
  have : itemN awM = ⟨true, [], [txt [49], txt awV]⟩ := by
    unfold itemN
    rw [if_pos (show awM.fKind = 1 from rfl), show packS awM.fPath true = [49] from by decide]; rfl
  rw [this, ienc_list]
  simp [iencs, txt_enc, hd, hdC, awB, awV]
theorem awS_ne : shaB awS ≠ shaB awB := by
  rw [show shaB awS = _ from kaS, show shaB awB = _ from kbS]
  intro h
  exact absurd (congrArg (fun l => l.headD 0) h) (by decide)
theorem awB_of : rOf awB = shaB awB := by unfold rOf; rw [if_neg (by decide)]
theorem awS_of : rOf awS = awS := by unfold rOf; rw [if_pos (by decide)]
theorem allS_1 : (allV awS).length = 1 := by
  have hG := PutGet awL_chk rep_small (by decide)
  rw [awL_enc] at hG
  rw [(All_ok awS (by decide)).2.2.2 _ hG]
  have : awL.fKids.1.filter sml = [] := by
    rw [List.filter_eq_nil_iff]
    intro k hk
    have : k = [] := List.eq_of_mem_replicate hk
    rw [this]; decide
  rw [this]; rfl
theorem awake7_ok : g_law07_awake = some true := by
  have hP1 := NPut_top awL rep_small (by decide) (by decide)
  rw [if_pos awL_chk, awL_enc] at hP1
  have hP2 := NPut_top awM rep_small (by decide) (by decide)
  rw [if_pos awM_chk, awM_enc] at hP2
  have hL : g_node_Leaf [1] [97] = some awL := Leaf_ok _ _ (by decide)
  have hM : g_node_Leaf [1] awV = some awM := Leaf_ok _ _ (by decide)
  have hB := Of_ok awB (by decide)
  rw [awB_of] at hB
  have hS := Of_ok awS (by decide)
  rw [awS_of] at hS
  have h32 := shaB_len awB
  have m2 : ∀ x ∈ [awS, awB], x.length ≤ 1000000 := by
    intro x hx
    rcases List.mem_cons.1 hx with rfl | hx
    · decide
    · rcases List.mem_cons.1 hx with rfl | hx
      · decide
      · cases hx
  have m3 : ∀ x ∈ [awS, awB, awS], x.length ≤ 1000000 := by
    intro x hx
    rcases List.mem_cons.1 hx with rfl | hx
    · decide
    · exact m2 x (by
        rcases List.mem_cons.1 hx with rfl | hx
        · exact List.mem_cons_of_mem _ (List.mem_cons_self ..)
        · rw [List.mem_singleton.1 hx]; exact List.mem_cons_self ..)
  have hF : g_refs_Find (shaB awB) [awS, awB] = some (awB, true) := by
    have h1 : hit (shaB awB) awB = true := by
      unfold hit
      rw [awB_of, beq_self_eq_true, show (awB == ([] : List UInt8)) = false from by decide]; rfl
    have h0 : hit (shaB awB) awS = false := by
      unfold hit
      rw [awS_of, show (awS == ([] : List UInt8)) = false from by decide, beq_eq_false_iff_ne.2 (by intro h; rw [h] at h32; exact absurd h32 (by decide))]; rfl
    obtain ⟨p, hp, h⟩ := Find_ok (shaB awB) [awS, awB] (by decide) m2
    rw [hp]
    rcases h with ⟨i, rfl, hi, ha, hb⟩ | ⟨rfl, ha⟩
    · match i, hi with
      | 0, _ => exact absurd (ha.symm.trans h0) (by decide)
      | 1, _ => rfl
    · exact absurd ((ha 1 (by decide)).symm.trans h1) (by decide)
  have hC : g_refs_Clash [awS, awB, awS] = some (0, 0, false) := by
    obtain ⟨p, hp, h⟩ := Clash_ok [awS, awB, awS] (by decide) m3
    rw [hp]
    rcases h with ⟨j, k, rfl, h1, h2, h3⟩ | ⟨rfl, _⟩
    · have h2 : k < 3 := h2
      have : (j = 0 ∧ k = 1) ∨ (j = 0 ∧ k = 2) ∨ (j = 1 ∧ k = 2) := by omega
      rcases this with ⟨rfl, rfl⟩ | ⟨rfl, rfl⟩ | ⟨rfl, rfl⟩
      · exact absurd h3.1 awS_ne
      · exact absurd rfl h3.2
      · exact absurd h3.1.symm awS_ne
    · rfl
  have hK2 : g_refs_Kind awS = some 2 := by
    rw [Kind_ok awS (by decide)]
    unfold kindV
    rw [if_neg (by decide), if_pos awS_ref, if_neg (by decide)]
  have hK1 : g_refs_Kind (shaB awB) = some 1 := by
    rw [Kind_ok _ (by omega)]
    unfold kindV
    rw [if_neg (by intro h; rw [h] at h32; simp at h32), if_pos (RF_nil (.inr h32)), if_pos h32]
  have hK0 : g_refs_Kind [] = some 0 := rfl
  have hK3 : g_refs_Kind [120] = some 3 := by
    rw [Kind_ok _ (by decide)]
    unfold kindV
    rw [if_neg (by decide), if_neg (by rw [x_noref]; decide)]
  have hA := (All_ok awS (by decide)).1
  have hA1 := allS_1
  have d32 : decide (((shaB awB).length : Int) = 32) = true := decide_eq_true (by omega)
  have d1 : decide (((allV awS).length : Int) = 1) = true := decide_eq_true (by omega)
  unfold g_law07_awake
  rw [hL, Option.bind_some, hP1, Option.bind_some, show ([97, 32, 118, 97, 108, 117, 101, 32, 116, 104, 97, 116, 32, 105, 115, 32, 114, 97, 116, 104, 101, 114, 32, 97, 32, 108, 111, 110, 103, 32, 111, 110, 101] : List UInt8) = awV from rfl, hM, Option.bind_some, hP2, Option.bind_some]
  simp only []
  rw [hB, Option.bind_some, hF, Option.bind_some, hC, Option.bind_some, hS, Option.bind_some]
  simp only [beq_self_eq_true, cond_true, Option.bind_some, d32, Bool.and_self, hK2, hK1, hK0, hK3, decide_true, Bool.not_false, hA, d1]
def AtI (t : List UInt8) (l : List (List UInt8)) (i : Nat) (at' : Int) : Prop := (at' = -1 ∧ ∀ j, i ≤ j → j < l.length → hit t (idx l (j : Int)) = false) ∨ (∃ q : Nat, at' = (q : Int) ∧ i ≤ q ∧ q < l.length ∧ hit t (idx l (q : Int)) = true ∧ ∀ j, i ≤ j → j < q → hit t (idx l (j : Int)) = false)
theorem RefsOf_end (s t : List UInt8) (l : List (List UInt8)) (hs : s.length ≤ 300) (ht : t.length ≤ 300) (hl : l.length ≤ 12) (hx : ∀ x ∈ l, x.length ≤ 300) (at' : Int) (ha : AtI t l 0 at') : Comes (step_law07_RefsOf s t l) (.L1 at' (-1)) true := by
  have hx' : ∀ x ∈ l, x.length ≤ 1000000 := fun x h => by have := hx x h; omega
  obtain ⟨p, hp, h⟩ := Find_ok t l (by omega) hx'
  obtain ⟨r, hr1, hr2⟩ := Root_ok s (by omega)
  have hO := Of_ok s (by omega)
  have hR := R7Of_ok s (by omega)
  have hM := Match_ok t s (by omega)
  have tail : (g_law07_awake.bind fun (x_22 : Bool) =>
    ((bif (x_22 == true) then g_refs_Of s else some default).bind fun (x_24 : (List UInt8)) =>
    ((bif (x_22 == true) then g_ref07_Of s else some default).bind fun (x_26 : (List UInt8)) =>
    ((bif ((x_22 && (x_24 == x_26)) == true) then g_refs_Root s else some default).bind fun (x_28 : (Arr 32 UInt8)) =>
    ((bif ((x_22 && (x_24 == x_26)) == true) then g_ref07_Root s else some default).bind fun (x_30 : (Arr 32 UInt8)) =>
    ((bif (((x_22 && (x_24 == x_26)) && (x_28.1 == x_30.1)) == true) then g_refs_Match t s else some default).bind fun (x_32 : Bool) =>
    ((bif ((((x_22 && (x_24 == x_26)) && (x_28.1 == x_30.1)) == true) && ((!(s == ([] : List UInt8))) == true)) then g_ref07_Of s else some default).bind fun (x_34 : (List UInt8)) =>
    some (Sum.inr (((x_22 && (x_24 == x_26)) && (x_28.1 == x_30.1)) && (x_32 == ((!(s == ([] : List UInt8))) && (x_34 == t)))))))))))) = some (Sum.inr true : C_law07_RefsOf ⊕ Bool) := by
    rw [awake7_ok, Option.bind_some, beq_self_eq_true, cond_true, hO, Option.bind_some, cond_true, hR, Option.bind_some, beq_self_eq_true, Bool.and_self, beq_self_eq_true, cond_true, hr1, Option.bind_some, cond_true, hr2, Option.bind_some, beq_self_eq_true, Bool.and_self, beq_self_eq_true, cond_true, hM, Option.bind_some]
    unfold hit
    cases h0 : (s == ([] : List UInt8)) with
    | true => rfl
    | false =>
      rw [show (t == rOf s) = (rOf s == t) from Bool.beq_comm]
      simp
  rcases h with ⟨i, rfl, hi, h1, h2⟩ | ⟨rfl, h1⟩
  · rcases ha with ⟨_, h3⟩ | ⟨q, rfl, _, hq, h3, h4⟩
    · rw [h3 i (Nat.zero_le _) hi] at h1
      exact absurd h1 (by decide)
    · have : i = q := by
        rcases Nat.lt_trichotomy i q with h | h | h
        · rw [h4 i (Nat.zero_le _) h] at h1; exact absurd h1 (by decide)
        · exact h
        · rw [h2 q h] at h3; exact absurd h3 (by decide)
      subst this
      refine Comes.stop ?_
      simp only [step_law07_RefsOf]
      rw [decide_eq_false (by decide), cond_false, hp, Option.bind_some, gO_pos (fun _ => by omega)]
      simp only [beq_self_eq_true, Bool.not_true, Bool.and_false, Bool.or_false, Bool.false_and]
      rw [decide_eq_true (by omega)]
      exact tail
  · rcases ha with ⟨rfl, h3⟩ | ⟨q, rfl, _, hq, h3, h4⟩
    · refine Comes.stop ?_
      simp only [step_law07_RefsOf]
      rw [decide_eq_false (by decide), cond_false, hp, Option.bind_some]
      rw [gO_pos (fun h => by simp at h)]
      exact tail
    · rw [h1 q hq] at h3
      exact absurd h3 (by decide)
theorem RefsOf_L1 (s t : List UInt8) (l : List (List UInt8)) (hs : s.length ≤ 300) (ht : t.length ≤ 300) (hl : l.length ≤ 12) :
    ∀ i : Nat, i ≤ l.length → ∀ at' : Int, AtI t l i at' → (∀ j, i ≤ j → j < l.length → (idx l (j : Int)).length ≤ 300) → Comes (step_law07_RefsOf s t l) (.L1 at' ((i : Int) - 1)) true
  | 0, hi, at', ha, hx => by
    refine RefsOf_end s t l hs ht hl (fun x h => ?_) at' ha
    obtain ⟨j, hj, rfl⟩ := List.mem_iff_getElem.1 h
    have := hx j (Nat.zero_le _) hj
    rwa [idx_get l hj] at this
  | i + 1, hi, at', ha, hx => by
    have ei : ((i + 1 : Nat) : Int) - 1 = (i : Int) := by omega
    rw [ei]
    by_cases hc : 300 < (idx l (i : Int)).length
    · refine Comes.stop ?_
      simp only [step_law07_RefsOf]
      rw [decide_eq_true (by omega), cond_true, gO_pos (by omega), decide_eq_true (by omega), cond_true, awake7_ok]; rfl
    · have hO := R7Of_ok (idx l (i : Int)) (by omega)
      have nx : ∀ a : Int, AtI t l i a → Comes (step_law07_RefsOf s t l) (.J2 a (i : Int)) true := fun a h => by
        refine Comes.next (c' := .L1 a ((i : Int) - 1)) ?_ (RefsOf_L1 s t l hs ht hl i (by omega) a h fun j hj hj2 => ?_)
        · simp only [step_law07_RefsOf]
          rw [gO_pos (by unfold inI; omega)]
        · rcases Nat.lt_or_ge i j with h1 | h1
          · exact hx j (by omega) hj2
          · rw [show j = i by omega]; omega
      have hb : ((bif ((!((idx l (i : Int)) == ([] : List UInt8))) == true) then g_ref07_Of (idx l (i : Int)) else some default).bind fun (x_13 : (List UInt8)) => (bif ((!((idx l (i : Int)) == ([] : List UInt8))) && (x_13 == t)) then some (Sum.inl (C_law07_RefsOf.J2 (i : Int) (i : Int)) : C_law07_RefsOf ⊕ Bool) else some (.inl (.J2 at' (i : Int))))) =
          some (.inl (.J2 (bif hit t (idx l (i : Int)) then (i : Int) else at') (i : Int))) := by
        unfold hit
        cases h0 : (idx l (i : Int) == ([] : List UInt8)) with
        | true => rfl
        | false =>
          rw [show ((!false) == true) = true from rfl, cond_true, hO, Option.bind_some, show (t == rOf (idx l (i : Int))) = (rOf (idx l (i : Int)) == t) from Bool.beq_comm]
          cases (rOf (idx l (i : Int)) == t) <;> rfl
      refine Comes.next (c' := .J2 (bif hit t (idx l (i : Int)) then (i : Int) else at') (i : Int)) ?_ (nx _ ?_)
      · simp only [step_law07_RefsOf]
        rw [decide_eq_true (by omega), cond_true, gO_pos (by omega), decide_eq_false (by omega), cond_false, gO_pos (by omega), gO_pos (fun _ => by omega), hb]
      · cases hh : hit t (idx l (i : Int)) with
        | true => exact .inr ⟨i, rfl, Nat.le_refl _, by omega, hh, fun j h1 h2 => absurd h2 (by omega)⟩
        | false =>
          have lift : ∀ q, (∀ j, i + 1 ≤ j → j < q → hit t (idx l (j : Int)) = false) → ∀ j, i ≤ j → j < q → hit t (idx l (j : Int)) = false := fun q h j h1 h2 => by
            rcases Nat.lt_or_ge i j with h3 | h3
            · exact h j (by omega) h2
            · rw [show j = i by omega]; exact hh
          rcases ha with ⟨rfl, h3⟩ | ⟨q, rfl, h4, hq, h3, h5⟩
          · exact .inl ⟨rfl, lift _ h3⟩
          · exact .inr ⟨q, rfl, by omega, hq, h3, lift _ h5⟩
theorem RefsOf_true (s t : List UInt8) (l : List (List UInt8)) : g_law07_RefsOf s t l = some true := by
  refine theC_eq ?_
  by_cases h : 300 < s.length ∨ 300 < t.length ∨ 12 < l.length
  · have : ((decide ((300 : Int) < (s.length : Int)) || decide ((300 : Int) < (t.length : Int))) || decide ((12 : Int) < (l.length : Int))) = true := by
      rw [Bool.or_eq_true, Bool.or_eq_true, decide_eq_true_eq, decide_eq_true_eq, decide_eq_true_eq]; omega
    refine Comes.stop ?_
    simp only [step_law07_RefsOf]
    rw [this, cond_true, awake7_ok]; rfl
  · have : ((decide ((300 : Int) < (s.length : Int)) || decide ((300 : Int) < (t.length : Int))) || decide ((12 : Int) < (l.length : Int))) = false := by
      rw [Bool.or_eq_false_iff, Bool.or_eq_false_iff, decide_eq_false_iff_not, decide_eq_false_iff_not, decide_eq_false_iff_not]; omega
    refine Comes.next (c' := .L1 (-1) ((l.length : Int) - 1)) ?_ (RefsOf_L1 s t l (by omega) (by omega) (by omega) l.length (Nat.le_refl _) (-1) (.inl ⟨rfl, fun j h1 h2 => absurd h2 (by omega)⟩) fun j h1 h2 => absurd h2 (by omega))
    simp only [step_law07_RefsOf]
    rw [this, cond_false, gO_pos (by unfold inI; omega)]
end Go.Proofs.Ytoeppofkmcdknaa.K
