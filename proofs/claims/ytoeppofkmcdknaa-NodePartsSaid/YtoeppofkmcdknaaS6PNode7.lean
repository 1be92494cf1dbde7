import Derived.Test.YtoeppofkmcdknaaS6PNode6
import Derived.Test.YtoeppofkmcdknaaS6WLaw06
/- The laws of layer 6 hold. -/
namespace Go.Proofs.Ytoeppofkmcdknaa.K
open Go
set_option linter.unusedVariables false
set_option linter.unusedSimpArgs false
set_option linter.unusedSectionVars false
theorem all_eq {α : Type} [Inhabited α] [BEq α] [LawfulBEq α] (a b : List α) (h : a.length = b.length) : ((List.range a.length).all fun i => idx a (i : Int) == idx b (i : Int)) = (a == b) := by
  rw [Bool.eq_iff_iff, List.all_eq_true, beq_iff_eq]
  constructor
  · intro hh
    refine List.ext_getElem h fun i h1 h2 => ?_
    have := hh i (by simpa using h1)
    rw [beq_iff_eq, idx_get a h1, idx_get b h2] at this
    exact this
  · intro e i _
    rw [e, beq_iff_eq]
theorem byte_beq (x y : UInt8) : decide (((x.toNat : Nat) : Int) = ((y.toNat : Nat) : Int)) = (x == y) := by
  rw [Bool.eq_iff_iff, decide_eq_true_eq, beq_iff_eq, ← UInt8.toNat_inj]; omega
theorem Equal_ok (a b : List UInt8) (h : a.length ≤ 1000000000) : g_slices_Equal_byte_byte a b = some (a == b) := by
  refine theC_eq ?_
  by_cases hl : a.length = b.length
  · refine Comes.next (c' := .L1 0) ?_ ?_
    · simp only [step_slices_Equal_byte_byte]
      rw [decide_eq_true (by omega)]; rfl
    · have := Comes.all (step := step_slices_Equal_byte_byte a b) (fun i => .L1 (i : Int)) (fun i => idx a (i : Int) == idx b (i : Int)) a.length false true (by
        intro i hi hq
        simp only [step_slices_Equal_byte_byte]
        rw [decide_eq_true (by omega), cond_true, gO_pos (by omega), gO_pos (by omega), byte_beq, hq, Bool.not_true, cond_false, gO_pos (by unfold inI; omega)]
        rfl) (by
        intro i hi hq
        simp only [step_slices_Equal_byte_byte]
        rw [decide_eq_true (by omega), cond_true, gO_pos (by omega), gO_pos (by omega), byte_beq, hq]
        rfl) (by
        refine Comes.stop ?_
        simp only [step_slices_Equal_byte_byte]
        rw [decide_eq_false (by omega)]; rfl)
      rw [all_eq a b hl] at this
      cases hb : (a == b) with
      | true => rw [hb] at this; exact this
      | false => rw [hb] at this; exact this
  · have : (a == b) = false := by rw [beq_eq_false_iff_ne]; intro e; rw [e] at hl; exact hl rfl
    rw [this]
    refine Comes.stop ?_
    simp only [step_slices_Equal_byte_byte]
    rw [decide_eq_false (by omega)]; rfl
theorem SameS_ok (a b : List (List UInt8)) (h : a.length ≤ 1000000000) : g_ref01_Same a b = some (a == b) := by
  refine theC_eq ?_
  by_cases hl : a.length = b.length
  · refine Comes.next (c' := .L1 0) ?_ ?_
    · simp only [step_ref01_Same]
      rw [decide_eq_true (by omega)]; rfl
    · have := Comes.all (step := step_ref01_Same a b) (fun i => .L1 (i : Int)) (fun i => idx a (i : Int) == idx b (i : Int)) a.length false true (by
        intro i hi hq
        simp only [step_ref01_Same]
        rw [decide_eq_true (by omega), cond_true, gO_pos (by omega), gO_pos (by omega), hq, Bool.not_true, cond_false, gO_pos (by unfold inI; omega)]
        rfl) (by
        intro i hi hq
        simp only [step_ref01_Same]
        rw [decide_eq_true (by omega), cond_true, gO_pos (by omega), gO_pos (by omega), hq]
        rfl) (by
        refine Comes.stop ?_
        simp only [step_ref01_Same]
        rw [decide_eq_false (by omega)]; rfl)
      rw [all_eq a b hl] at this
      cases hb : (a == b) with
      | true => rw [hb] at this; exact this
      | false => rw [hb] at this; exact this
  · have : (a == b) = false := by rw [beq_eq_false_iff_ne]; intro e; rw [e] at hl; exact hl rfl
    rw [this]
    refine Comes.stop ?_
    simp only [step_ref01_Same]
    rw [decide_eq_false (by omega)]; rfl
def sameB (a b : Node) : Bool := (((decide (a.fKind = b.fKind)) && (a.fPath == b.fPath)) && (a.fValue == b.fValue)) && (beqA50 a.fKids b.fKids)
theorem RSame_ok (a b : Node) : g_ref06_Same a b = some (sameB a b) := rfl
theorem NSame_ok (a b : Node) (h : a.fPath.length ≤ 1000000) : g_node_Same a b = some (sameB a b) := by
  unfold g_node_Same sameB
  rw [Equal_ok _ _ (by omega)]
  cases decide (a.fKind = b.fKind) <;> cases (a.fPath == b.fPath) <;> cases (a.fValue == b.fValue) <;> cases beqA50 a.fKids b.fKids <;> rfl
theorem sameB_self (a : Node) : sameB a a = true := by
  unfold sameB beqA50
  simp
theorem all_rep (R : List UInt8 → Bool) (h : R [] = true) : (Arr.rep 16 ([] : List UInt8)).1.all R = true := by
  rw [List.all_eq_true]
  intro k hk
  have : k = [] := List.eq_of_mem_replicate hk
  rw [this]; exact h
theorem RF0 : RF [] = true := RF_nil (.inl rfl)
theorem RF_of {n : Node} (hc : chkB RF n = true) (hk : ∀ k ∈ n.fKids.1, k.length ≤ 1500) (hv : n.fValue.length ≤ 500) (hl : (ienc (itemN n)).length ≤ 31) : RF (ienc (itemN n)) = true := by
  obtain ⟨c1, c2, c3⟩ := chk_parts hc
  have hg : ∀ k ∈ n.fKids.1, good k := fun k h => RF_good (hk k h) (c2 k h)
  obtain ⟨r1, r2, r3⟩ := itemN_rt n hg (okP_ok c1).2 (by omega)
  have e := nodeOf_itemN hc hg
  have := ienc_pos (itemN n)
  rw [RF_eq hl r1 rfl (fun h => h.elim (ienc_ne _) (fun h => by omega))]
  exact okG_iff.2 ⟨by rw [e]; exact hc, by rw [e]⟩
def awL : Node := ⟨1, [1], [97], Arr.rep 16 []⟩
def awS : List UInt8 := [194, 49, 97]
theorem awL_chk : chkB RF awL = true := by
  unfold chkB
  rw [show okP awL.fPath = true from by decide, show awL.fKids.1.all RF = true from all_rep RF RF0, show shapeB awL = true from by decide]; rfl
theorem rep_small : ∀ k ∈ (Arr.rep 16 ([] : List UInt8)).1, k.length ≤ 1500 := by
  intro k hk
  have : k = [] := List.eq_of_mem_replicate hk
  rw [this]; simp
theorem awL_enc : ienc (itemN awL) = awS := by
  have : itemN awL = ⟨true, [], [txt [49], txt [97]]⟩ := by
    unfold itemN
    rw [if_pos (show awL.fKind = 1 from rfl), show packS awL.fPath true = [49] from by decide]; rfl
  rw [this, ienc_list]
  simp [iencs, txt_enc, hd, hdC, awS]
theorem awS_ref : RF awS = true := by
  have := RF_of awL_chk rep_small (by decide) (by rw [awL_enc]; decide)
  rwa [awL_enc] at this
def awE : Node := ⟨2, [2, 3], [], K1 awS⟩
theorem K1_mem {k x : List UInt8} (h : x ∈ (K1 k).1) : x = k ∨ x = [] := by
  rcases List.mem_or_eq_of_mem_set h with h | h
  · exact .inr (List.eq_of_mem_replicate h)
  · exact .inl h
theorem awE_chk : chkB RF awE = true := by
  unfold chkB
  have : awE.fKids.1.all RF = true := by
    rw [List.all_eq_true]
    intro k hk
    rcases K1_mem hk with rfl | rfl
    · exact awS_ref
    · exact RF0
  rw [show okP awE.fPath = true from by decide, this, show shapeB awE = true from by decide]; rfl
theorem awE_small : ∀ k ∈ awE.fKids.1, k.length ≤ 1500 := by
  intro k hk
  rcases K1_mem hk with rfl | rfl
  · decide
  · decide
theorem awE_enc : ienc (itemN awE) = [198, 130, 0, 35] ++ awS := by
  have hr := (good_item (RF_good (by decide) awS_ref)).2.2.2.2
  have hr2 : g_ref06_ref awS = some awS := by
    unfold g_ref06_ref
    rw [not_ref (by decide), cond_false]
  rw [hr2] at hr
  have hi := Option.some.inj hr
  have : itemN awE = ⟨true, [], [txt [0, 35], itemR awS]⟩ := by
    unfold itemN
    rw [if_neg (show ¬ awE.fKind = 1 from by decide), if_pos (show awE.fKind = 2 from rfl), show packS awE.fPath false = [0, 35] from by decide]; rfl
  rw [this, ienc_list]
  have e : iencs [txt [0, 35], itemR awS] = [130, 0, 35] ++ awS := by
    simp only [iencs, ← hi, List.append_nil]
    rw [show ienc (txt [0, 35]) = [130, 0, 35] from by simp [txt_enc, hd, hdC]]
  rw [e]
  simp [hd, hdC, awS]
theorem x_noref : RF [120] = false := by
  have h1 : ienc (txt [120]) = [120] := by simp [txt_enc]
  rw [RF_eq (x := txt [120]) (by decide) (txt_rt _ 64) h1 (by decide)]
  refine okG_no fun h => ?_
  have hs := (chk_parts h.1).2.2
  rw [show nodeOf (txt [120]) = zeroN from rfl] at hs
  simp [shapeB, zeroN] at hs
theorem awake_ok : g_law06_awake = some true := by
  have hP1 := NPut_top awL rep_small (by decide) (by decide)
  rw [if_pos awL_chk, awL_enc] at hP1
  have hG := PutGet awL_chk rep_small (by decide)
  rw [awL_enc] at hG
  have hP2 := NPut_top awE awE_small (by decide) (by decide)
  rw [if_pos awE_chk, awE_enc] at hP2
  have hS := NSame_ok awL awL (by decide)
  rw [sameB_self] at hS
  have hR := RF_node (s := awS) (by decide)
  rw [awS_ref] at hR
  have hX := RF_node (s := [120]) (by decide)
  rw [x_noref] at hX
  have hK := Kids_ok ⟨2, [1], [], K1 awS⟩
  have hL : g_node_Leaf [1] [97] = some awL := Leaf_ok _ _ (by decide)
  have hE : g_node_Ext [2, 3] awS = some awE := Ext_ok _ _ (by decide)
  have hE1 : g_node_Ext [1] awS = some ⟨2, [1], [], K1 awS⟩ := Ext_ok _ _ (by decide)
  have hb : (awS == ([194, 49, 97] : List UInt8)) = true := by decide
  unfold g_law06_awake
  rw [hL, Option.bind_some, hP1, Option.bind_some]
  simp only []
  rw [hG, Option.bind_some, hE, Option.bind_some, hP2, Option.bind_some]
  simp only [hb, decide_true, Bool.and_self, beq_self_eq_true, cond_true, Option.bind_some]
  rw [hS, Option.bind_some, gO_pos (fun _ => by decide)]
  simp only [Bool.and_self, beq_self_eq_true, cond_true]
  rw [hR, Option.bind_some]
  simp only [Bool.and_self, beq_self_eq_true, cond_true]
  rw [hX, Option.bind_some]
  simp only [Bool.and_self, Bool.not_false, beq_self_eq_true, cond_true]
  rw [hE1, Option.bind_some, hK, Option.bind_some]
  rfl
def lightB (n : Node) : Bool := (n.fKids.1.all fun k => decide (k.length ≤ 100)) && (decide ((n.fPath.length : Int) ≤ 100) && decide ((n.fValue.length : Int) ≤ 500))
theorem Light_ok (n : Node) : g_law06_Light n = some (lightB n) := by
  have h16 := kids16 n
  have h := Comes.all (step := step_law06_Light n) (fun i => .L1 (i : Int)) (fun i => decide ((idx n.fKids.1 (i : Int)).length ≤ 100)) 16 false (decide ((n.fPath.length : Int) ≤ 100) && decide ((n.fValue.length : Int) ≤ 500)) (by
    intro i hi hq
    have hq : (idx n.fKids.1 (i : Int)).length ≤ 100 := by simpa using hq
    simp only [step_law06_Light]
    rw [decide_eq_true (by omega), cond_true, gO_pos (by omega), decide_eq_false (by omega), cond_false, gO_pos (by unfold inI; omega)]
    rfl) (by
    intro i hi hq
    have hq : ¬ (idx n.fKids.1 (i : Int)).length ≤ 100 := by simpa using hq
    simp only [step_law06_Light]
    rw [decide_eq_true (by omega), cond_true, gO_pos (by omega), decide_eq_true (by omega), cond_true]) (by
    refine Comes.stop ?_
    simp only [step_law06_Light]
    rw [decide_eq_false (by omega), cond_false])
  have ha := all_range n.fKids.1 fun k => decide (k.length ≤ 100)
  rw [h16] at ha
  rw [ha] at h
  have e : g_law06_Light n = some _ := theC_eq (Comes.next rfl h)
  rw [e]
  unfold lightB
  cases (n.fKids.1.all fun k => decide (k.length ≤ 100)) <;> rfl
theorem light_parts {n : Node} (h : lightB n = true) : (∀ k ∈ n.fKids.1, k.length ≤ 100) ∧ n.fPath.length ≤ 100 ∧ n.fValue.length ≤ 500 := by
  unfold lightB at h
  rw [Bool.and_eq_true, Bool.and_eq_true, decide_eq_true_eq, decide_eq_true_eq] at h
  refine ⟨fun k hk => by simpa using List.all_eq_true.1 h.1 k hk, by omega, by omega⟩
theorem NodePuts_true (n : Node) : g_law06_NodePuts n = some true := by
  unfold g_law06_NodePuts
  rw [Light_ok, Option.bind_some, awake_ok]
  cases hL : lightB n with
  | false => rfl
  | true =>
    obtain ⟨l1, l2, l3⟩ := light_parts hL
    have hk : ∀ k ∈ n.fKids.1, k.length ≤ 1500 := fun k h => Nat.le_trans (l1 k h) (by decide)
    have hM : g_ref06_May n = some (chkB RF n) := May_ok g_ref06_Reference RF n (fun k h => RF_ref (hk k h)) (by omega)
    have hC : g_node_Check n = some (if chkB RF n = true then 0 else 2) := Check_ok g_node_Reference RF n (fun k h => RF_node (hk k h)) (by omega)
    rw [Bool.not_true, cond_false, NPut_top n hk (by omega) (by omega), Option.bind_some, hM, Option.bind_some, hC, Option.bind_some]
    cases hc : chkB RF n with
    | false => rfl
    | true =>
      obtain ⟨c1, c2, c3⟩ := chk_parts hc
      have hR : g_ref06_Put n = some (ienc (itemN n)) := RPutN_ok RF n hc (fun k h => RF_good (hk k h) (c2 k h)) (by omega)
      have hG := PutGet hc hk (by omega)
      simp only [if_true, decide_true, beq_self_eq_true, Bool.not_true, cond_false]
      rw [hG, Option.bind_some, Option.bind_some]
      simp only [Bool.and_self, beq_self_eq_true, cond_true]
      rw [hR, Option.bind_some]
      simp only [decide_true, Bool.and_self, beq_self_eq_true, cond_true]
      rw [RSame_ok, sameB_self]
      rfl
theorem NodeGets_true (s : List UInt8) : g_law06_NodeGets s = some true := by
  unfold g_law06_NodeGets
  rw [awake_ok]
  by_cases hl : 1500 < s.length
  · rw [decide_eq_true (by omega)]; rfl
  · rw [decide_eq_false (by omega), cond_false]
    have hz : g_ref06_Same zeroN ⟨0, [], [], Arr.rep 16 []⟩ = some true := by rw [RSame_ok]; exact congrArg some (sameB_self zeroN)
    rcases Whole_any s (by omega) with ⟨x, hx, he, hw, a, hr⟩ | ⟨e, he, hw, y, k, a, f, hr, hb⟩
    · have hG := NGet_top hx he (by omega)
      obtain ⟨m, hm, hm2⟩ := RGet_ok (self := g_ref06_Reference) (R := RF) hx he (by omega) (fun k hk => RF_ref (by omega)) (fun k hk => RF_good (by omega)) a hr
      have hm : g_ref06_Get s = some (m, okG RF s x) := hm
      rw [hG, Option.bind_some, hm, Option.bind_some]
      cases ho : okG RF s x with
      | false =>
        simp only [Bool.false_eq_true, if_false, Bool.not_false, cond_true, Option.bind_some]
        rw [show (true && !decide ((6 : Int) = 0)) = true from rfl, show (true == true) = true from rfl, cond_true, hz]
        rfl
      | true =>
        have e := hm2 ho
        subst e
        obtain ⟨h1, h2⟩ := okG_iff.1 ho
        obtain ⟨k1, k2, k3⟩ := node_small hx he
        obtain ⟨c1, c2, c3⟩ := chk_parts h1
        have hR : g_ref06_Put (nodeOf x) = some (ienc (itemN (nodeOf x))) := RPutN_ok RF (nodeOf x) h1 (fun k h => RF_good (by have := k1 k h; omega) (c2 k h)) (by omega)
        simp only [if_true, Bool.not_true, cond_false, Option.bind_some, decide_true, Bool.and_self, beq_self_eq_true, cond_true]
        rw [RSame_ok, sameB_self, Option.bind_some]
        simp only [Bool.and_self, beq_self_eq_true, cond_true]
        rw [hR, Option.bind_some, h2]
        simp
    · have hG : g_node_Get s = some (zeroN, e) := NGet_err _ he hw
      have hm : g_ref06_Get s = some (zeroN, false) := RGet_err _ hr hb
      rw [hG, Option.bind_some, hm, Option.bind_some]
      simp only [Bool.not_false, cond_true, Option.bind_some]
      rw [decide_eq_false he, show (true && !false) = true from rfl, show (true == true) = true from rfl, cond_true, hz]
      rfl
theorem NodeParts_true (a b : Node) (s : List UInt8) : g_law06_NodeParts a b s = some true := by
  have h16 := kids16 a
  refine theC_eq ?_
  by_cases hl : lightB a = true ∧ lightB b = true ∧ s.length ≤ 200
  · obtain ⟨la, lb, ls⟩ := hl
    obtain ⟨l1, l2, l3⟩ := light_parts la
    refine Comes.next (c' := .L1 [] 0) ?_ ?_
    · simp only [step_law06_NodeParts]
      rw [Light_ok, Option.bind_some, la, show ((!true) == false) = true from rfl, cond_true, Light_ok, Option.bind_some, lb, decide_eq_false (by omega)]
      rfl
    · refine Comes.upto (step := step_law06_NodeParts a b s) (fun i => .L1 ((a.fKids.1.take i).filter ne0) (i : Int)) 16 ?_ ?_
      · intro i hi
        have hle : ((a.fKids.1.take i).filter ne0).length ≤ 16 := by
          have := List.length_filter_le ne0 (a.fKids.1.take i)
          rw [List.length_take] at this; omega
        simp only [step_law06_NodeParts]
        rw [decide_eq_true (by omega), cond_true, gO_pos (by omega), take_idx _ (by omega : i < a.fKids.1.length), filt_snoc]
        cases hk : ne0 (idx a.fKids.1 (i : Int)) with
        | true =>
          have hk' : (!(idx a.fKids.1 (i : Int) == [])) = true := hk
          rw [hk', cond_true, gO_pos (by omega), gO_pos (by simp only [List.length_singleton]; omega), Option.bind_some, gO_pos (by unfold inI; omega), if_pos rfl]
          rfl
        | false =>
          have hk' : (!(idx a.fKids.1 (i : Int) == [])) = false := hk
          rw [hk', cond_false, Option.bind_some, gO_pos (by unfold inI; omega), if_neg (by simp), List.append_nil]
          rfl
      · refine Comes.stop ?_
        have hid : (idx (K1 s).1 (0 : Int) == s) = true := by
          rw [show idx (K1 s).1 (0 : Int) = s from rfl]; simp
        have hx := RF_node (s := s) (by omega)
        have hy := RF_ref (s := s) (by omega)
        have hK := Kids_ok a
        have hSS := SameS_ok (a.fKids.1.filter ne0) (a.fKids.1.filter ne0) (by have := List.length_filter_le ne0 a.fKids.1; omega)
        have hS := NSame_ok a b (by omega)
        simp only [step_law06_NodeParts]
        rw [decide_eq_false (by omega), cond_false, List.take_of_length_le (by omega), Leaf_ok _ _ (by omega), Option.bind_some, Ext_ok _ _ (by omega), Option.bind_some, show g_node_Branch a.fKids = some ⟨3, [], [], a.fKids⟩ from rfl, Option.bind_some, RSame_ok, sameB_self, Option.bind_some]
        simp only [hid, decide_true, beq_self_eq_true, Bool.and_self, cond_true]
        rw [RSame_ok, sameB_self, Option.bind_some, awake_ok, Option.bind_some]
        simp only [Bool.and_self, beq_self_eq_true, cond_true]
        rw [hK, Option.bind_some, hSS, Option.bind_some]
        simp only [beq_self_eq_true, Bool.and_self, cond_true]
        rw [hS, Option.bind_some, RSame_ok, Option.bind_some]
        simp only [beq_self_eq_true, Bool.and_self, cond_true]
        rw [hx, Option.bind_some, hy, Option.bind_some]
        simp
  · refine Comes.stop ?_
    simp only [step_law06_NodeParts]
    rw [Light_ok, Option.bind_some, awake_ok]
    have e : decide ((200 : Int) < (s.length : Int)) = !(decide (s.length ≤ 200)) := by
      rw [Bool.eq_iff_iff]; simp; omega
    rw [e]
    have h : ¬ (lightB a = true ∧ lightB b = true ∧ decide (s.length ≤ 200) = true) := by
      rw [decide_eq_true_eq]; exact hl
    cases ha : lightB a with
    | false => rfl
    | true =>
      rw [show ((!true) == false) = true from rfl, cond_true, Light_ok, Option.bind_some]
      cases hb : lightB b with
      | false => rfl
      | true =>
        cases hs : decide (s.length ≤ 200) with
        | false => rfl
        | true => exact absurd ⟨ha, hb, hs⟩ h
end Go.Proofs.Ytoeppofkmcdknaa.K
