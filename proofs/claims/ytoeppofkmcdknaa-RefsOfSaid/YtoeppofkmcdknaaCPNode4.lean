import Derived.Test.YtoeppofkmcdknaaCPNode3
/- Nodes: what is read. -/
namespace Go.Proofs.Ytoeppofkmcdknaa.K
open Go
set_option linter.unusedVariables false
set_option linter.unusedSimpArgs false
set_option linter.unusedSectionVars false
def zeroN : Node := ⟨0, [], [], Arr.rep 16 []⟩
def K1 (k : List UInt8) : Arr 16 (List UInt8) := (Arr.rep 16 []).put 0 k
def pairN (a b : Item) : Node := if unpL a.fS = true then ⟨1, unpP a.fS, b.fS, Arr.rep 16 []⟩ else ⟨2, unpP a.fS, [], K1 (refOf b)⟩
def putK (l : List Item) : Nat → Arr 16 (List UInt8)
  | 0 => Arr.rep 16 []
  | i + 1 => (putK l i).put (i : Int) (refOf (idx l (i : Int)))
theorem putK_take (l : List Item) : ∀ i, i ≤ 16 → i ≤ l.length → (putK l i).1.take i = (l.take i).map refOf
  | 0, _, _ => by simp
  | i + 1, h, h2 => by
    have hi : i < (putK l i).1.length := by rw [(putK l i).2]; omega
    show ((putK l i).1.set (i : Int).toNat (refOf (idx l (i : Int)))).take (i + 1) = _
    rw [Int.toNat_natCast, List.take_add_one, List.getElem?_set_self hi, List.take_set_of_le (Nat.le_refl _), putK_take l i (by omega) (by omega), take_idx l (by omega), List.map_append]
    rfl
theorem putK_all (l : List Item) (h : 16 ≤ l.length) : (putK l 16).1 = (l.take 16).map refOf := by
  have := putK_take l 16 (Nat.le_refl _) h
  rwa [List.take_of_length_le (by rw [(putK l 16).2]; exact Nat.le_refl _)] at this
def nodeOf (x : Item) : Node :=
  if x.fL.length = 2 then pairN (idx x.fL (0 : Int)) (idx x.fL (1 : Int))
  else if x.fL.length = 17 then ⟨3, [], [], putK x.fL 16⟩
  else zeroN
theorem Leaf_ok (p v : List UInt8) (h : p.length ≤ 1000000) : g_node_Leaf p v = some ⟨1, p, v, Arr.rep 16 []⟩ := by
  unfold g_node_Leaf g_slices_Clone_byte_byte
  rw [gO_pos (by simp only [List.length_nil]; omega), Option.bind_some]; rfl
theorem Ext_ok (p k : List UInt8) (h : p.length ≤ 1000000) : g_node_Ext p k = some ⟨2, p, [], K1 k⟩ := by
  unfold g_node_Ext g_slices_Clone_byte_byte
  rw [gO_pos (by simp only [List.length_nil]; omega), Option.bind_some]; rfl
theorem reference_ok {n : Nat} {y : Item} (h : RT n y) (hn : n ≤ 65) (hl : (ienc y).length ≤ 4096) : g_node_reference y = some (refOf y) := by
  unfold g_node_reference refOf
  cases hy : y.fList with
  | false => rfl
  | true =>
    rw [Bool.not_true, cond_false, Put_small h hn hl]; rfl
theorem unpP_len (s : List UInt8) : (unpP s).length ≤ 2 * s.length := by
  cases s with
  | nil => simp [unpP]
  | cons c r =>
    simp only [unpP]
    split
    · simp
    · rw [List.length_drop, pathL_len]; omega
theorem unpE_ne {s : List UInt8} (h : unpE s ≠ 0) : unpP s = [] ∧ unpL s = false := by
  cases s with
  | nil => exact ⟨rfl, rfl⟩
  | cons c r =>
    cases hb : unpBad c (r.length + 1) with
    | true => exact ⟨(unp_is_bad hb).1, (unp_is_bad hb).2.1⟩
    | false => exact absurd (unp_is_good hb).1 h
theorem unpE_eq {s : List UInt8} (h : unpE s = 0) : s ≠ [] ∧ okP (unpP s) = true ∧ packS (unpP s) (unpL s) = s := by
  cases s with
  | nil => exact absurd h (by decide)
  | cons c r =>
    cases hb : unpBad c (r.length + 1) with
    | true => exact absurd h (by rw [(unp_is_bad hb).2.2]; decide)
    | false =>
      obtain ⟨_, g1, g2, g3⟩ := unp_is_good hb
      exact ⟨by simp, okP_yes g1 g2, g3⟩
theorem pair_ok {n : Nat} (a : Item) {b : Item} (ha : a.fS.length ≤ 100000) (h : RT n b) (hn : n ≤ 65) (hl : (ienc b).length ≤ 4096) : g_node_pair a b = some (pairN a b) := by
  have := unpP_len a.fS
  unfold g_node_pair pairN
  rw [Unpack_ok _ (by omega), Option.bind_some]
  cases hu : unpL a.fS with
  | true =>
    simp only [cond_true, if_true]
    rw [Leaf_ok _ _ (by omega)]; rfl
  | false =>
    simp only [cond_false, Bool.false_eq_true, if_false]
    rw [reference_ok h hn hl, Option.bind_some, Ext_ok _ _ (by omega)]; rfl
section
variable {x : Item} {s : List UInt8} (hx : RT 65 x) (he : ienc x = s)
include hx he
theorem it_list (h : x.fL ≠ []) : x.fList = true := by
  cases hh : x.fList with
  | true => rfl
  | false => exact absurd (hx.1 hh) h
theorem it_kid {y : Item} (hy : y ∈ x.fL) : RT 64 y ∧ (ienc y).length < s.length ∧ (refOf y).length < s.length ∧ y.fS.length < s.length := by
  have hL := it_list hx he (by intro e; rw [e] at hy; cases hy)
  have h1 := ienc_kid hL hy
  rw [he] at h1
  have hR : RT 64 y := hx.2.2 y hy
  have h2 : y.fS.length ≤ (ienc y).length := by
    cases hh : y.fList with
    | false => exact fS_len y hh
    | true => rw [hR.2.1 hh]; simp
  refine ⟨hR, h1, ?_, by omega⟩
  unfold refOf
  split <;> omega
theorem node_small : (∀ k ∈ (nodeOf x).fKids.1, k.length < s.length) ∧ (nodeOf x).fPath.length ≤ 2 * s.length ∧ (nodeOf x).fValue.length ≤ s.length := by
  have hs : 0 < s.length := by rw [← he]; exact ienc_pos x
  have rep : ∀ k ∈ (Arr.rep 16 ([] : List UInt8)).1, k.length < s.length := by
    intro k hk
    have : k = [] := List.eq_of_mem_replicate hk
    subst this; exact hs
  unfold nodeOf
  split
  · rename_i h
    have ha := it_kid hx he (idx_mem x.fL (i := 0) (by omega))
    have hb := it_kid hx he (idx_mem x.fL (i := 1) (by omega))
    have hp := unpP_len (idx x.fL (0 : Int)).fS
    have ha3 : (idx x.fL (0 : Int)).fS.length < s.length := ha.2.2.2
    have hb3 : (idx x.fL (1 : Int)).fS.length < s.length := hb.2.2.2
    have hb2 : (refOf (idx x.fL (1 : Int))).length < s.length := hb.2.2.1
    unfold pairN
    split
    · exact ⟨rep, by show (unpP (idx x.fL (0 : Int)).fS).length ≤ _; omega, Nat.le_of_lt hb3⟩
    · refine ⟨fun k hk => ?_, by show (unpP (idx x.fL (0 : Int)).fS).length ≤ _; omega, Nat.zero_le _⟩
      rcases List.mem_or_eq_of_mem_set hk with hk | rfl
      · exact rep k hk
      · exact hb2
  · split
    · rename_i h
      refine ⟨fun k hk => ?_, Nat.zero_le _, Nat.zero_le _⟩
      have hk : k ∈ (putK x.fL 16).1 := hk
      rw [putK_all _ (by omega)] at hk
      obtain ⟨y, hy, rfl⟩ := List.mem_map.1 hk
      exact (it_kid hx he (List.mem_of_mem_take hy)).2.2.1
    · exact ⟨rep, Nat.zero_le _, Nat.zero_le _⟩
end
open Classical in
noncomputable def okG (R : List UInt8 → Bool) (s : List UInt8) (x : Item) : Bool := decide (chkB R (nodeOf x) = true ∧ ienc (itemN (nodeOf x)) = s)
theorem okG_iff {R : List UInt8 → Bool} {s : List UInt8} {x : Item} : okG R s x = true ↔ (chkB R (nodeOf x) = true ∧ ienc (itemN (nodeOf x)) = s) := by unfold okG; exact decide_eq_true_iff
theorem okG_no {R : List UInt8 → Bool} {s : List UInt8} {x : Item} (h : ¬ (chkB R (nodeOf x) = true ∧ ienc (itemN (nodeOf x)) = s)) : okG R s x = false := by
  rw [Bool.eq_false_iff, ne_eq, okG_iff]; exact h
section
variable {x : Item} {s : List UInt8} (hx : RT 65 x) (he : ienc x = s) (hl : s.length ≤ 1500) {self : List UInt8 → Option Bool} {R : List UInt8 → Bool}
  (hself : ∀ k : List UInt8, k.length < s.length → self k = some (R k)) (hgood : ∀ k : List UInt8, k.length < s.length → R k = true → good k)
include hx he hl hself hgood
theorem NGet_J1 : Comes (step_node_Get self s) (.J1 (nodeOf x).fKind (nodeOf x).fPath (nodeOf x).fValue (nodeOf x).fKids) (if okG R s x = true then (nodeOf x, 0) else (zeroN, 6)) := by
  obtain ⟨k1, k2, k3⟩ := node_small hx he
  have hP := PutN_ok self R (nodeOf x) (fun k hk => hself k (k1 k hk)) (fun k hk => hgood k (k1 k hk)) (by omega) (by omega)
  refine Comes.stop ?_
  simp only [step_node_Get]
  rw [show (⟨(nodeOf x).fKind, (nodeOf x).fPath, (nodeOf x).fValue, (nodeOf x).fKids⟩ : Node) = nodeOf x from rfl, hP, Option.bind_some]
  by_cases hc : chkB R (nodeOf x) = true
  · rw [if_pos hc]
    by_cases hb : ienc (itemN (nodeOf x)) = s
    · rw [if_pos (okG_iff.2 ⟨hc, hb⟩)]
      simp only [hb, beq_self_eq_true, Bool.not_true, decide_true, Bool.or_self, cond_false]
    · rw [if_neg (by rw [okG_no (fun h => hb h.2)]; simp)]
      have : (ienc (itemN (nodeOf x)) == s) = false := by rw [beq_eq_false_iff_ne]; exact hb
      simp only [this, Bool.not_false, Bool.or_true, cond_true]
      rfl
  · rw [if_neg hc, if_neg (by rw [okG_no (fun h => hc h.1)]; simp)]
    rfl
theorem NGet_ok (hw : g_rlp_Whole s = some (x, 0)) : gs_node_Get self s = some (if okG R s x = true then (nodeOf x, 0) else (zeroN, 6)) := by
  have hJ := NGet_J1 hx he hl hself hgood
  refine theC_eq ?_
  by_cases h2 : x.fL.length = 2
  · have ha : RT 64 (idx x.fL (0 : Int)) ∧ (ienc (idx x.fL (0 : Int))).length < s.length ∧ (refOf (idx x.fL (0 : Int))).length < s.length ∧ (idx x.fL (0 : Int)).fS.length < s.length := it_kid hx he (idx_mem x.fL (i := 0) (by omega))
    have hb : RT 64 (idx x.fL (1 : Int)) ∧ (ienc (idx x.fL (1 : Int))).length < s.length ∧ (refOf (idx x.fL (1 : Int))).length < s.length ∧ (idx x.fL (1 : Int)).fS.length < s.length := it_kid hx he (idx_mem x.fL (i := 1) (by omega))
    have e : nodeOf x = pairN (idx x.fL (0 : Int)) (idx x.fL (1 : Int)) := if_pos h2
    refine Comes.next ?_ hJ
    simp only [step_node_Get, hw, Option.bind_some, decide_true, Bool.not_true, cond_false]
    rw [decide_eq_true (by omega), cond_true, gO_pos (by omega), gO_pos (by omega)]
    have := pair_ok (n := 64) (idx x.fL (0 : Int)) (b := idx x.fL (1 : Int)) (by have := ha.2.2.2; omega) hb.1 (by omega) (by have := hb.2.1; omega)
    rw [this, Option.bind_some, e]
  · by_cases h17 : x.fL.length = 17
    · have e : nodeOf x = ⟨3, [], [], putK x.fL 16⟩ := by unfold nodeOf; rw [if_neg h2, if_pos h17]
      rw [e] at hJ
      refine Comes.next (c' := .L2 0 x.fList x.fS x.fL (Arr.rep 16 [])) ?_ ?_
      · simp only [step_node_Get, hw, Option.bind_some, decide_true, Bool.not_true, cond_false]
        rw [decide_eq_false (by omega), cond_false, decide_eq_true (by omega), cond_true]
      · rw [e]
        refine Comes.upto (step := step_node_Get self s) (fun i => .L2 (i : Int) x.fList x.fS x.fL (putK x.fL i)) 16 ?_ ?_
        · intro i hi
          have hk := it_kid hx he (idx_mem x.fL (i := i) (by omega))
          simp only [step_node_Get]
          rw [decide_eq_true (by omega), cond_true, gO_pos (by omega), reference_ok hk.1 (by omega) (by have := hk.2.1; omega), Option.bind_some, gO_pos (by omega), gO_pos (by unfold inI; omega)]
          rfl
        · refine Comes.next ?_ hJ
          simp only [step_node_Get]
          rw [decide_eq_false (by omega), cond_false]
          rfl
    · have e : nodeOf x = zeroN := by unfold nodeOf; rw [if_neg h2, if_neg h17]
      rw [e] at hJ
      rw [e]
      refine Comes.next ?_ hJ
      simp only [step_node_Get, hw, Option.bind_some, decide_true, Bool.not_true, cond_false]
      rw [decide_eq_false (by omega), cond_false, decide_eq_false (by omega), cond_false]
      rfl
end
end Go.Proofs.Ytoeppofkmcdknaa.K
