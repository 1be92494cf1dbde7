import Derived.Test.YtoeppofkmcdknaaCPNode2
/- Nodes: what is laid. -/
namespace Go.Proofs.Ytoeppofkmcdknaa.K
open Go
set_option linter.unusedVariables false
set_option linter.unusedSimpArgs false
def txt (s : List UInt8) : Item := ⟨false, s, []⟩
theorem txt_rt (s : List UInt8) (n : Nat) : RT (n + 1) (txt s) := by
  refine ⟨fun _ => rfl, fun h => ?_, fun y hy => ?_⟩
  · exact absurd h (by simp [txt])
  · exact absurd hy (by simp [txt])
theorem txt_enc (s : List UInt8) : ienc (txt s) = if s.length = 1 ∧ (s.getD 0 0).toNat < 128 then s else hd false s.length ++ s := by
  rw [ienc_eq, if_pos (show (txt s).fList = false from rfl)]; rfl
theorem txt_len {s : List UInt8} (h : s.length ≤ 100000) : (ienc (txt s)).length ≤ s.length + 6 := by
  have := hd_le false (k := s.length) (by omega)
  rw [txt_enc]
  split
  · omega
  · rw [List.length_append]; omega
theorem txt_nil : ienc (txt []) = [128] := by rw [txt_enc]; rfl
theorem text_ok {s : List UInt8} (h : s.length ≤ 100000) : g_ref06_text s = some (ienc (txt s)) := by
  unfold g_ref06_text
  have := RPut_ok (txt_rt s 0) (by have := txt_len h; omega)
  rw [show (⟨false, s, []⟩ : Item) = txt s from rfl, this]; rfl
noncomputable def whI (k : List UInt8) : Item := ((g_rlp_Whole k).getD (noI, 1)).1
noncomputable def itemR (k : List UInt8) : Item := if k = [] ∨ k.length = 32 then txt k else whI k
def good (k : List UInt8) : Prop := k = [] ∨ k.length = 32 ∨ (k.length < 32 ∧ ∃ x, RT 65 x ∧ ienc x = k ∧ x.fList = true)
def refOf (x : Item) : List UInt8 := if x.fList = true then ienc x else x.fS
theorem good_item {k : List UInt8} (h : good k) : RT 64 (itemR k) ∧ (ienc (itemR k)).length ≤ 33 ∧ g_node_item k = some (itemR k) ∧ refOf (itemR k) = k ∧ g_ref06_ref k = some (ienc (itemR k)) := by
  by_cases h0 : k = [] ∨ k.length = 32
  · have e : itemR k = txt k := if_pos h0
    have hc : ((k == []) || decide ((k.length : Int) = 32)) = true := by
      rcases h0 with rfl | h0
      · rfl
      · rw [decide_eq_true (by omega), Bool.or_true]
    have hl : k.length ≤ 32 := by
      rcases h0 with rfl | h0
      · simp
      · omega
    rw [e]
    refine ⟨txt_rt k 63, ?_, ?_, rfl, ?_⟩
    · rcases h0 with rfl | h0
      · rw [txt_nil]; simp
      · rw [txt_enc, if_neg (by omega), List.length_append, hd_len, if_pos (by omega)]; omega
    · unfold g_node_item; rw [hc, cond_true]; rfl
    · unfold g_ref06_ref; rw [hc, cond_true, text_ok (by omega)]; rfl
  · obtain ⟨h32, x, h1, h2, h3⟩ := (h.resolve_left fun e => h0 (.inl e)).resolve_left fun e => h0 (.inr e)
    have hw : g_rlp_Whole k = some (x, 0) := by rw [← h2]; exact Whole_small h1 (by omega) (by rw [h2]; omega)
    have e : itemR k = x := by
      unfold itemR whI
      rw [if_neg h0, hw]; rfl
    have hc : ((k == []) || decide ((k.length : Int) = 32)) = false := by
      rw [Bool.or_eq_false_iff]
      exact ⟨by rw [beq_eq_false_iff_ne]; exact fun e => h0 (.inl e), decide_eq_false (by omega)⟩
    rw [e]
    refine ⟨(RT_len _ _ h1).mono (by rw [h2]; omega), by rw [h2]; omega, ?_, by unfold refOf; rw [if_pos h3, h2], ?_⟩
    · unfold g_node_item; rw [hc, cond_false, hw]; rfl
    · unfold g_ref06_ref; rw [hc, cond_false, h2]
noncomputable def itemN (n : Node) : Item :=
  if n.fKind = 1 then ⟨true, [], [txt (packS n.fPath true), txt n.fValue]⟩
  else if n.fKind = 2 then ⟨true, [], [txt (packS n.fPath false), itemR (idx n.fKids.1 (0 : Int))]⟩
  else ⟨true, [], n.fKids.1.map itemR ++ [txt []]⟩
theorem iencs_le {b : Nat} : ∀ l : List Item, (∀ y ∈ l, (ienc y).length ≤ b) → (iencs l).length ≤ l.length * b
  | [], _ => by simp [iencs]
  | x :: r, h => by
    have := iencs_le r fun y hy => h y (List.mem_cons_of_mem _ hy)
    have := h x (List.mem_cons_self ..)
    simp only [iencs, List.length_append, List.length_cons, Nat.succ_mul]; omega
theorem itemN_rt (n : Node) (hg : ∀ k ∈ n.fKids.1, good k) (hp : n.fPath.length ≤ 64) (hv : n.fValue.length ≤ 3000) : RT 65 (itemN n) ∧ (ienc (itemN n)).length ≤ 700 + n.fValue.length ∧ (itemN n).fList = true := by
  have h16 := kids16 n
  have hP : ∀ b, (ienc (txt (packS n.fPath b))).length ≤ 39 := by
    intro b
    have := txt_len (s := packS n.fPath b) (by rw [packS_len]; omega)
    rw [packS_len] at this; omega
  have hV := txt_len (s := n.fValue) (by omega)
  have hd6 : ∀ k, k ≤ 2 ^ 32 → (hd true k).length ≤ 6 := fun k h => hd_le true h
  unfold itemN
  split
  · refine ⟨⟨fun h => (by cases h), fun _ => rfl, fun y hy => ?_⟩, ?_, rfl⟩
    · simp only [List.mem_cons, List.not_mem_nil, or_false] at hy
      rcases hy with rfl | rfl <;> exact txt_rt _ 63
    · have e : (iencs [txt (packS n.fPath true), txt n.fValue]).length = (ienc (txt (packS n.fPath true))).length + (ienc (txt n.fValue)).length := by simp [iencs]
      have := hP true
      have := hd6 (iencs [txt (packS n.fPath true), txt n.fValue]).length (by omega)
      rw [ienc_list, List.length_append]; omega
  · split
    · have hg0 := good_item (hg _ (idx_mem n.fKids.1 (i := 0) (by omega)))
      have hg0 : RT 64 (itemR (idx n.fKids.1 (0 : Int))) ∧ (ienc (itemR (idx n.fKids.1 (0 : Int)))).length ≤ 33 := ⟨hg0.1, hg0.2.1⟩
      refine ⟨⟨fun h => (by cases h), fun _ => rfl, fun y hy => ?_⟩, ?_, rfl⟩
      · simp only [List.mem_cons, List.not_mem_nil, or_false] at hy
        rcases hy with rfl | rfl
        · exact txt_rt _ 63
        · exact hg0.1
      · have e : (iencs [txt (packS n.fPath false), itemR (idx n.fKids.1 (0 : Int))]).length = (ienc (txt (packS n.fPath false))).length + (ienc (itemR (idx n.fKids.1 (0 : Int)))).length := by simp [iencs]
        have := hP false
        have := hg0.2
        have := hd6 (iencs [txt (packS n.fPath false), itemR (idx n.fKids.1 (0 : Int))]).length (by omega)
        rw [ienc_list, List.length_append]; omega
    · have hall : ∀ y ∈ n.fKids.1.map itemR ++ [txt []], RT 64 y ∧ (ienc y).length ≤ 33 := by
        intro y hy
        rcases List.mem_append.1 hy with hy | hy
        · obtain ⟨k, hk, rfl⟩ := List.mem_map.1 hy
          have := good_item (hg k hk)
          exact ⟨this.1, this.2.1⟩
        · rw [List.mem_singleton] at hy; subst hy
          exact ⟨txt_rt _ 63, by rw [txt_nil]; simp⟩
      refine ⟨⟨fun h => (by cases h), fun _ => rfl, fun y hy => (hall y hy).1⟩, ?_, rfl⟩
      have := iencs_le _ fun y hy => (hall y hy).2
      have hlen : (n.fKids.1.map itemR ++ [txt []]).length = 17 := by simp [h16]
      rw [hlen] at this
      have := hd6 (iencs (n.fKids.1.map itemR ++ [txt []])).length (by omega)
      rw [ienc_list, List.length_append]; omega
theorem List_ok (l : List Item) (h : l.length ≤ 1000000) : g_rlp_List l = some ⟨true, [], l⟩ := by
  unfold g_rlp_List
  rw [gO_pos (by simp only [List.length_nil]; omega)]; rfl
theorem chk_parts {R : List UInt8 → Bool} {n : Node} (h : chkB R n = true) : okP n.fPath = true ∧ (∀ k ∈ n.fKids.1, R k = true) ∧ shapeB n = true := by
  unfold chkB at h
  rw [Bool.and_eq_true, Bool.and_eq_true] at h
  exact ⟨h.1.1, fun k hk => List.all_eq_true.1 h.1.2 k hk, h.2⟩
theorem shape_kind {n : Node} (h : shapeB n = true) : n.fKind = 1 ∨ n.fKind = 2 ∨ n.fKind = 3 := by
  unfold shapeB at h
  by_cases h1 : n.fKind = 1
  · exact .inl h1
  · by_cases h2 : n.fKind = 2
    · exact .inr (.inl h2)
    · by_cases h3 : n.fKind = 3
      · exact .inr (.inr h3)
      · rw [decide_eq_false h1, decide_eq_false h2, decide_eq_false h3] at h; cases h
theorem Put_L1 (self : List UInt8 → Option Bool) (n : Node) (hg : ∀ k ∈ n.fKids.1, good k) (hN : RT 65 (⟨true, [], n.fKids.1.map itemR ++ [txt []]⟩ : Item)) (hl : (ienc (⟨true, [], n.fKids.1.map itemR ++ [txt []]⟩ : Item)).length ≤ 4096) :
    Comes (step_node_Put self n) (.L1 [] 0) (ienc (⟨true, [], n.fKids.1.map itemR ++ [txt []]⟩ : Item), 0) := by
  have h16 := kids16 n
  refine Comes.upto (step := step_node_Put self n) (fun i => .L1 ((n.fKids.1.map itemR).take i) (i : Int)) 16 ?_ ?_
  · intro i hi
    have hi' : i < n.fKids.1.length := by omega
    have hil : i < (n.fKids.1.map itemR).length := by rw [List.length_map]; omega
    have e : idx (n.fKids.1.map itemR) (i : Int) = itemR (idx n.fKids.1 (i : Int)) := by rw [idx_get _ hil, idx_get _ hi', List.getElem_map]
    simp only [step_node_Put]
    rw [decide_eq_true (by omega), cond_true, gO_pos (by omega), (good_item (hg _ (idx_mem _ hi'))).2.2.1, Option.bind_some, gO_pos (by rw [List.length_take]; simp only [List.length_singleton]; omega), gO_pos (by unfold inI; omega), take_idx _ hil, e]
    rfl
  · refine Comes.stop ?_
    simp only [step_node_Put]
    rw [decide_eq_false (by omega), cond_false, List.take_of_length_le (by rw [List.length_map]; omega)]
    simp only [g_rlp_Text, Option.bind_some]
    rw [gO_pos (by rw [List.length_map]; simp only [List.length_singleton]; omega), List_ok _ (by simp; omega), Option.bind_some, show (⟨false, [], []⟩ : Item) = txt [] from rfl, Put_small hN (by omega) hl]
    rfl
theorem PutN_ok (self : List UInt8 → Option Bool) (R : List UInt8 → Bool) (n : Node) (hk : ∀ k ∈ n.fKids.1, self k = some (R k)) (hg : ∀ k ∈ n.fKids.1, R k = true → good k) (hp : n.fPath.length ≤ 1000000) (hv : n.fValue.length ≤ 3000) :
    gs_node_Put self n = some (if chkB R n = true then (ienc (itemN n), 0) else ([], 2)) := by
  have h16 := kids16 n
  refine theC_eq ?_
  by_cases hc : chkB R n = true
  · obtain ⟨c1, c2, c3⟩ := chk_parts hc
    have hgg : ∀ k ∈ n.fKids.1, good k := fun k h => hg k h (c2 k h)
    obtain ⟨r1, r2, r3⟩ := itemN_rt n hgg (okP_ok c1).2 hv
    rw [if_pos hc]
    by_cases h1 : n.fKind = 1
    · have e : itemN n = ⟨true, [], [txt (packS n.fPath true), txt n.fValue]⟩ := if_pos h1
      refine Comes.stop ?_
      simp only [step_node_Put]
      rw [Check_ok self R n hk hp, if_pos hc, Option.bind_some, show (!decide ((0 : Int) = 0)) = false from rfl, cond_false, decide_eq_true h1, Pack_ok c1, Option.bind_some, cond_true]
      simp only [g_rlp_Text, Option.bind_some]
      rw [List_ok _ (by simp), Option.bind_some]
      show (g_rlp_Put ⟨true, [], [txt (packS n.fPath true), txt n.fValue]⟩).bind _ = _
      rw [← e, Put_small r1 (by omega) (by omega)]
      rfl
    · by_cases h2 : n.fKind = 2
      · have e : itemN n = ⟨true, [], [txt (packS n.fPath false), itemR (idx n.fKids.1 (0 : Int))]⟩ := by unfold itemN; rw [if_neg h1, if_pos h2]
        have hi := good_item (hgg _ (idx_mem n.fKids.1 (i := 0) (by omega)))
        refine Comes.stop ?_
        simp only [step_node_Put]
        rw [Check_ok self R n hk hp, if_pos hc, Option.bind_some, show (!decide ((0 : Int) = 0)) = false from rfl, cond_false, decide_eq_false h1, Pack_ok c1, Option.bind_some, cond_false, decide_eq_true h2, cond_true]
        simp only [g_rlp_Text, Option.bind_some]
        rw [show g_node_item (idx n.fKids.1 (0 : Int)) = some (itemR (idx n.fKids.1 (0 : Int))) from hi.2.2.1, Option.bind_some, List_ok _ (by simp), Option.bind_some]
        show (g_rlp_Put ⟨true, [], [txt (packS n.fPath false), itemR (idx n.fKids.1 (0 : Int))]⟩).bind _ = _
        rw [← e, Put_small r1 (by omega) (by omega)]
        rfl
      · have e : itemN n = ⟨true, [], n.fKids.1.map itemR ++ [txt []]⟩ := by unfold itemN; rw [if_neg h1, if_neg h2]
        rw [e] at r1 r2 ⊢
        refine Comes.next (c' := .L1 [] 0) ?_ (Put_L1 self n hgg r1 (by omega))
        simp only [step_node_Put]
        rw [Check_ok self R n hk hp, if_pos hc, Option.bind_some, show (!decide ((0 : Int) = 0)) = false from rfl, cond_false, decide_eq_false h1, Pack_ok c1, Option.bind_some, cond_false, decide_eq_false h2, cond_false]
  · rw [if_neg hc]
    refine Comes.stop ?_
    simp only [step_node_Put]
    rw [Check_ok self R n hk hp, if_neg hc, Option.bind_some]
    rfl
theorem RPutN_ok (R : List UInt8 → Bool) (n : Node) (hc : chkB R n = true) (hg : ∀ k ∈ n.fKids.1, good k) (hv : n.fValue.length ≤ 3000) : g_ref06_Put n = some (ienc (itemN n)) := by
  have h16 := kids16 n
  obtain ⟨c1, c2, c3⟩ := chk_parts hc
  obtain ⟨r1, r2, r3⟩ := itemN_rt n hg (okP_ok c1).2 hv
  have hpl : ∀ b, (packS n.fPath b).length ≤ 33 := by intro b; rw [packS_len]; have := (okP_ok c1).2; omega
  have hJ : ∀ l : List Item, itemN n = ⟨true, [], l⟩ → Comes (step_ref06_Put n) (.J3 (iencs l)) (ienc (itemN n)) := by
    intro l e
    rw [e, ienc_list, List.length_append] at r2
    refine Comes.stop ?_
    simp only [step_ref06_Put]
    rw [RHead_ok _ true (by omega), Option.bind_some, gO_pos (by omega), e, ienc_list]
  refine theC_eq ?_
  by_cases h1 : n.fKind = 1
  · have e : itemN n = ⟨true, [], [txt (packS n.fPath true), txt n.fValue]⟩ := if_pos h1
    have := txt_len (s := packS n.fPath true) (by have := hpl true; omega)
    have := txt_len (s := n.fValue) (by omega)
    have := hpl true
    have ei : iencs [txt (packS n.fPath true), txt n.fValue] = ienc (txt (packS n.fPath true)) ++ ienc (txt n.fValue) := by simp [iencs]
    refine Comes.next ?_ (hJ _ e)
    simp only [step_ref06_Put]
    rw [decide_eq_true h1, cond_true, RPack_ok c1, Option.bind_some, text_ok (by omega), Option.bind_some, text_ok (by omega), Option.bind_some, gO_pos (by omega), Option.bind_some, decide_eq_false (by omega), cond_false, Option.bind_some, decide_eq_false (by omega), cond_false, ei]
  · by_cases h2 : n.fKind = 2
    · have e : itemN n = ⟨true, [], [txt (packS n.fPath false), itemR (idx n.fKids.1 (0 : Int))]⟩ := by unfold itemN; rw [if_neg h1, if_pos h2]
      have hi := good_item (hg _ (idx_mem n.fKids.1 (i := 0) (by omega)))
      have hi2 : (ienc (itemR (idx n.fKids.1 (0 : Int)))).length ≤ 33 := hi.2.1
      have := txt_len (s := packS n.fPath false) (by have := hpl false; omega)
      have := hpl false
      have ei : iencs [txt (packS n.fPath false), itemR (idx n.fKids.1 (0 : Int))] = ienc (txt (packS n.fPath false)) ++ ienc (itemR (idx n.fKids.1 (0 : Int))) := by simp [iencs]
      refine Comes.next ?_ (hJ _ e)
      simp only [step_ref06_Put]
      rw [decide_eq_false h1, cond_false, Option.bind_some, decide_eq_true h2, cond_true, RPack_ok c1, Option.bind_some, text_ok (by omega), Option.bind_some, show g_ref06_ref (idx n.fKids.1 (0 : Int)) = some (ienc (itemR (idx n.fKids.1 (0 : Int)))) from hi.2.2.2.2, Option.bind_some, gO_pos (by omega), Option.bind_some, decide_eq_false (by omega), cond_false, ei]
    · have h3 : n.fKind = 3 := ((shape_kind c3).resolve_left h1).resolve_left h2
      have e : itemN n = ⟨true, [], n.fKids.1.map itemR ++ [txt []]⟩ := by unfold itemN; rw [if_neg h1, if_neg h2]
      have ei : iencs (n.fKids.1.map itemR ++ [txt []]) = iencs (n.fKids.1.map itemR) ++ [128] := by
        rw [iencs_app]; simp only [iencs, txt_nil, List.append_nil]
      have hlen : ∀ i, (iencs ((n.fKids.1.map itemR).take i)).length ≤ 16 * 33 := by
        intro i
        have := iencs_le (b := 33) ((n.fKids.1.map itemR).take i) (fun y hy => by
          obtain ⟨k, hk, rfl⟩ := List.mem_map.1 (List.mem_of_mem_take hy)
          exact (good_item (hg k hk)).2.1)
        have h2 : ((n.fKids.1.map itemR).take i).length ≤ 16 := by rw [List.length_take, List.length_map]; omega
        exact Nat.le_trans this (Nat.mul_le_mul_right 33 h2)
      refine Comes.next (c' := .L4 [] 0) ?_ ?_
      · simp only [step_ref06_Put]
        rw [decide_eq_false h1, cond_false, Option.bind_some, decide_eq_false h2, cond_false, Option.bind_some, decide_eq_true h3, cond_true]
      · refine Comes.upto (step := step_ref06_Put n) (fun i => .L4 (iencs ((n.fKids.1.map itemR).take i)) (i : Int)) 16 ?_ ?_
        · intro i hi
          have hi' : i < n.fKids.1.length := by omega
          have hil : i < (n.fKids.1.map itemR).length := by rw [List.length_map]; omega
          have ex : idx (n.fKids.1.map itemR) (i : Int) = itemR (idx n.fKids.1 (i : Int)) := by rw [idx_get _ hil, idx_get _ hi', List.getElem_map]
          have hi := good_item (hg _ (idx_mem _ hi'))
          have := hlen i
          have := hi.2.1
          simp only [step_ref06_Put]
          rw [decide_eq_true (by omega), cond_true, gO_pos (by omega), hi.2.2.2.2, Option.bind_some, gO_pos (by omega), gO_pos (by unfold inI; omega), take_idx _ hil, ex, iencs_app]
          simp only [iencs, List.append_nil]
          rfl
        · have := hlen 16
          refine Comes.next ?_ (hJ _ e)
          simp only [step_ref06_Put]
          rw [decide_eq_false (by omega), cond_false, gO_pos (by simp only [List.length_singleton]; omega), List.take_of_length_le (by rw [List.length_map]; omega), ei]
end Go.Proofs.Ytoeppofkmcdknaa.K
