/- The trees that are built of paths and values: their nodes and bytes. -/
import Derived.Test.YtfnlcnnoedmfiaaAPR08
namespace Go.Proofs.Ytfnlcnnoedmfiaa.K
open Go
set_option linter.unusedVariables false
set_option linter.unusedSimpArgs false
structure WF (v d : Nat) (l : List In) : Prop where
  len : ∀ x ∈ l, x.fPath.length = d
  nib : ∀ x ∈ l, right x.fPath = true
  val : ∀ x ∈ l, x.fValue.length ≤ v
  nd : l.Pairwise fun x y => x.fPath ≠ y.fPath
  cnt : l.length ≤ 64
  dep : d ≤ 64
  top : v ≤ 100
theorem right_iff {p : List UInt8} : right p = true ↔ ∀ b ∈ p, b.toNat < 16 := by
  simp only [right, Bool.not_eq_true', List.any_eq_false, decide_eq_true_eq]
  constructor
  · intro h b hb; have := h b hb; omega
  · intro h b hb; have := h b hb; omega
theorem right_take {p : List UInt8} (h : right p = true) (n : Nat) : right (p.take n) = true := right_iff.2 fun b hb => right_iff.1 h b (List.mem_of_mem_take hb)
theorem WF.rest {v d : Nat} {l : List In} (h : WF v d l) (n : Nat) (hc : ∀ x ∈ l, ∀ y ∈ l, x.fPath.take n = y.fPath.take n) : WF v (d - n) (rest l n) where
  len x hx := by
    obtain ⟨y, hy, rfl⟩ := List.mem_map.1 hx
    have := h.len y hy
    simp only [List.length_drop]; omega
  nib x hx := by
    obtain ⟨y, hy, rfl⟩ := List.mem_map.1 hx
    exact right_drop (h.nib y hy) n
  val x hx := by
    obtain ⟨y, hy, rfl⟩ := List.mem_map.1 hx
    exact h.val y hy
  nd := by
    unfold K.rest
    rw [List.pairwise_map]
    refine List.Pairwise.imp_of_mem ?_ h.nd
    intro x y hx hy hne he
    refine hne ?_
    rw [← List.take_append_drop n x.fPath, hc x hx y hy]
    rw [show x.fPath.drop n = y.fPath.drop n from he, List.take_append_drop]
  cnt := by rw [rest_len]; exact h.cnt
  dep := by have := h.dep; omega
  top := h.top
theorem WF.beg {v d : Nat} {l : List In} (h : WF v d l) (c : Nat) : WF v d (beg l c) where
  len x hx := h.len x ((List.mem_filter.1 hx).1)
  nib x hx := h.nib x ((List.mem_filter.1 hx).1)
  val x hx := h.val x ((List.mem_filter.1 hx).1)
  nd := h.nd.sublist List.filter_sublist
  cnt := by have := beg_len l c; have := h.cnt; omega
  dep := h.dep
  top := h.top
theorem take1 {p q : List UInt8} (hp : 0 < p.length) (hq : 0 < q.length) (h : (p.getD 0 0).toNat = (q.getD 0 0).toNat) : p.take 1 = q.take 1 := by
  cases p with
  | nil => simp at hp
  | cons a p => cases q with
    | nil => simp at hq
    | cons b q =>
      have : a = b := UInt8.toNat_inj.1 h
      simp [this]
theorem WF.kid {v d : Nat} {l : List In} (h : WF v d l) (hd : 0 < d) (c : Nat) : WF v (d - 1) (K.rest (K.beg l c) 1) := by
  refine (h.beg c).rest 1 fun x hx y hy => take1 (by rw [(h.beg c).len x hx]; exact hd) (by rw [(h.beg c).len y hy]; exact hd) ?_
  have h1 := (List.mem_filter.1 hx).2
  have h2 := (List.mem_filter.1 hy).2
  simp only [decide_eq_true_eq] at h1 h2
  rw [h1, h2]
theorem WF.ext {v d : Nat} {l : List In} (h : WF v d l) : WF v (d - comL l) (K.rest l (comL l)) :=
  h.rest _ fun x hx y hy => by rw [(comL_take hx).2, (comL_take hy).2]
theorem WF.com_lt {v d : Nat} {l : List In} (h : WF v d l) (h2 : 2 ≤ l.length) : comL l < d := by
  cases hl : l with
  | nil => rw [hl] at h2; simp at h2
  | cons x r => cases hr : r with
    | nil => rw [hl, hr] at h2; simp at h2
    | cons y q =>
      have hx : x ∈ l := by rw [hl]; exact List.mem_cons_self ..
      have hy : y ∈ l := by rw [hl, hr]; simp
      have e1 := comL_take hx
      have e2 := comL_take hy
      have n1 := h.len x hx
      have n2 := h.len y hy
      rw [← hr, ← hl]
      refine Nat.lt_of_not_le fun hd => ?_
      have hne : x.fPath ≠ y.fPath := by
        have := h.nd
        rw [hl, hr] at this
        exact (List.pairwise_cons.1 this).1 y (List.mem_cons_self ..)
      refine hne ?_
      have := e1.2.trans e2.2.symm
      rwa [List.take_of_length_le (by omega), List.take_of_length_le (by omega)] at this
noncomputable def encP (l : List In) : List UInt8 := (g_ref08_Enc l).getD []
noncomputable def kidsP (l : List In) : Arr 16 (List UInt8) := ⟨(List.range 16).map fun c => refP (encP (rest (beg l c) 1)), by simp⟩
noncomputable def nodeP (l : List In) : Node :=
  if l.length = 1 then ⟨1, p0 l, (idx l (0 : Int)).fValue, Arr.rep 16 []⟩
  else if 0 < comL l then ⟨2, (p0 l).take (comL l), [], (Arr.rep 16 []).put 0 (refP (encP (rest l (comL l))))⟩
  else ⟨3, [], [], kidsP l⟩
noncomputable def bytesP (l : List In) : List UInt8 := if l = [] then [] else putP (nodeP l)
theorem rep_le (k : List UInt8) (h : k ∈ (Arr.rep 16 ([] : List UInt8)).1) : k.length ≤ 32 := by
  rw [(List.mem_replicate.1 h).2]; simp
theorem nodeP_ok {v d : Nat} {l : List In} (h : WF v d l) (hl : l ≠ []) : ((nodeP l).fKind = 1 ∨ (nodeP l).fKind = 2 ∨ (nodeP l).fKind = 3) ∧ okP (nodeP l).fPath = true ∧ (nodeP l).fValue.length ≤ v ∧ ∀ k ∈ (nodeP l).fKids.1, k.length ≤ 32 := by
  have h0 : idx l (0 : Int) ∈ l := idx_mem l (i := 0) (List.length_pos_iff.2 hl)
  have hr := h.nib _ h0
  have hd := h.len _ h0
  have := h.dep
  unfold nodeP
  split
  · exact ⟨.inl rfl, okP_yes hr (by show (p0 l).length ≤ 64; unfold p0; omega), h.val _ h0, rep_le⟩
  · split
    · refine ⟨.inr (.inl rfl), okP_yes (right_take hr _) ?_, Nat.zero_le _, fun k hk => ?_⟩
      · show ((p0 l).take (comL l)).length ≤ 64
        rw [List.length_take]; unfold p0; omega
      · rcases List.mem_or_eq_of_mem_set hk with h1 | h1
        · exact rep_le k h1
        · rw [h1]; exact refP_le _
    · refine ⟨.inr (.inr rfl), rfl, Nat.zero_le _, fun k hk => ?_⟩
      have hk : k ∈ (List.range 16).map fun c => refP (encP (rest (beg l c) 1)) := hk
      obtain ⟨c, _, rfl⟩ := List.mem_map.1 hk
      exact refP_le _
theorem putR {v d : Nat} {l : List In} (h : WF v d l) (hl : l ≠ []) : g_ref06_Put (nodeP l) = some (putP (nodeP l)) := by
  obtain ⟨h1, h2, h3, h4⟩ := nodeP_ok h hl
  have := h.top
  exact RPutN_ok _ h1 h2 (by omega) h4
theorem putL {v d : Nat} {l : List In} (h : WF v d l) (hl : l ≠ []) : 1 ≤ (putP (nodeP l)).length ∧ (putP (nodeP l)).length ≤ 532 + v ∧ (l.length = 1 → (putP (nodeP l)).length ≤ 39 + v) ∧ (l.length ≠ 1 → 0 < comL l → (putP (nodeP l)).length ≤ 70) ∧ (l.length ≠ 1 → (putP (nodeP l)).length ≤ 532) := by
  obtain ⟨h1, h2, h3, h4⟩ := nodeP_ok h hl
  have ht := h.top
  obtain ⟨e1, e2, e3, e4⟩ := putP_le h2 (by omega) h4
  refine ⟨e4, by omega, fun h => ?_, fun h h' => ?_, fun h => e3⟩
  · have : (nodeP l).fKind = 1 := by unfold nodeP; rw [if_pos h]
    have := e1 this; omega
  · have : (nodeP l).fKind = 2 := by unfold nodeP; rw [if_neg h, if_pos h']
    exact e2 this
noncomputable def arrT (f : Nat → List UInt8) (c : Nat) : Arr 16 (List UInt8) := ⟨(List.range 16).map fun i => if i < c then f i else [], by simp⟩
theorem arrT_1 (f : Nat → List UInt8) (c : Nat) : (arrT f c).1 = (List.range 16).map fun i => if i < c then f i else [] := rfl
theorem arrT_0 (f : Nat → List UInt8) : arrT f 0 = Arr.rep 16 [] := by
  apply Subtype.ext
  rw [arrT_1]
  simp [Arr.rep, List.map_const']
theorem arrT_put (f : Nat → List UInt8) {c : Nat} (h : c < 16) : (arrT f c).put (c : Int) (f c) = arrT f (c + 1) := by
  apply Subtype.ext
  show (arrT f c).1.set (c : Int).toNat _ = _
  rw [arrT_1, arrT_1]
  apply List.ext_getElem
  · simp
  · intro i h1 h2
    rw [List.getElem_set, List.getElem_map, List.getElem_map, List.getElem_range]
    by_cases hc : i = c
    · subst hc; simp
    · rw [if_neg (by omega)]
      by_cases h3 : i < c
      · rw [if_pos h3, if_pos (by omega)]
      · rw [if_neg h3, if_neg (by omega)]
theorem arrT_16 (f : Nat → List UInt8) : (arrT f 16).1 = (List.range 16).map f := by
  rw [arrT_1]
  apply List.map_congr_left
  intro i hi
  rw [if_pos (by simpa using hi)]
def Kn (self : List In → Option (List UInt8)) (v d : Nat) : Prop := ∀ d' l', d' < d → WF v d' l' → self l' = some (encP l') ∧ (encP l').length ≤ 800
theorem node_step (self : List In → Option (List UInt8)) {v d : Nat} {l : List In} (h : WF v d l) (hl : l ≠ []) (hs : Kn self v d) : gs_ref08_Node self l = some (nodeP l, true) := by
  have hpos : 0 < l.length := List.length_pos_iff.2 hl
  have hcnt := h.cnt
  have hdep := h.dep
  refine theC_eq ?_
  by_cases h1 : l.length = 1
  · refine Comes.stop ?_
    simp only [step_ref08_Node]
    rw [decide_eq_false (by omega), cond_false, decide_eq_true (by omega), cond_true, gO_pos (by omega), gO_pos (by omega)]
    unfold nodeP
    rw [if_pos h1]
    rfl
  · have hlt := h.com_lt (by omega)
    have hC := RCom_ok l hl (fun x hx => by rw [h.len x hx]; omega) (by omega)
    by_cases h2 : 0 < comL l
    · refine Comes.stop ?_
      obtain ⟨hk1, hk2⟩ := hs _ _ (show d - comL l < d by omega) h.ext
      have hp := h.len _ (idx_mem l (i := 0) hpos)
      rw [show ((0 : Nat) : Int) = 0 from rfl] at hp
      simp only [step_ref08_Node]
      rw [decide_eq_false (by omega), cond_false, decide_eq_false (by omega), cond_false, hC, Option.bind_some, decide_eq_true (by omega), cond_true, gO_pos (by omega), gO_pos (by rw [hp]; omega)]
      rw [Rest_ok l _ (fun x hx => (comL_take hx).1) (by omega), Option.bind_some, hk1, Option.bind_some, R07_ok (by omega), Option.bind_some, sub_pre]
      unfold nodeP
      rw [if_neg h1, if_pos h2]
      rfl
    · have hL : Comes (step_ref08_Node self l) (.L1 ((0 : Nat) : Int) (arrT (fun c => refP (encP (rest (beg l c) 1))) 0)) (nodeP l, true) := by
        refine Comes.upto (fun i => C_ref08_Node.L1 (i : Int) (arrT (fun c => refP (encP (rest (beg l c) 1))) i)) 16 (fun i hi => ?_) (Comes.stop ?_)
        · obtain ⟨hk1, hk2⟩ := hs _ _ (show d - 1 < d by omega) (h.kid (by omega) i)
          have hb := beg_len l i
          simp only [step_ref08_Node]
          rw [decide_eq_true (by omega), cond_true, Begin_ok l i (fun x hx => by rw [h.len x hx]; omega) (by omega), Option.bind_some]
          rw [show (1 : Int) = ((1 : Nat) : Int) from rfl, Rest_ok (beg l i) 1 (fun x hx => by rw [(h.beg i).len x hx]; omega) (by omega), Option.bind_some, hk1, Option.bind_some, R07_ok (by omega), Option.bind_some, gO_pos (by omega), gO_pos (by unfold inI; omega)]
          rw [arrT_put (fun c => refP (encP (rest (beg l c) 1))) hi]
          rfl
        · simp only [step_ref08_Node]
          rw [decide_eq_false (by omega), cond_false]
          unfold nodeP
          rw [if_neg h1, if_neg h2]
          have : arrT (fun c => refP (encP (rest (beg l c) 1))) 16 = kidsP l := Subtype.ext (arrT_16 _)
          rw [this]
      rw [arrT_0] at hL
      refine Comes.next ?_ hL
      simp only [step_ref08_Node]
      rw [decide_eq_false (by omega), cond_false, decide_eq_false (by omega), cond_false, hC, Option.bind_some, decide_eq_false (by omega), cond_false]
      rfl
theorem node_nil (self : List In → Option (List UInt8)) : ∃ x, gs_ref08_Node self [] = some (x, false) := ⟨_, theC_eq (Comes.stop (by simp only [step_ref08_Node]; rfl))⟩
theorem enc_all (v : Nat) : ∀ n d l, d < n → WF v d l → (∀ m, d < m → rec_ref08_Enc m l = some (encP l)) ∧ encP l = bytesP l ∧ (encP l).length ≤ 800
  | 0, d, l, h, _ => by omega
  | n + 1, d, l, hd, h => by
    have ih := enc_all v n
    have key : ∀ m, d < m → rec_ref08_Enc m l = some (bytesP l) := by
      intro m hm
      obtain ⟨m, rfl⟩ : ∃ k, m = k + 1 := ⟨m - 1, by omega⟩
      show gs_ref08_Enc (rec_ref08_Enc m) l = _
      unfold gs_ref08_Enc bytesP
      by_cases hl : l = []
      · subst hl
        obtain ⟨x, hx⟩ := node_nil (rec_ref08_Enc m)
        rw [hx, if_pos rfl]; rfl
      · rw [node_step _ h hl fun d' l' hd' hw => ⟨(ih d' l' (by omega) hw).1 m (by omega), (ih d' l' (by omega) hw).2.2⟩, if_neg hl, Option.bind_some]
        show (g_ref06_Put (nodeP l)).bind _ = _
        rw [putR h hl]; rfl
    have e : encP l = bytesP l := by
      unfold encP
      rw [show g_ref08_Enc l = some (bytesP l) from theR_eq (d + 1) fun m hm => key m (by omega)]
      rfl
    refine ⟨fun m hm => by rw [e]; exact key m hm, e, ?_⟩
    rw [e]
    unfold bytesP
    split
    · simp
    · rename_i hl
      have := (putL h hl).2.1
      have := h.top
      omega
theorem Enc_ok {v d : Nat} {l : List In} (h : WF v d l) : g_ref08_Enc l = some (bytesP l) := by
  obtain ⟨h1, h2, _⟩ := enc_all v (d + 1) d l (by omega) h
  rw [← h2]; exact theR_eq (d + 1) fun m hm => h1 m (by omega)
theorem Node_ok {v d : Nat} {l : List In} (h : WF v d l) (hl : l ≠ []) : g_ref08_Node l = some (nodeP l, true) :=
  node_step _ h hl fun d' l' hd' hw => by
    obtain ⟨_, h2, h3⟩ := enc_all v (d' + 1) d' l' (by omega) hw
    exact ⟨by rw [h2]; exact Enc_ok hw, h3⟩
theorem Node_nil : ∃ x, g_ref08_Node [] = some (x, false) := node_nil _
end Go.Proofs.Ytfnlcnnoedmfiaa.K
