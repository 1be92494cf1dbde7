import Derived.Test.YtoeppofkmcdknaaCPR03c
import Derived.Test.YtoeppofkmcdknaaCPNode6
import Derived.Test.YtoeppofkmcdknaaCPAw07
import Derived.Test.YtoeppofkmcdknaaCWLaw07
/- Package refs: what it reckons, and the awake call of layer 07. -/
namespace Go.Proofs.Ytoeppofkmcdknaa.K
open Go
set_option linter.unusedVariables false
set_option linter.unusedSimpArgs false
set_option linter.unusedSectionVars false
theorem all_rep (R : List UInt8 → Bool) (h : R [] = true) : (Arr.rep 16 ([] : List UInt8)).1.all R = true := by
  rw [List.all_eq_true]
  intro k hk
  have : k = [] := List.eq_of_mem_replicate hk
  rw [this]; exact h
theorem RF0 : RF [] = true := RF_nil (.inl rfl)
theorem RF_of {n : Node} (hc : chkB RF n = true) (hk : ∀ k ∈ n.fKids.1, k.length ≤ 1500) (hv : n.fValue.length ≤ 500) (hl : (ienc (itemN n)).length ≤ 31) : RF (ienc (itemN n)) = true := by
  obtain ⟨c1, c2, c3⟩ := chk_parts hc
  have hg : ∀ k ∈ n.fKids.1, good k := fun k h => RF_good (hk k h) (c2 k h)
  obtain ⟨r1, r2, r3⟩ := itemN_rt n hg (okP_ok c1).2 (by omega)
  have e := nodeOf_itemN hc hg
  have := ienc_pos (itemN n)
  rw [RF_eq hl r1 rfl (fun h => h.elim (ienc_ne _) (fun h => by omega))]
  exact okG_iff.2 ⟨by rw [e]; exact hc, by rw [e]⟩
def awL : Node := ⟨1, [1], [97], Arr.rep 16 []⟩
def awS : List UInt8 := [194, 49, 97]
theorem awL_chk : chkB RF awL = true := by
  unfold chkB
  rw [show okP awL.fPath = true from by decide, show awL.fKids.1.all RF = true from all_rep RF RF0, show shapeB awL = true from by decide]; rfl
theorem rep_small : ∀ k ∈ (Arr.rep 16 ([] : List UInt8)).1, k.length ≤ 1500 := by
  intro k hk
  have : k = [] := List.eq_of_mem_replicate hk
  rw [this]; simp
theorem awL_enc : ienc (itemN awL) = awS := by
  have : itemN awL = ⟨true, [], [txt [49], txt [97]]⟩ := by
    unfold itemN
    rw [if_pos (show awL.fKind = 1 from rfl), show packS awL.fPath true = [49] from by decide]; rfl
  rw [this, ienc_list]
  simp [iencs, txt_enc, hd, hdC, awS]
theorem awS_ref : RF awS = true := by
  have := RF_of awL_chk rep_small (by decide) (by rw [awL_enc]; decide)
  rwa [awL_enc] at this
theorem x_noref : RF [120] = false := by
  have h1 : ienc (txt [120]) = [120] := by simp [txt_enc]
  rw [RF_eq (x := txt [120]) (by decide) (txt_rt _ 64) h1 (by decide)]
  refine okG_no fun h => ?_
  have hs := (chk_parts h.1).2.2
  rw [show nodeOf (txt [120]) = zeroN from rfl] at hs
  simp [shapeB, zeroN] at hs
def rOf (s : List UInt8) : List UInt8 := if s.length < 32 then s else shaB s
theorem Of_ok (s : List UInt8) (hs : s.length ≤ 1000000) : g_refs_Of s = some (rOf s) := by
  unfold g_refs_Of rOf
  by_cases h : s.length < 32
  · rw [decide_eq_true (by omega), cond_true, if_pos h]
  · rw [decide_eq_false (by omega), cond_false, if_neg h, SumOf_ok s hs]; rfl
theorem R7Of_ok (s : List UInt8) (hs : s.length ≤ 1000000) : g_ref07_Of s = some (rOf s) := by
  unfold g_ref07_Of rOf
  by_cases h : s.length < 32
  · rw [decide_eq_false (by omega), cond_false, if_pos h]
  · rw [decide_eq_true (by omega), cond_true, if_neg h, ROf_ok s hs]; rfl
theorem Root_ok (s : List UInt8) (hs : s.length ≤ 1000000) : ∃ r, g_refs_Root s = some r ∧ g_ref07_Root s = some r := by
  unfold g_refs_Root g_ref07_Root
  cases h : (s == ([] : List UInt8)) with
  | true => exact ⟨shaA [128], by rw [cond_true, SumOf_ok _ (by simp)]; rfl, by rw [cond_true, RSum_ok _ (by simp)]; rfl⟩
  | false => exact ⟨shaA s, by rw [cond_false, SumOf_ok _ hs]; rfl, by rw [cond_false, RSum_ok _ hs]; rfl⟩
def hit (r s : List UInt8) : Bool := !(s == ([] : List UInt8)) && (r == rOf s)
theorem Match_ok (r s : List UInt8) (hs : s.length ≤ 1000000) : g_refs_Match r s = some (hit r s) := by
  unfold g_refs_Match hit
  cases h : (s == ([] : List UInt8)) with
  | true => rfl
  | false => rw [show ((!false) == true) = true from rfl, cond_true, Of_ok s hs]; rfl
theorem Find_ok (r : List UInt8) (l : List (List UInt8)) (hl : l.length ≤ 1000) (ht : ∀ x ∈ l, x.length ≤ 1000000) : ∃ p, g_refs_Find r l = some p ∧
    ((∃ i : Nat, p = (idx l (i : Int), true) ∧ i < l.length ∧ hit r (idx l (i : Int)) = true ∧ ∀ j, j < i → hit r (idx l (j : Int)) = false) ∨ (p = ([], false) ∧ ∀ i, i < l.length → hit r (idx l (i : Int)) = false)) := by
  obtain ⟨x, hx, h⟩ := ContainsS l (fun y0 => g_refs_Find_1 y0 r) (hit r) (fun y hy => by
    show g_refs_Find_1 y r = _
    unfold g_refs_Find_1
    rw [Match_ok r y (ht y hy)]; rfl) (by omega)
  unfold g_refs_Find
  rw [hx, Option.bind_some]
  rcases h with ⟨i, rfl, hi, h1, h2⟩ | ⟨rfl, h1⟩
  · rw [decide_eq_false (by omega), cond_false, gO_pos (by omega)]
    exact ⟨_, rfl, .inl ⟨i, rfl, hi, h1, h2⟩⟩
  · exact ⟨_, rfl, .inr ⟨rfl, h1⟩⟩
def CQ (l : List (List UInt8)) (p : Int × Int × Bool) : Prop := (∃ j k : Nat, p = ((j : Int), (k : Int), true) ∧ j < k ∧ k < l.length ∧ cl l j k) ∨ (p = (0, 0, false) ∧ ∀ j k, j < k → k < l.length → ¬ cl l j k)
theorem Clash_L2 (l : List (List UInt8)) (hl : l.length ≤ 1000) (k : Nat) (hk : k < l.length)
    (hn : (∀ j, j < k → ¬ cl l j k) → ∃ p, Comes (step_refs_Clash l) (.L1 ((l.take (k + 1)).map shaA) ((k + 1 : Nat) : Int)) p ∧ CQ l p) :
    ∀ m i, m + i = k → (∀ j, j < i → ¬ cl l j k) → ∃ p, Comes (step_refs_Clash l) (.L2 ((l.take k).map shaA) (k : Int) (idx l (k : Int)) (k : Int) ((l.take k).map shaA) (k : Int) (i : Int) (shaA (idx l (k : Int)))) p ∧ CQ l p
  | 0, i, hi, hj => by
    have : i = k := by omega
    subst this
    have hlen : ((l.take i).map shaA).length = i := by simp; omega
    obtain ⟨p, h1, h2⟩ := hn hj
    refine ⟨p, Comes.next ?_ h1, h2⟩
    simp only [step_refs_Clash, hlen]
    rw [decide_eq_false (by omega), cond_false, gO_pos (by simp only [List.length_singleton]; omega), gO_pos (by unfold inI; omega), map_take_succ shaA l hk]
    rfl
  | m + 1, i, hi, hj => by
    have e1 := idx_map_take shaA l (i := i) (k := k) (by omega) (by omega)
    have hlen : ((l.take k).map shaA).length = k := by simp; omega
    have e2 : ((shaA (idx l (k : Int))).1 == (shaA (idx l (i : Int))).1) = (shaB (idx l (i : Int)) == shaB (idx l (k : Int))) := Bool.beq_comm
    by_cases hc : cl l i k
    · refine ⟨((i : Int), (k : Int), true), Comes.stop ?_, .inl ⟨i, k, rfl, by omega, hk, hc⟩⟩
      simp only [step_refs_Clash, e1, e2, hlen]
      rw [decide_eq_true (by omega), cond_true, gO_pos (by omega), gO_pos (fun _ => by omega), beq_iff_eq.2 hc.1, beq_eq_false_iff_ne.2 hc.2]
      rfl
    · obtain ⟨b, h1, h2⟩ := Clash_L2 l hl k hk hn m (i + 1) (by omega) (fun j h => by
        rcases Nat.lt_succ_iff_lt_or_eq.1 h with h | h
        · exact hj j h
        · rw [h]; exact hc)
      refine ⟨b, Comes.next ?_ h1, h2⟩
      have hb : ((shaB (idx l (i : Int)) == shaB (idx l (k : Int))) && !(idx l (i : Int) == idx l (k : Int))) = false := by
        rw [Bool.eq_false_iff]
        intro h
        rw [Bool.and_eq_true, beq_iff_eq, Bool.not_eq_true', beq_eq_false_iff_ne] at h
        exact hc h
      simp only [step_refs_Clash, e1, e2, hlen]
      rw [decide_eq_true (by omega), cond_true, gO_pos (by omega), gO_pos (fun _ => by omega), hb, cond_false, gO_pos (by unfold inI; omega)]
      rfl
theorem Clash_L1 (l : List (List UInt8)) (hl : l.length ≤ 1000) (ht : ∀ x ∈ l, x.length ≤ 1000000) :
    ∀ m k, m + k = l.length → (∀ j k', j < k' → k' < k → ¬ cl l j k') → ∃ p, Comes (step_refs_Clash l) (.L1 ((l.take k).map shaA) (k : Int)) p ∧ CQ l p
  | 0, k, hk, hj => by
    refine ⟨(0, 0, false), Comes.stop ?_, .inr ⟨rfl, fun j k' h1 h2 => hj j k' h1 (by omega)⟩⟩
    simp only [step_refs_Clash]
    rw [decide_eq_false (by omega), cond_false]
  | m + 1, k, hk, hj => by
    obtain ⟨b, h1, h2⟩ := Clash_L2 l hl k (by omega) (fun h => Clash_L1 l hl ht m (k + 1) (by omega) (fun j k' h1 h2 => by
      rcases Nat.lt_succ_iff_lt_or_eq.1 h2 with h3 | h3
      · exact hj j k' h1 h3
      · rw [h3] at h1 ⊢; exact h j h1)) k 0 (by omega) (fun j h => absurd h (by omega))
    refine ⟨b, Comes.next ?_ h1, h2⟩
    have hlen : ((l.take k).map shaA).length = k := by simp; omega
    simp only [step_refs_Clash, hlen]
    rw [decide_eq_true (by omega), cond_true, gO_pos (by omega), SumOf_ok _ (ht _ (idx_mem l (by omega))), Option.bind_some]
    rfl
theorem Clash_ok (l : List (List UInt8)) (hl : l.length ≤ 1000) (ht : ∀ x ∈ l, x.length ≤ 1000000) : ∃ p, g_refs_Clash l = some p ∧ CQ l p := by
  obtain ⟨b, h1, h2⟩ := Clash_L1 l hl ht l.length 0 rfl (fun j k' h1 h2 => absurd h2 (by omega))
  exact ⟨b, theC_eq (Comes.next rfl h1), h2⟩
noncomputable def kindV (s : List UInt8) : Int := if s = [] then 0 else if RF s = true then (if s.length = 32 then 1 else 2) else 3
theorem Kind_ok (s : List UInt8) (hs : s.length ≤ 1500) : g_refs_Kind s = some (kindV s) := by
  unfold g_refs_Kind kindV
  by_cases h0 : s = []
  · rw [if_pos h0, h0]; rfl
  · rw [if_neg h0, beq_eq_false_iff_ne.2 h0, cond_false, RF_node hs, Option.bind_some]
    cases hr : RF s with
    | false => rfl
    | true =>
      rw [Bool.not_true, cond_false, if_pos rfl]
      by_cases h : s.length = 32
      · rw [decide_eq_true (by omega), cond_true, if_pos h]
      · rw [decide_eq_false (by omega), cond_false, if_neg h]
def sml (k : List UInt8) : Bool := ne0 k && decide (k.length < 32)
noncomputable def allV (s : List UInt8) : List (List UInt8) := (g_refs_All s).getD []
theorem flat_le {α β : Type} (f : α → List β) (b : Nat) : ∀ l : List α, (∀ k ∈ l, (f k).length ≤ b) → (l.flatMap f).length ≤ l.length * b
  | [], _ => by simp
  | x :: r, h => by
    have h1 := flat_le f b r fun k hk => h k (List.mem_cons_of_mem _ hk)
    have h2 := h x (List.mem_cons_self ..)
    rw [List.flatMap_cons, List.length_append, List.length_cons, Nat.succ_mul]
    omega
theorem flat_sum (f : List UInt8 → List (List UInt8)) : ∀ l : List (List UInt8), (∀ k ∈ l, (f k).length ≤ k.length) → (l.flatMap f).length ≤ (l.map List.length).sum
  | [], _ => by simp
  | x :: r, h => by
    have h1 := flat_sum f r fun k hk => h k (List.mem_cons_of_mem _ hk)
    have h2 := h x (List.mem_cons_self ..)
    rw [List.flatMap_cons, List.length_append, List.map_cons, List.sum_cons]
    omega
theorem sum_filter (p : List UInt8 → Bool) : ∀ l : List (List UInt8), ((l.filter p).map List.length).sum ≤ (l.map List.length).sum
  | [] => Nat.le_refl _
  | x :: r => by
    have h1 := sum_filter p r
    rw [List.filter_cons]
    split
    · rw [List.map_cons, List.sum_cons, List.map_cons, List.sum_cons]; omega
    · rw [List.map_cons, List.sum_cons]; omega
theorem refOf_le {n : Nat} {y : Item} (h : RT (n + 1) y) : (refOf y).length ≤ (ienc y).length := by
  unfold refOf
  split
  · exact Nat.le_refl _
  · rename_i hh
    exact fS_len y (by simpa using hh)
theorem sum_refs {n : Nat} : ∀ l : List Item, (∀ y ∈ l, RT (n + 1) y) → ((l.map refOf).map List.length).sum ≤ (iencs l).length
  | [], _ => by simp
  | x :: r, h => by
    have h1 := sum_refs r fun y hy => h y (List.mem_cons_of_mem _ hy)
    have h2 := refOf_le (h x (List.mem_cons_self ..))
    rw [List.map_cons, List.map_cons, List.sum_cons, iencs, List.length_append]
    omega
theorem kid_sum {x : Item} {s : List UInt8} (hx : RT 65 x) (he : ienc x = s) : ((nodeOf x).fKids.1.map List.length).sum < s.length := by
  have hs : 0 < s.length := by rw [← he]; exact ienc_pos x
  have rep : ((Arr.rep 16 ([] : List UInt8)).1.map List.length).sum < s.length := hs
  unfold nodeOf
  split
  · rename_i h
    have hb := it_kid hx he (idx_mem x.fL (i := 1) (by omega))
    have hb2 : (refOf (idx x.fL (1 : Int))).length < s.length := hb.2.2.1
    unfold pairN
    split
    · exact rep
    · show ((refOf (idx x.fL (1 : Int))).length + 0) < s.length
      omega
  · split
    · rename_i h
      have hL := it_list hx he (by intro e; rw [e] at h; simp at h)
      show ((putK x.fL 16).1.map List.length).sum < s.length
      rw [putK_all _ (by omega)]
      have h1 := sum_refs (n := 63) (x.fL.take 16) fun y hy => (it_kid hx he (List.mem_of_mem_take hy)).1
      have h2 : iencs x.fL = iencs (x.fL.take 16) ++ iencs (x.fL.drop 16) := by rw [← iencs_app, List.take_append_drop]
      have h3 := congrArg List.length h2
      have h4 := congrArg List.length (ienc_L hL)
      have h5 := hd_pos true (iencs x.fL).length
      rw [List.length_append] at h3 h4
      rw [he] at h4
      omega
    · exact rep
def PA (s : List UInt8) : Prop := (∀ m, s.length < m → rec_refs_All m s = some (allV s) ∧ rec_ref07_All m s = some (allV s)) ∧ (allV s).length ≤ s.length ∧ ∀ n, g_node_Get s = some (n, 0) → allV s = s :: (n.fKids.1.filter sml).flatMap allV
theorem take_all_idx {α : Type} [Inhabited α] (p : α → Bool) (f : α → List (List UInt8)) (l : List α) {i : Nat} (hi : i < l.length) : ((l.take (i + 1)).filter p).flatMap f = ((l.take i).filter p).flatMap f ++ (if p (idx l (i : Int)) = true then f (idx l (i : Int)) else []) := by
  rw [take_idx l hi, filt_snoc, List.flatMap_append]
  congr 1
  split <;> simp
theorem PA_step (s : List UInt8) (hl : s.length ≤ 1500) (ih : ∀ k : List UInt8, k.length < s.length → PA k) : PA s := by
  have fin : ∀ L : List (List UInt8), (∀ m, s.length < m → rec_refs_All m s = some L ∧ rec_ref07_All m s = some L) → allV s = L := by
    intro L h
    unfold allV
    rw [show g_refs_All s = some L from theR_eq (s.length + 1) fun m hm => (h m (by omega)).1]
    rfl
  have no : ∀ e : Int, e ≠ 0 → g_node_Get s = some (zeroN, e) → (∃ m, g_ref06_Get s = some (m, false)) → PA s := by
    intro e he hG ⟨m, hR⟩
    have h : ∀ m, s.length < m → rec_refs_All m s = some [] ∧ rec_ref07_All m s = some [] := by
      intro m hm
      obtain ⟨m, rfl⟩ : ∃ k, m = k + 1 := ⟨m - 1, by omega⟩
      constructor
      · refine theC_eq (Comes.stop ?_)
        simp only [step_refs_All]
        rw [hG, Option.bind_some, decide_eq_false he]; rfl
      · refine theC_eq (Comes.stop ?_)
        simp only [step_ref07_All]
        rw [hR]; rfl
    have hv := fin [] h
    refine ⟨by rw [hv]; exact h, by rw [hv]; simp, fun n hn => ?_⟩
    rw [hG] at hn
    exact absurd (Prod.mk.inj (Option.some.inj hn)).2 he
  rcases Whole_any s (by omega) with ⟨x, hx, he, hw, a, hr⟩ | ⟨e, he, hw, y, k, a, f, hr, hb⟩
  · have hG := NGet_top hx he (by omega)
    obtain ⟨n, hm, hm2⟩ := RGet_ok (self := g_ref06_Reference) (R := RF) hx he (by omega) (fun k hk => RF_ref (by omega)) (fun k hk => RF_good (by omega)) a hr
    have hm : g_ref06_Get s = some (n, okG RF s x) := hm
    cases ho : okG RF s x with
    | false =>
      rw [ho] at hG hm
      exact no 6 (by decide) hG ⟨n, hm⟩
    | true =>
      have e := hm2 ho
      subst e
      rw [ho, if_pos rfl] at hG
      rw [ho] at hm
      obtain ⟨h1, h2⟩ := okG_iff.1 ho
      obtain ⟨k1, k2, k3⟩ := node_small hx he
      obtain ⟨c1, c2, c3⟩ := chk_parts h1
      have hsum := kid_sum hx he
      generalize nodeOf x = n at *
      have h16 := kids16 n
      have hgood : ∀ k ∈ n.fKids.1, k = [] ∨ k.length = 32 ∨ k.length < 32 := fun k hk => by
        rcases RF_good (by have := k1 k hk; omega) (c2 k hk) with h | h | h
        · exact .inl h
        · exact .inr (.inl h)
        · exact .inr (.inr h.1)
      have hkl : ∀ k ∈ n.fKids.1, (allV k).length ≤ k.length := fun k hk => (ih k (k1 k hk)).2.1
      have hlen : (s :: (n.fKids.1.filter sml).flatMap allV).length ≤ s.length := by
        have g1 := flat_sum allV (n.fKids.1.filter sml) fun k hk => hkl k ((List.mem_filter.1 hk).1)
        have g2 := sum_filter sml n.fKids.1
        rw [List.length_cons]; omega
      have hpre : ∀ l : List (List UInt8), (∀ k ∈ l, k ∈ n.fKids.1) → l.length ≤ 16 → (s :: l.flatMap allV).length ≤ 30000 := by
        intro l h h2
        have := flat_le allV 1500 l fun k hk => by
          have a1 := hkl k (h k hk)
          have a2 := k1 k (h k hk)
          omega
        have := Nat.mul_le_mul_right 1500 h2
        rw [List.length_cons]; omega
      have key : ∀ m, s.length < m → rec_refs_All m s = some (s :: (n.fKids.1.filter sml).flatMap allV) ∧ rec_ref07_All m s = some (s :: (n.fKids.1.filter sml).flatMap allV) := by
        intro m hm'
        obtain ⟨m, rfl⟩ : ∃ k, m = k + 1 := ⟨m - 1, by omega⟩
        constructor
        · have hK := Kids_ok n
          have hfl := List.length_filter_le ne0 n.fKids.1
          have hfm : ∀ k ∈ n.fKids.1.filter ne0, k ∈ n.fKids.1 := fun k hk => (List.mem_filter.1 hk).1
          have hfs : (n.fKids.1.filter ne0).filter sml = n.fKids.1.filter sml := by
            rw [List.filter_filter]
            congr 1
            funext k
            unfold sml
            cases ne0 k <;> simp
          have hfn : ∀ k ∈ n.fKids.1.filter ne0, ne0 k = true := fun k hk => (List.mem_filter.1 hk).2
          rw [← hfs]
          generalize n.fKids.1.filter ne0 = v at hK hfl hfm hfn
          refine theC_eq (Comes.next (c' := .L1 (s :: ((v.take 0).filter sml).flatMap allV) v (v.length : Int) ((0 : Nat) : Int)) ?_ ?_)
          · simp only [step_refs_All]
            rw [hG, Option.bind_some]
            simp only [decide_true, Bool.not_true, cond_false]
            rw [hK]; rfl
          · have := Comes.upto (step := step_refs_All (rec_refs_All m) s) (fun i => .L1 (s :: ((v.take i).filter sml).flatMap allV) v (v.length : Int) (i : Int)) v.length (r := s :: (v.filter sml).flatMap allV) (by
              intro i hi
              have hmem := idx_mem v hi
              have hk1 := k1 _ (hfm _ hmem)
              have hkind := Kind_ok (idx v (i : Int)) (by omega)
              have hself := ((ih _ hk1).1 m (by omega)).1
              have hb := hpre ((v.take i).filter sml) (fun k hk => hfm k (List.mem_of_mem_take ((List.mem_filter.1 hk).1))) (Nat.le_trans (List.length_filter_le _ _) (by rw [List.length_take]; omega))
              have hb2 := hkl _ (hfm _ hmem)
              have hne : idx v (i : Int) ≠ [] := by
                have := hfn _ hmem
                unfold ne0 at this
                simpa using this
              have hn0 := hfn _ hmem
              have hT := take_all_idx sml allV v hi
              rw [hT]
              simp only [step_refs_All]
              rw [decide_eq_true (by omega), cond_true, gO_pos (by omega), hkind, Option.bind_some]
              unfold kindV
              rw [if_neg hne, if_pos (c2 _ (hfm _ hmem))]
              rcases hgood _ (hfm _ hmem) with h | h | h
              · exact absurd h hne
              · have hs : sml (idx v (i : Int)) = false := by unfold sml; rw [decide_eq_false (by omega), Bool.and_false]
                rw [if_pos h, hs, gO_pos (by unfold inI; omega)]
                simp
              · have hs : sml (idx v (i : Int)) = true := by unfold sml; rw [decide_eq_true h, hn0]; rfl
                rw [if_neg (by omega), hs, decide_eq_true rfl, cond_true, hself, Option.bind_some, gO_pos (by omega), gO_pos (by unfold inI; omega)]
                rfl) (by
              refine Comes.stop ?_
              simp only [step_refs_All]
              rw [decide_eq_false (by omega), cond_false, List.take_length])
            exact this
        · refine theC_eq (Comes.next (c' := .L1 (s :: ((n.fKids.1.take 0).filter sml).flatMap allV) ((0 : Nat) : Int) n.fKind n.fPath n.fValue n.fKids) ?_ ?_)
          · simp only [step_ref07_All]
            rw [hm]; rfl
          · have := Comes.upto (step := step_ref07_All (rec_ref07_All m) s) (fun i => .L1 (s :: ((n.fKids.1.take i).filter sml).flatMap allV) (i : Int) n.fKind n.fPath n.fValue n.fKids) 16 (r := s :: (n.fKids.1.filter sml).flatMap allV) (by
              intro i hi
              have hi' : i < n.fKids.1.length := by omega
              have hmem := idx_mem n.fKids.1 hi'
              have hk1 := k1 _ hmem
              have hself := ((ih _ hk1).1 m (by omega)).2
              have hb := hpre ((n.fKids.1.take i).filter sml) (fun k hk => List.mem_of_mem_take ((List.mem_filter.1 hk).1)) (Nat.le_trans (List.length_filter_le _ _) (by rw [List.length_take]; omega))
              have hb2 := hkl _ hmem
              have hT := take_all_idx sml allV n.fKids.1 hi'
              have hsm : ((!(idx n.fKids.1 (i : Int) == ([] : List UInt8))) && decide (((idx n.fKids.1 (i : Int)).length : Int) < 32)) = sml (idx n.fKids.1 (i : Int)) := by
                unfold sml ne0
                congr 1
                exact decide_eq_decide.2 (by omega)
              rw [hT]
              simp only [step_ref07_All]
              rw [decide_eq_true (by omega), cond_true, gO_pos (by omega), gO_pos (fun _ => by omega), hsm]
              cases hs : sml (idx n.fKids.1 (i : Int)) with
              | false =>
                rw [cond_false, Option.bind_some, gO_pos (by unfold inI; omega)]
                simp
              | true =>
                rw [cond_true, gO_pos (by omega), hself, Option.bind_some, gO_pos (by omega), Option.bind_some, gO_pos (by unfold inI; omega)]
                rfl) (by
              refine Comes.stop ?_
              simp only [step_ref07_All]
              rw [decide_eq_false (by omega), cond_false, List.take_of_length_le (by omega)])
            exact this
      have hv := fin _ key
      refine ⟨by rw [hv]; exact key, by rw [hv]; exact hlen, fun n' hn => ?_⟩
      rw [hG] at hn
      have := (Prod.mk.inj (Option.some.inj hn)).1
      subst this
      exact hv
  · exact no e he (NGet_err _ he hw) ⟨_, RGet_err _ hr hb⟩
theorem PA_all : ∀ (N : Nat) (s : List UInt8), s.length < N → s.length ≤ 1500 → PA s
  | 0, s, h, _ => absurd h (by omega)
  | N + 1, s, h, hl => PA_step s hl fun k hk => PA_all N k (by omega) (by omega)
theorem All_ok (s : List UInt8) (hl : s.length ≤ 1500) : g_refs_All s = some (allV s) ∧ g_ref07_All s = some (allV s) ∧ (allV s).length ≤ s.length ∧ ∀ n, g_node_Get s = some (n, 0) → allV s = s :: (n.fKids.1.filter sml).flatMap allV := by
  have h := PA_all _ s (Nat.lt_succ_self _) hl
  exact ⟨theR_eq (s.length + 1) fun m hm => (h.1 m (by omega)).1, theR_eq (s.length + 1) fun m hm => (h.1 m (by omega)).2, h.2.1, h.2.2⟩
end Go.Proofs.Ytoeppofkmcdknaa.K
