import Derived.Test.YtoeppofkmcdknaaCPNode5
/- Nodes: both tell the same references; what is laid is read. -/
namespace Go.Proofs.Ytoeppofkmcdknaa.K
open Go
set_option linter.unusedVariables false
set_option linter.unusedSimpArgs false
set_option linter.unusedSectionVars false
theorem itemN_list (n : Node) : (itemN n).fList = true := by
  unfold itemN
  split
  · rfl
  · split <;> rfl
theorem NGet_err {s : List UInt8} {e : Int} (self : List UInt8 → Option Bool) (he : e ≠ 0) (hw : g_rlp_Whole s = some (noI, e)) : gs_node_Get self s = some (zeroN, e) := by
  refine theC_eq (Comes.stop ?_)
  simp only [step_node_Get, hw, Option.bind_some]
  rw [decide_eq_false he]
  rfl
theorem RGet_err {s : List UInt8} {y : Item} {k a f : Int} (self : List UInt8 → Option Bool) (hr : g_ref05_Read s 0 4096 = some (y, k, a, f)) (hb : ((!decide (f = 0)) || (!decide (k = (s.length : Int)))) = true) : gs_ref06_Get self s = some (zeroN, false) := by
  refine theC_eq (Comes.stop ?_)
  simp only [step_ref06_Get, hr, Option.bind_some]
  rw [hb, Bool.true_or]
  rfl
noncomputable def RF (k : List UInt8) : Bool := (g_node_Reference k).getD false
def Pok (s : List UInt8) : Prop := (∀ m, s.length < m → rec_node_Reference m s = some (RF s) ∧ rec_ref06_Reference m s = some (RF s)) ∧ (RF s = true → good s)
theorem not_ref {s : List UInt8} (h0 : ¬ (s = [] ∨ s.length = 32)) : ((s == []) || decide ((s.length : Int) = 32)) = false := by
  rw [Bool.or_eq_false_iff]
  exact ⟨by rw [beq_eq_false_iff_ne]; exact fun e => h0 (.inl e), decide_eq_false (by omega)⟩
theorem is_ref {s : List UInt8} (h0 : s = [] ∨ s.length = 32) : ((s == []) || decide ((s.length : Int) = 32)) = true := by
  rcases h0 with rfl | h
  · rfl
  · rw [decide_eq_true (by omega), Bool.or_true]
theorem NRef_get {s : List UInt8} (self : List UInt8 → Option Bool) {n : Node} {e : Int} {b : Bool} (h0 : ¬ (s = [] ∨ s.length = 32)) (h : gs_node_Get self s = some (n, e)) (hb : (decide ((s.length : Int) < 32) && decide (e = 0)) = b) : gs_node_Reference self s = some b := by
  unfold gs_node_Reference
  rw [not_ref h0, cond_false, h, Option.bind_some, ← hb]
theorem Pok_step (s : List UInt8) (hl : s.length ≤ 1500) (ih : ∀ k : List UInt8, k.length < s.length → Pok k) : Pok s := by
  have hgood : ∀ k : List UInt8, k.length < s.length → RF k = true → good k := fun k hk => (ih k hk).2
  have hs1 : ∀ m, s.length ≤ m → ∀ k : List UInt8, k.length < s.length → rec_node_Reference m k = some (RF k) := fun m hm k hk => ((ih k hk).1 m (by omega)).1
  have hs2 : ∀ m, s.length ≤ m → ∀ k : List UInt8, k.length < s.length → rec_ref06_Reference m k = some (RF k) := fun m hm k hk => ((ih k hk).1 m (by omega)).2
  suffices h : ∃ b, (∀ m, s.length ≤ m → gs_node_Reference (rec_node_Reference m) s = some b ∧ gs_ref06_Reference (rec_ref06_Reference m) s = some b) ∧ (b = true → good s) by
    obtain ⟨b, h1, h2⟩ := h
    have h3 : ∀ m, s.length < m → rec_node_Reference m s = some b ∧ rec_ref06_Reference m s = some b := by
      intro m hm
      obtain ⟨j, rfl⟩ : ∃ j, m = j + 1 := ⟨m - 1, by omega⟩
      exact h1 j (by omega)
    have h4 : g_node_Reference s = some b := theR_eq (s.length + 1) fun m hm => (h3 m (by omega)).1
    have h5 : RF s = b := by unfold RF; rw [h4]; rfl
    unfold Pok
    rw [h5]; exact ⟨h3, h2⟩
  by_cases h0 : s = [] ∨ s.length = 32
  · refine ⟨true, fun m _ => ⟨?_, ?_⟩, fun _ => ?_⟩
    · unfold gs_node_Reference; rw [is_ref h0]; rfl
    · unfold gs_ref06_Reference; rw [is_ref h0]; rfl
    · exact h0.elim .inl fun h => .inr (.inl h)
  · have big : ¬ s.length ≤ 31 → ∀ m, gs_ref06_Reference (rec_ref06_Reference m) s = some false := by
      intro h m
      unfold gs_ref06_Reference
      rw [not_ref h0, cond_false, decide_eq_true (by omega)]; rfl
    rcases Whole_any s (by omega) with ⟨x, hx, he, hw, a, hr⟩ | ⟨e, he, hw, y, k, a, f, hr, hb⟩
    · by_cases h31 : s.length ≤ 31
      · refine ⟨okG RF s x, fun m hm => ⟨?_, ?_⟩, fun h => ?_⟩
        · have hG := NGet_ok hx he hl (hs1 m hm) hgood hw
          cases ho : okG RF s x with
          | true =>
            rw [ho, if_pos rfl] at hG
            exact NRef_get _ h0 hG (by rw [decide_eq_true (by omega)]; rfl)
          | false =>
            rw [ho, if_neg (by simp)] at hG
            exact NRef_get _ h0 hG (by rw [Bool.and_eq_false_iff]; exact .inr (by decide))
        · obtain ⟨n, hG, _⟩ := RGet_ok hx he hl (hs2 m hm) hgood a hr
          unfold gs_ref06_Reference
          rw [not_ref h0, cond_false, decide_eq_false (by omega), cond_false, hG]; rfl
        · have := itemN_eq hx he hl (hs1 s.length (Nat.le_refl _)) hgood h
          exact .inr (.inr ⟨by omega, x, hx, he, by rw [← this]; exact itemN_list _⟩)
      · refine ⟨false, fun m hm => ⟨?_, big h31 m⟩, fun h => by cases h⟩
        have hG := NGet_ok hx he hl (hs1 m hm) hgood hw
        split at hG
        · exact NRef_get _ h0 hG (by rw [decide_eq_false (by omega)]; rfl)
        · exact NRef_get _ h0 hG (by rw [decide_eq_false (by omega)]; rfl)
    · refine ⟨false, fun m hm => ⟨NRef_get _ h0 (NGet_err _ he hw) (by rw [decide_eq_false he, Bool.and_false]), ?_⟩, fun h => by cases h⟩
      by_cases h31 : s.length ≤ 31
      · unfold gs_ref06_Reference
        rw [not_ref h0, cond_false, decide_eq_false (by omega), cond_false, RGet_err _ hr hb]; rfl
      · exact big h31 m
theorem Pok_all : ∀ (N : Nat) (s : List UInt8), s.length < N → s.length ≤ 1500 → Pok s
  | 0, s, h, _ => by omega
  | N + 1, s, h, hl => Pok_step s hl fun k hk => Pok_all N k (by omega) (by omega)
theorem RF_node {s : List UInt8} (hl : s.length ≤ 1500) : g_node_Reference s = some (RF s) := theR_eq (s.length + 1) fun m hm => ((Pok_all _ s (Nat.lt_succ_self _) hl).1 m (by omega)).1
theorem RF_ref {s : List UInt8} (hl : s.length ≤ 1500) : g_ref06_Reference s = some (RF s) := theR_eq (s.length + 1) fun m hm => ((Pok_all _ s (Nat.lt_succ_self _) hl).1 m (by omega)).2
theorem RF_good {s : List UInt8} (hl : s.length ≤ 1500) (h : RF s = true) : good s := (Pok_all _ s (Nat.lt_succ_self _) hl).2 h
theorem RF_nil {s : List UInt8} (h0 : s = [] ∨ s.length = 32) : RF s = true := by
  have hl : s.length ≤ 1500 := by
    rcases h0 with rfl | h
    · simp
    · omega
  have := ((Pok_all _ s (Nat.lt_succ_self _) hl).1 (s.length + 1) (by omega)).1
  have h2 : rec_node_Reference (s.length + 1) s = some true := by
    show gs_node_Reference _ s = _
    unfold gs_node_Reference
    rw [is_ref h0]; rfl
  rw [h2] at this
  exact (Option.some.inj this).symm
theorem RF_eq {s : List UInt8} {x : Item} (hl : s.length ≤ 31) (hx : RT 65 x) (he : ienc x = s) (h0 : ¬ (s = [] ∨ s.length = 32)) : RF s = okG RF s x := by
  have h1 := ((Pok_all _ s (Nat.lt_succ_self _) (by omega)).1 (s.length + 1) (by omega)).1
  have hw : g_rlp_Whole s = some (x, 0) := by rw [← he]; exact Whole_small hx (by omega) (by rw [he]; omega)
  have hG := NGet_ok (self := rec_node_Reference s.length) hx he (by omega) (fun k hk => ((Pok_all _ k (Nat.lt_succ_self _) (by omega)).1 s.length hk).1) (fun k hk => RF_good (by omega)) hw
  have h2 : rec_node_Reference (s.length + 1) s = some (okG RF s x) := by
    show gs_node_Reference _ s = _
    cases ho : okG RF s x with
    | true =>
      rw [ho, if_pos rfl] at hG
      exact NRef_get _ h0 hG (by rw [decide_eq_true (by omega)]; rfl)
    | false =>
      rw [ho, if_neg (by simp)] at hG
      exact NRef_get _ h0 hG (by rw [Bool.and_eq_false_iff]; exact .inr (by decide))
  rw [h2] at h1
  exact (Option.some.inj h1).symm
theorem kcnt0 {n : Node} (h : kcnt n = 0) : n.fKids = Arr.rep 16 [] := by
  apply Subtype.ext
  show n.fKids.1 = List.replicate 16 []
  rw [List.eq_replicate_iff]
  refine ⟨n.fKids.2, fun k hk => ?_⟩
  have h2 := List.length_eq_zero_iff.1 h
  rw [List.filter_eq_nil_iff] at h2
  have := h2 k hk
  simpa [ne0] using this
theorem kcnt1 {n : Node} (h : kcnt n = 1) (h0 : idx n.fKids.1 (0 : Int) ≠ []) : n.fKids = K1 (idx n.fKids.1 (0 : Int)) := by
  apply Subtype.ext
  have h16 := kids16 n
  obtain ⟨a, r, e⟩ : ∃ a r, n.fKids.1 = a :: r := by
    cases hh : n.fKids.1 with
    | nil => rw [hh] at h16; cases h16
    | cons a r => exact ⟨a, r, rfl⟩
  unfold kcnt at h
  rw [e] at h h0 h16 ⊢
  have ha : idx (a :: r) (0 : Int) = a := rfl
  rw [ha] at h0 ⊢
  have hne : ne0 a = true := by simpa [ne0] using h0
  rw [List.filter_cons, if_pos hne, List.length_cons] at h
  have h2 := List.length_eq_zero_iff.1 (by omega : (r.filter ne0).length = 0)
  rw [List.filter_eq_nil_iff] at h2
  have hr : r = List.replicate 15 [] := by
    rw [List.eq_replicate_iff]
    refine ⟨by simpa using h16, fun k hk => ?_⟩
    have := h2 k hk
    simpa [ne0] using this
  rw [hr]; rfl
theorem nodeOf_itemN {R : List UInt8 → Bool} {n : Node} (hc : chkB R n = true) (hg : ∀ k ∈ n.fKids.1, good k) : nodeOf (itemN n) = n := by
  have h16 := kids16 n
  obtain ⟨c1, c2, c3⟩ := chk_parts hc
  obtain ⟨kind, path, value, kids⟩ := n
  rcases shape_kind c3 with h | h | h
  · simp only at h
    subst h
    have e : itemN ⟨1, path, value, kids⟩ = ⟨true, [], [txt (packS path true), txt value]⟩ := by unfold itemN; rw [if_pos rfl]
    have hs : kcnt ⟨1, path, value, kids⟩ = 0 := by
      simp only [shapeB, decide_true, cond_true, Bool.and_eq_true, decide_eq_true_eq] at c3
      omega
    have hk : kids = Arr.rep 16 [] := kcnt0 hs
    obtain ⟨p1, p2, _⟩ := unp_pack c1 true
    simp only at p1 p2
    rw [e]
    show pairN (txt (packS path true)) (txt value) = _
    unfold pairN
    rw [show (txt (packS path true)).fS = packS path true from rfl, if_pos p2, p1, hk]
    rfl
  · simp only at h
    subst h
    have e : itemN ⟨2, path, value, kids⟩ = ⟨true, [], [txt (packS path false), itemR (idx kids.1 (0 : Int))]⟩ := by unfold itemN; rw [if_neg (by show ¬ ((2 : Int) = 1); decide), if_pos rfl]
    simp only [shapeB, show decide ((2 : Int) = 1) = false from rfl, decide_true, cond_true, cond_false, Bool.and_eq_true, decide_eq_true_eq, beq_iff_eq, Bool.not_eq_true', beq_eq_false_iff_ne] at c3
    have hk : kids = K1 (idx kids.1 (0 : Int)) := kcnt1 (n := ⟨2, path, value, kids⟩) (by omega) c3.2
    have hv : value = [] := c3.1.1.1
    obtain ⟨p1, p2, _⟩ := unp_pack c1 false
    simp only at p1 p2
    have hgi := (good_item (hg _ (idx_mem kids.1 (i := 0) (by rw [kids.2]; omega)))).2.2.2.1
    have hgi : refOf (itemR (idx kids.1 (0 : Int))) = idx kids.1 (0 : Int) := hgi
    rw [e]
    show pairN (txt (packS path false)) (itemR (idx kids.1 (0 : Int))) = _
    unfold pairN
    rw [show (txt (packS path false)).fS = packS path false from rfl, if_neg (by rw [p2]; simp), p1, hgi, ← hk, hv]
  · simp only at h
    subst h
    have e : itemN ⟨3, path, value, kids⟩ = ⟨true, [], kids.1.map itemR ++ [txt []]⟩ := by
      unfold itemN
      rw [if_neg (by show ¬ ((3 : Int) = 1); decide), if_neg (by show ¬ ((3 : Int) = 2); decide)]
    simp only [shapeB, show decide ((3 : Int) = 1) = false from rfl, show decide ((3 : Int) = 2) = false from rfl, decide_true, cond_true, cond_false, Bool.and_eq_true, decide_eq_true_eq, beq_iff_eq] at c3
    have hv : value = [] := c3.1.1
    have hp : path = [] := List.length_eq_zero_iff.1 (by omega)
    have hlen : (kids.1.map itemR).length = 16 := by rw [List.length_map, kids.2]
    have hk : putK (kids.1.map itemR ++ [txt []]) 16 = kids := by
      apply Subtype.ext
      rw [putK_all _ (by rw [List.length_append, hlen]; omega), List.take_append_of_le_length (by omega), List.take_of_length_le (by omega), List.map_map]
      conv => rhs; rw [← List.map_id kids.1]
      exact List.map_congr_left fun k hk => (good_item (hg k hk)).2.2.2.1
    rw [e]
    generalize hl : kids.1.map itemR ++ [txt []] = l at hk
    have hl17 : l.length = 17 := by rw [← hl, List.length_append, hlen]; rfl
    unfold nodeOf
    rw [if_neg (by show ¬ (l.length = 2); omega), if_pos (by show l.length = 17; exact hl17), hv, hp]
    show (⟨3, [], [], putK l 16⟩ : Node) = _
    rw [hk]
theorem NPut_top (n : Node) (hk : ∀ k ∈ n.fKids.1, k.length ≤ 1500) (hp : n.fPath.length ≤ 1000000) (hv : n.fValue.length ≤ 3000) : g_node_Put n = some (if chkB RF n = true then (ienc (itemN n), 0) else ([], 2)) :=
  PutN_ok g_node_Reference RF n (fun k h => RF_node (hk k h)) (fun k h => RF_good (hk k h)) hp hv
theorem NGet_top {s : List UInt8} {x : Item} (hx : RT 65 x) (he : ienc x = s) (hl : s.length ≤ 1500) : g_node_Get s = some (if okG RF s x = true then (nodeOf x, 0) else (zeroN, 6)) :=
  NGet_ok (self := g_node_Reference) hx he hl (fun k hk => RF_node (by omega)) (fun k hk => RF_good (by omega)) (by rw [← he]; exact Whole_small hx (by omega) (by rw [he]; omega))
theorem PutGet {n : Node} (hc : chkB RF n = true) (hk : ∀ k ∈ n.fKids.1, k.length ≤ 1500) (hv : n.fValue.length ≤ 500) : g_node_Get (ienc (itemN n)) = some (n, 0) := by
  obtain ⟨c1, c2, c3⟩ := chk_parts hc
  have hg : ∀ k ∈ n.fKids.1, good k := fun k h => RF_good (hk k h) (c2 k h)
  obtain ⟨r1, r2, r3⟩ := itemN_rt n hg (okP_ok c1).2 (by omega)
  have e := nodeOf_itemN hc hg
  rw [NGet_top r1 rfl (by omega), if_pos (okG_iff.2 ⟨by rw [e]; exact hc, by rw [e]⟩), e]
end Go.Proofs.Ytoeppofkmcdknaa.K
