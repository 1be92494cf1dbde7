import Derived.Test.YthpgedneniekmaaAPPin4
/- Indexes that are read. -/
namespace Go.Proofs.Ythpgedneniekmaa.K
open Go
set_option linter.unusedVariables false
set_option linter.unusedSimpArgs false
theorem GrowB_ok (n : Nat) (hn : n ≤ 1000000000) : g_slices_Grow_api_Row_api_Row0 (n : Int) = some [] := by
  unfold g_slices_Grow_api_Row_api_Row0
  rw [decide_eq_false (by omega), cond_false, gO_pos (by decide), gO_pos (by unfold inI; omega)]
  by_cases h : 0 < n
  · rw [decide_eq_true (by omega), cond_true, gO_pos (by omega)]
  · rw [decide_eq_false (by omega), cond_false]
theorem ConcatB_ok (L : List (List Row)) (h1 : L.length ≤ 1000000000) (h2 : L.flatten.length ≤ 1000000000) : g_slices_Concat_api_Row_api_Row L = some L.flatten := by
  refine theC_eq (.next rfl ?_)
  have fl : ∀ i, i < L.length → (L.take (i + 1)).flatten = (L.take i).flatten ++ idx L (i : Int) := fun i hi => by rw [take_idx L hi, List.flatten_append]; simp
  have e2 : Comes (step_slices_Concat_api_Row_api_Row L) (.L2 [] 0) L.flatten := by
    have := Comes.upto (step := step_slices_Concat_api_Row_api_Row L) (r := L.flatten) (fun i => .L2 (L.take i).flatten (i : Int)) L.length (fun i hi => by
      have h3 := flat_take_le L (i + 1)
      rw [fl i hi, List.length_append] at h3
      simp only [step_slices_Concat_api_Row_api_Row]
      rw [decide_eq_true (by omega), cond_true, gO_pos (by omega), gO_pos (by omega), gO_pos (by unfold inI; omega), fl i hi]
      rfl) (.stop (by
      simp only [step_slices_Concat_api_Row_api_Row]
      rw [decide_eq_false (by omega), cond_false, List.take_of_length_le (Nat.le_refl _)]))
    simpa using this
  have := Comes.upto (step := step_slices_Concat_api_Row_api_Row L) (r := L.flatten) (fun i => .L1 ((L.take i).flatten.length : Int) (i : Int)) L.length (fun i hi => by
    have h3 := flat_take_le L (i + 1)
    rw [fl i hi, List.length_append] at h3
    simp only [step_slices_Concat_api_Row_api_Row]
    rw [decide_eq_true (by omega), cond_true, gO_pos (by omega), gO_pos (by unfold inI; omega), decide_eq_false (by omega), cond_false, gO_pos (by unfold inI; omega), fl i hi, List.length_append]
    rfl) (.next (c' := .L2 [] 0) (by
    simp only [step_slices_Concat_api_Row_api_Row]
    rw [decide_eq_false (by omega), cond_false, List.take_of_length_le (Nat.le_refl _), GrowB_ok _ h2]; rfl) e2)
  simpa using this
theorem leB_leV : ∀ l : List UInt8, leB (leV l) l.length = l
  | [] => rfl
  | b :: r => by
    have hb := b.toNat_lt
    rw [leV, List.length_cons, leB, show (b.toNat + 256 * leV r) / 256 = leV r by omega, leB_leV r, show (b.toNat + 256 * leV r) % 256 = b.toNat by omega]
    simp
theorem num4 {s : List UInt8} (h : 4 ≤ s.length) : numC 4 ⟨s, 0⟩ = (BitVec.ofNat 64 (leV (s.take 4)), ⟨s.drop 4, 0⟩) ∧ (BitVec.ofNat 64 (leV (s.take 4))).toNat = leV (s.take 4) := by
  have h1 := leV_lt (s.take 4)
  rw [show (s.take 4).length = 4 by rw [List.length_take]; omega] at h1
  refine ⟨?_, ?_⟩
  · unfold numC takeC
    simp only [ne_eq, not_true_eq_false, if_false]
    rw [if_neg (by omega)]
    simp [List.take_take]
  · rw [BitVec.toNat_ofNat]; exact Nat.mod_eq_of_lt (Nat.lt_of_lt_of_le h1 (by decide))
theorem textC_any (s : List UInt8) : (textC ⟨s, 0⟩).2.fe = 5 ∨ ∃ t u, s = tB t ++ u ∧ textC ⟨s, 0⟩ = (t, ⟨u, 0⟩) := by
  by_cases h4 : s.length < 4
  · left
    have : numC 4 ⟨s, 0⟩ = (BitVec.ofNat 64 0, ⟨[], 5⟩) := by
      unfold numC takeC
      simp only [ne_eq, not_true_eq_false, if_false]
      rw [if_pos h4]; rfl
    unfold textC
    rw [this]; rfl
  · obtain ⟨e1, e2⟩ := num4 (s := s) (by omega)
    unfold textC
    rw [e1]
    simp only []
    rw [e2]
    by_cases h5 : (s.drop 4).length < leV (s.take 4)
    · left
      unfold takeC
      simp only [ne_eq, not_true_eq_false, if_false]
      rw [if_pos h5]
    · right
      refine ⟨(s.drop 4).take (leV (s.take 4)), (s.drop 4).drop (leV (s.take 4)), ?_, ?_⟩
      · have hl : ((s.drop 4).take (leV (s.take 4))).length = leV (s.take 4) := by rw [List.length_take]; omega
        have h6 := leB_leV (s.take 4)
        rw [show (s.take 4).length = 4 by rw [List.length_take]; omega] at h6
        unfold tB
        rw [hl, h6, List.append_assoc, List.take_append_drop, List.take_append_drop]
      · unfold takeC
        simp only [ne_eq, not_true_eq_false, if_false]
        rw [if_neg h5]
theorem textC_app (t u : List UInt8) (h : t.length ≤ 10000000) : textC ⟨tB t ++ u, 0⟩ = (t, ⟨u, 0⟩) := by
  unfold textC tB
  rw [List.append_assoc, numC_app t.length 4 (t ++ u) (by omega) (by have : (256 : Nat) ^ 4 = 4294967296 := by decide
                                                                     omega)]
  simp only []
  rw [BitVec.toNat_ofNat, Nat.mod_eq_of_lt (by omega), takeC_app t u t.length rfl]
theorem text_rows : ∀ (P : List (List Row)), (∀ p ∈ P, mayB p = true) → P.flatten.length ≤ (textP P).length ∧ P.length ≤ (textP P).length
  | [], _ => by simp [textP]
  | p :: Q, h => by
    have h1 := text_rows Q fun q hq => h q (List.mem_cons_of_mem _ hq)
    have hp := h p (List.mem_cons_self ..)
    have h2 : p.length ≤ (p.flatMap rowB).length := by
      clear h h1 hp
      induction p with
      | nil => simp
      | cons r q ih =>
        have := rowB_len r
        rw [List.flatMap_cons, List.length_append, List.length_cons]; omega
    have e : textP (p :: Q) = tB (putL p) ++ textP Q := by unfold textP; rw [List.flatMap_cons]
    rw [e, List.flatten_cons, List.length_append, List.length_append, List.length_cons, tB_len]
    unfold putL
    rw [List.length_append, leB_len]
    omega
theorem L2_ok (s : List UInt8) (all : List Row) (P : List (List Row)) (hl : all.length ≤ 1000000000) : Comes (step_pindex_Load s) (.L2 all 1 P) (bif rises all then (⟨P⟩, 0) else (⟨[]⟩, 6)) := by
  have := Comes.all (step := step_pindex_Load s) (fun i => .L2 all ((i + 1 : Nat) : Int) P) (fun i => ltR (idx all (i : Int)) (idx all ((i + 1 : Nat) : Int))) (all.length - 1) ((⟨[]⟩ : Index), (6 : Int)) ((⟨P⟩ : Index), (0 : Int)) (by
    intro i hi hq
    have e1 : ((i + 1 : Nat) : Int) - 1 = (i : Int) := by omega
    simp only [step_pindex_Load]
    rw [e1, decide_eq_true (by omega), cond_true, gO_pos (by unfold inI; omega), gO_pos (by omega), gO_pos (by omega), Less_ok, Option.bind_some, hq, Bool.not_true, cond_false, gO_pos (by unfold inI; omega)]
    rfl) (by
    intro i hi hq
    have e1 : ((i + 1 : Nat) : Int) - 1 = (i : Int) := by omega
    simp only [step_pindex_Load]
    rw [e1, decide_eq_true (by omega), cond_true, gO_pos (by unfold inI; omega), gO_pos (by omega), gO_pos (by omega), Less_ok, Option.bind_some, hq, Bool.not_false, cond_true]) (by
    refine Comes.stop ?_
    simp only [step_pindex_Load]
    rw [decide_eq_false (by omega), cond_false])
  exact this
theorem Load_L1 (s : List UInt8) (hs : s.length ≤ 100000000) : ∀ (N : Nat) (u : List UInt8) (P : List (List Row)), u.length ≤ N → (∀ p ∈ P, mayB p = true ∧ p ≠ []) → textP P ++ u = s →
    ∃ Q e, Comes (step_pindex_Load s) (.L1 u 0 P) (⟨Q⟩, e) ∧ ((e ≠ 0 ∧ Q = [] ∧ (e = 5 ∨ e = 6)) ∨ (e = 0 ∧ (∀ p ∈ Q, mayB p = true ∧ p ≠ []) ∧ Q.flatten.Pairwise LT ∧ textP Q = s)) := by
  intro N
  induction N with
  | zero =>
    intro u P hu hP he
    have hu0 := List.eq_nil_of_length_eq_zero (by omega : u.length = 0)
    subst hu0
    rw [List.append_nil] at he
    obtain ⟨r1, r2⟩ := text_rows P fun p hp => (hP p hp).1
    rw [he] at r1 r2
    have hC := ConcatB_ok P (by omega) (by omega)
    have hL := L2_ok s P.flatten P (by omega)
    have hst : Comes (step_pindex_Load s) (.L1 [] 0 P) (bif rises P.flatten then (⟨P⟩, 0) else (⟨[]⟩, 6)) := by
      refine Comes.next ?_ hL
      simp only [step_pindex_Load]
      unfold g_pindex_Index_All
      rw [hC]; rfl
    cases hr : rises P.flatten with
    | true =>
      rw [hr] at hst
      exact ⟨P, 0, hst, .inr ⟨rfl, hP, rises_iff.1 hr, he⟩⟩
    | false =>
      rw [hr] at hst
      exact ⟨[], 6, hst, .inl ⟨by decide, rfl, .inr rfl⟩⟩
  | succ N ih =>
    intro u P hu hP he
    by_cases hu0 : u = []
    · subst hu0
      exact ih [] P (by simp) hP he
    · have hul : u.length ≤ s.length := by rw [← he, List.length_append]; omega
      have hC : CutOK s.length ⟨u, 0⟩ := ⟨hul, .inl rfl⟩
      have hT := CText_ok ⟨u, 0⟩ hC (by omega)
      have hne : (u == ([] : List UInt8)) = false := by rw [beq_eq_false_iff_ne]; exact hu0
      obtain ⟨r1, r2⟩ := text_rows P fun p hp => (hP p hp).1
      have r3 : (textP P).length ≤ s.length := by rw [← he, List.length_append]; omega
      rcases textC_any u with h5 | ⟨t, v, hv, ht⟩
      · refine ⟨[], 5, Comes.stop ?_, .inl ⟨by decide, rfl, .inl rfl⟩⟩
        simp only [step_pindex_Load]
        unfold g_wide_Cut_Rest g_wide_Cut_Err
        rw [Option.bind_some]
        simp only []
        rw [hne, Bool.not_false, cond_true, hT, Option.bind_some, Option.bind_some]
        simp only []
        rw [h5]; rfl
      · rw [ht] at hT
        obtain ⟨l, e, hG, hc⟩ := Get_end t (by
          have := congrArg List.length hv
          rw [List.length_append, tB_len] at this; omega)
        have pre : ∀ c, ((g_page_Get t).bind fun (x_16 : ((List Row) × Int)) => (bif ((!decide ((x_16.2) = (0 : Int))) || (decide (((x_16.1).length : Int) = (0 : Int)))) then some (Sum.inr ((⟨([] : (List (List Row)))⟩ : Index), (6 : Int)) : C_pindex_Load ⊕ (Index × Int)) else gO ((P.length + ([x_16.1] : List (List Row)).length) * 24 ≤ 140737488355328) (some (.inl (.L1 v 0 (P ++ ([x_16.1] : List (List Row)))))))) = c → step_pindex_Load s (.L1 u 0 P) = c := by
          intro c hc
          simp only [step_pindex_Load]
          unfold g_wide_Cut_Rest g_wide_Cut_Err
          rw [Option.bind_some]
          simp only []
          rw [hne, Bool.not_false, cond_true, hT, Option.bind_some, Option.bind_some]
          simp only []
          rw [decide_true, Bool.not_true, cond_false]
          exact hc
        rcases hc with ⟨h0, hl, _⟩ | ⟨h0, hm, hp⟩
        · refine ⟨[], 6, Comes.stop (pre _ ?_), .inl ⟨by decide, rfl, .inr rfl⟩⟩
          rw [hG, Option.bind_some]
          simp only []
          rw [decide_eq_false h0]; rfl
        · subst h0
          by_cases hl0 : l = []
          · refine ⟨[], 6, Comes.stop (pre _ ?_), .inl ⟨by decide, rfl, .inr rfl⟩⟩
            rw [hG, hl0]; rfl
          · have hvl := congrArg List.length hv
            rw [List.length_append, tB_len] at hvl
            have hll := List.length_pos_iff.2 hl0
            obtain ⟨Q, e, h1, h2⟩ := ih v (P ++ [l]) (by omega) (fun p hp => by
              rcases List.mem_append.1 hp with hp | hp
              · exact hP p hp
              · rw [List.mem_singleton.1 hp]; exact ⟨hm, hl0⟩) (by
              rw [← he, hv, ← hp]
              unfold textP
              rw [List.flatMap_append]
              simp)
            refine ⟨Q, e, Comes.next (pre _ ?_) h1, h2⟩
            rw [hG, Option.bind_some]
            simp only []
            rw [decide_true, decide_eq_false (by omega), Bool.not_true, Bool.or_self, cond_false, gO_pos (by simp only [List.length_singleton]; omega)]
theorem Load_any (s : List UInt8) (hs : s.length ≤ 100000000) : ∃ Q e, g_pindex_Load s = some (⟨Q⟩, e) ∧ ((e ≠ 0 ∧ Q = [] ∧ (e = 5 ∨ e = 6)) ∨ (e = 0 ∧ (∀ p ∈ Q, mayB p = true ∧ p ≠ []) ∧ Q.flatten.Pairwise LT ∧ textP Q = s)) := by
  obtain ⟨Q, e, h1, h2⟩ := Load_L1 s hs s.length s [] (Nat.le_refl _) (fun p hp => by cases hp) rfl
  exact ⟨Q, e, theC_eq (Comes.next rfl h1), h2⟩
theorem text_len {P : List (List Row)} (h : ∀ p ∈ P, mayB p = true) : (textP P).length ≤ P.length * 560325 := flat_leN (fun p => tB (putL p)) 560325 P fun p hp => by have := putL_len (h p hp); rw [tB_len]; omega
theorem Load_put {P : List (List Row)} (h : OKP P) (hl : P.length ≤ 100) : g_pindex_Load (textP P) = some (⟨P⟩, 0) := by
  have hmay : ∀ p ∈ P, mayB p = true := fun p hp => h.may hp
  have htl := text_len hmay
  have htl2 := Nat.mul_le_mul_right 560325 hl
  obtain ⟨r1, r2⟩ := text_rows P hmay
  have dr : ∀ i, i < P.length → textP (P.drop i) = tB (putL (idx P (i : Int))) ++ textP (P.drop (i + 1)) := fun i hi => by
    rw [drop_idx P hi]; unfold textP; rw [List.flatMap_cons]
  have sl : ∀ i, (textP (P.drop i)).length ≤ (textP P).length := fun i => by
    have e : textP P = textP (P.take i) ++ textP (P.drop i) := by
      conv => lhs; rw [← List.take_append_drop i P]
      unfold textP; rw [List.flatMap_append]
    rw [e, List.length_append]; omega
  refine theC_eq (Comes.next (c' := .L1 (textP (P.drop 0)) 0 (P.take 0)) ?_ ?_)
  · simp only [step_pindex_Load]
    unfold g_wide_On
    rfl
  · refine Comes.upto (step := step_pindex_Load (textP P)) (fun i => .L1 (textP (P.drop i)) 0 (P.take i)) P.length ?_ ?_
    · intro i hi
      have hp := h.may (idx_mem P hi)
      have hT := CText_ok (N := (textP P).length) ⟨textP (P.drop i), 0⟩ ⟨sl i, .inl rfl⟩ (by omega)
      rw [dr i hi, textC_app _ _ (by have := putL_len hp; omega)] at hT
      have hne : ((tB (putL (idx P (i : Int))) ++ textP (P.drop (i + 1))) == ([] : List UInt8)) = false := by
        rw [beq_eq_false_iff_ne]
        intro e
        have := congrArg List.length e
        rw [List.length_append, tB_len, List.length_nil] at this; omega
      have hpn := List.length_pos_iff.2 (h.ne _ (idx_mem P hi))
      rw [dr i hi]
      simp only [step_pindex_Load]
      unfold g_wide_Cut_Rest g_wide_Cut_Err
      rw [Option.bind_some]
      simp only []
      rw [hne, Bool.not_false, cond_true, hT, Option.bind_some, Option.bind_some]
      simp only []
      rw [decide_true, Bool.not_true, cond_false, Get_put hp, Option.bind_some]
      simp only []
      rw [decide_true, decide_eq_false (by omega), Bool.not_true, Bool.or_self, cond_false, gO_pos (by simp only [List.length_singleton, List.length_take]; omega), take_idx P hi]
    · have hL := L2_ok (textP P) P.flatten P (by omega)
      rw [rises_iff.2 h.st] at hL
      refine Comes.next ?_ hL
      have hd : textP (P.drop P.length) = [] := by rw [List.drop_length]; rfl
      simp only [step_pindex_Load]
      unfold g_pindex_Index_All
      rw [hd, List.take_length, ConcatB_ok P (by omega) (by omega)]
      rfl
end Go.Proofs.Ythpgedneniekmaa.K
