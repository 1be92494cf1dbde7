import Derived.Test.YtoeppofkmcdknaaGPPin7
/- PindexTexts holds where the text behind is of no more than 1048576 bytes. -/
namespace Go.Proofs.Ytoeppofkmcdknaa.K
open Go
set_option linter.unusedVariables false
set_option linter.unusedSimpArgs false
theorem filt_succ (p : Row → Bool) (l : List Row) {i : Nat} (hi : i < l.length) : (l.take (i + 1)).filter p = (l.take i).filter p ++ (if p (idx l (i : Int)) = true then [idx l (i : Int)] else []) := by rw [take_idx l hi, filt_snoc]
theorem Texts_L3 (l : List Act) (s : Arr 32 UInt8) (more : List UInt8) (hm : more.length ≤ 1048576) {P : List (List Row)} (h : OKP P) (hl : P.flatten.length ≤ 40) : Comes (step_law48_PindexTexts l s more) (.L3 P (textP P) 0 0 [] P.flatten 0 P P) true := by
  have hpl := pages_le h.ne
  have hmay : ∀ p ∈ P, mayB p = true := fun p hp => h.may hp
  have htl := text_len hmay
  have htl2 := Nat.mul_le_mul_right 560325 (show P.length ≤ 40 by omega)
  refine Comes.upto (step := step_law48_PindexTexts l s more) (fun i => .L3 P (textP P) 0 0 ((P.flatten.take i).filter fun r => r.fSum.1 == s.1) P.flatten (i : Int) P P) P.flatten.length ?_ ?_
  · intro i hi
    have h1 := List.length_filter_le (fun r : Row => r.fSum.1 == s.1) (P.flatten.take i)
    have h2 : ((P.flatten.take i).filter fun r => r.fSum.1 == s.1).length ≤ 40 := by rw [List.length_take] at h1; omega
    have e := filt_succ (fun r => r.fSum.1 == s.1) P.flatten hi
    show step_law48_PindexTexts l s more (.L3 P (textP P) 0 0 ((P.flatten.take i).filter fun r => r.fSum.1 == s.1) P.flatten (i : Int) P P) = some (.inl (.L3 P (textP P) 0 0 ((P.flatten.take (i + 1)).filter fun r => r.fSum.1 == s.1) P.flatten ((i + 1 : Nat) : Int) P P))
    rw [e]
    simp only [step_law48_PindexTexts]
    rw [decide_eq_true (by omega), cond_true, gO_pos (by omega)]
    cases hc : ((idx P.flatten (i : Int)).fSum.1 == s.1) with
    | true =>
      rw [cond_true, gO_pos (by omega), gO_pos (by simp only [List.length_singleton]; omega), Option.bind_some, gO_pos (by unfold inI; omega), if_pos rfl]
      rfl
    | false =>
      rw [cond_false, Option.bind_some, gO_pos (by unfold inI; omega), if_neg (by decide), List.append_nil]
      rfl
  · obtain ⟨Q, e, hL, hc⟩ := Load_any (textP P ++ more) (by rw [List.length_append]; omega)
    have hT : g_ref48_Text P = some (textP P) := RText48_ok hmay (by omega)
    have hA := All48_ok P (by omega) (by omega)
    have hPg := Pages_ok P (by omega)
    have hO := Of_ok P s (by omega) (by omega)
    have hml : (P.map fun p => (p.length : Int)).length = P.length := by rw [List.length_map]
    have hfl := List.length_filter_le (fun r : Row => r.fSum.1 == s.1) P.flatten
    have hS2 := RSame_ok (P.flatten.filter fun r => r.fSum.1 == s.1) (P.flatten.filter fun r => r.fSum.1 == s.1) (by omega) (by omega)
    rw [beq_self_eq_true] at hS2
    have hS1 := RSame_ok P.flatten P.flatten (by omega) (by omega)
    rw [beq_self_eq_true] at hS1
    refine Comes.stop ?_
    show step_law48_PindexTexts l s more (.L3 P (textP P) 0 0 ((P.flatten.take P.flatten.length).filter fun r => r.fSum.1 == s.1) P.flatten (P.flatten.length : Int) P P) = _
    rw [List.take_length]
    simp only [step_law48_PindexTexts]
    rw [decide_eq_false (by omega), cond_false, gO_pos (by omega), hL, Option.bind_some]
    simp only []
    rcases hc with ⟨h0, rfl, _⟩ | ⟨rfl, hQ, hs, ht⟩
    · have hTz := Text48_ok (P := []) (fun p hp => nomatch hp) (by simp)
      rw [hTz, Option.bind_some, awake48_ok, Option.bind_some]
      simp only []
      simp only [decide_true, Bool.and_self, beq_self_eq_true, cond_true]
      rw [hT, Option.bind_some]
      simp only [beq_self_eq_true, Bool.and_self, cond_true]
      rw [hA, Option.bind_some, hS1, Option.bind_some]
      simp only [beq_self_eq_true, Bool.and_self, cond_true]
      rw [hPg, Option.bind_some, hml, decide_eq_true rfl]
      simp only [beq_self_eq_true, Bool.and_self, cond_true]
      rw [hO, Option.bind_some, hS2, Option.bind_some, decide_eq_false h0]
      simp only [beq_self_eq_true, Bool.and_self, cond_true, Bool.not_false]
      rw [All48_ok [] (by simp) (by simp), Option.bind_some, gO_pos (fun _ => by omega)]
      rfl
    · obtain ⟨r1, r2⟩ := text_rows Q fun p hp => (hQ p hp).1
      rw [ht, List.length_append] at r1 r2
      have hTz := Text48_ok (P := Q) (fun p hp => (hQ p hp).1) (by omega)
      rw [hTz, Option.bind_some, awake48_ok, Option.bind_some]
      simp only []
      simp only [decide_true, Bool.and_self, beq_self_eq_true, cond_true]
      rw [hT, Option.bind_some]
      simp only [beq_self_eq_true, Bool.and_self, cond_true]
      rw [hA, Option.bind_some, hS1, Option.bind_some]
      simp only [beq_self_eq_true, Bool.and_self, cond_true]
      rw [hPg, Option.bind_some, hml, decide_eq_true rfl]
      simp only [beq_self_eq_true, Bool.and_self, cond_true]
      rw [hO, Option.bind_some, hS2, Option.bind_some]
      simp only [beq_self_eq_true, Bool.and_self, Bool.not_true, Bool.and_false, Bool.false_and, Bool.false_or, Bool.true_and, Bool.and_true]
      rw [show (false == true) = false from rfl, cond_false, Option.bind_some, gO_pos (fun _ => by omega), ht, beq_self_eq_true]
theorem Texts_L1 (l : List Act) (s : Arr 32 UInt8) (more : List UInt8) (hm : more.length ≤ 1048576) : ∀ (m i : Nat) (P : List (List Row)), m + i = min l.length 40 → OKP P → P.flatten.length ≤ i → Comes (step_law48_PindexTexts l s more) (.L1 P (i : Int) P) true
  | 0, i, P, hi, h, hl => by
    have hpl := pages_le h.ne
    have hc : (decide ((i : Int) < (l.length : Int)) && decide ((i : Int) < 40)) = false := by
      rw [Bool.and_eq_false_iff, decide_eq_false_iff_not, decide_eq_false_iff_not]; omega
    refine Comes.next ?_ (Texts_L3 l s more hm h (by omega))
    simp only [step_law48_PindexTexts]
    rw [hc, cond_false, Text48_ok (fun p hp => h.may hp) (by omega), Option.bind_some]
    simp only []
    rw [Load_put h (by omega), Option.bind_some, RAll48_ok P (by omega) (by omega), Option.bind_some]
  | m + 1, i, P, hi, h, hl => by
    have hpl := pages_le h.ne
    have hc : (decide ((i : Int) < (l.length : Int)) && decide ((i : Int) < 40)) = true := by
      rw [Bool.and_eq_true, decide_eq_true_eq, decide_eq_true_eq]; omega
    have hil : i < l.length := by omega
    cases hb : (decide ((300 : Int) < ((idx l (i : Int)).fRow.fBody.length : Int)) || decide ((100 : Int) < (more.length : Int))) with
    | true =>
      refine Comes.stop ?_
      simp only [step_law48_PindexTexts]
      rw [hc, cond_true, gO_pos (by omega), hb, cond_true, awake48_ok]; rfl
    | false =>
      generalize ha : idx l (i : Int) = a at *
      have nx : ∀ Q, OKP Q → Q.flatten.length ≤ i + 1 → Comes (step_law48_PindexTexts l s more) (.J2 Q (i : Int) Q) true := fun Q hQ hql => by
        refine Comes.next (c' := .L1 Q ((i + 1 : Nat) : Int) Q) ?_ (Texts_L1 l s more hm m (i + 1) Q (by omega) hQ hql)
        simp only [step_law48_PindexTexts]
        rw [gO_pos (by unfold inI; omega)]
        rfl
      have hPt := Put48_ok h a.fRow (by omega)
      by_cases hk : (okRow a.fRow && !there P.flatten a.fRow) = true
      · rw [if_pos hk] at hPt
        have hr : okRow a.fRow = true := (Bool.and_eq_true_iff.1 hk).1
        have hpl2 := put_len h a.fRow
        refine Comes.next ?_ (nx (putP P a.fRow) (put_ok h hr) (by omega))
        simp only [step_law48_PindexTexts, ha]
        rw [hc, cond_true, gO_pos (by omega), hb, cond_false, gO_pos (by omega), hPt, Option.bind_some]
        simp only []
        rw [cond_true, gO_pos (by omega), RPut48_ok h a.fRow (by omega)]
        rfl
      · rw [if_neg hk] at hPt
        refine Comes.next ?_ (nx P h (by omega))
        simp only [step_law48_PindexTexts, ha]
        rw [hc, cond_true, gO_pos (by omega), hb, cond_false, gO_pos (by omega), hPt, Option.bind_some]
        rfl
theorem PindexTexts_true (l : List Act) (s : Arr 32 UInt8) (more : List UInt8) (hm : more.length ≤ 1048576) : g_law48_PindexTexts l s more = some true :=
  theC_eq (Comes.next rfl (Texts_L1 l s more hm (min l.length 40) 0 [] rfl okp_nil (Nat.le_refl _)))
end Go.Proofs.Ytoeppofkmcdknaa.K
