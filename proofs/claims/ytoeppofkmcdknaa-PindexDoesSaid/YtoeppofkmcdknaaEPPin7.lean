import Derived.Test.YtoeppofkmcdknaaEPPin6
/- PindexDoes holds. -/
namespace Go.Proofs.Ytoeppofkmcdknaa.K
open Go
set_option linter.unusedVariables false
set_option linter.unusedSimpArgs false
theorem idx_map_len (P : List (List Row)) {k : Nat} (hk : k < P.length) : idx (P.map fun p => (p.length : Int)) (k : Int) = ((idx P (k : Int)).length : Int) := by
  rw [idx_get _ (by rw [List.length_map]; exact hk), idx_get P hk]; simp
theorem Does_L3 (l : List Act) (ask : Row) {P : List (List Row)} (h : OKP P) (hl : P.length ≤ 1000) (i : Nat) (hi : i < 100) (hn : Comes (step_law48_PindexDoes l ask) (.L1 P ((i + 1 : Nat) : Int) P) true) : Comes (step_law48_PindexDoes l ask) (.L3 P (i : Int) (P.map fun p => (p.length : Int)) 0 P) true := by
  refine Comes.uptoC (step := step_law48_PindexDoes l ask) (fun k => .L3 P (i : Int) (P.map fun p => (p.length : Int)) (k : Int) P) P.length ?_ ?_
  · intro k hk hnx
    have hm := idx_mem P hk
    have h8 := h.le _ hm
    have h1 := List.length_pos_iff.2 (h.ne _ hm)
    have hml : (P.map fun p => (p.length : Int)).length = P.length := by rw [List.length_map]
    refine Comes.next ?_ hnx
    simp only [step_law48_PindexDoes]
    rw [idx_map_len P hk, hml, decide_eq_true (by omega), cond_true, gO_pos (by omega), gO_pos (by omega), gO_pos (fun _ => by omega), gO_pos (fun _ => by omega), decide_eq_true rfl, decide_eq_false (by omega), decide_eq_false (by omega), Bool.not_true, Bool.or_self, Bool.or_self, cond_false, gO_pos (by unfold inI; omega)]
    rfl
  · have hml : (P.map fun p => (p.length : Int)).length = P.length := by rw [List.length_map]
    refine Comes.next ?_ hn
    simp only [step_law48_PindexDoes]
    rw [hml, decide_eq_false (by omega), cond_false, gO_pos (by unfold inI; omega)]
    rfl
theorem Does_J2 (l : List Act) (ask : Row) {P : List (List Row)} (h : OKP P) (hl : P.flatten.length ≤ 100) (i : Nat) (hi : i < 100) (hn : Comes (step_law48_PindexDoes l ask) (.L1 P ((i + 1 : Nat) : Int) P) true) : Comes (step_law48_PindexDoes l ask) (.J2 P (i : Int) P) true := by
  have hpl := pages_le h.ne
  have hml : (P.map fun p => (p.length : Int)).length = P.length := by rw [List.length_map]
  refine Comes.next ?_ (Does_L3 l ask h (by omega) i hi hn)
  simp only [step_law48_PindexDoes]
  rw [Pages_ok P (by omega), Option.bind_some, All48_ok P (by omega) (by omega), Option.bind_some, RAll48_ok P (by omega) (by omega), Option.bind_some, RSame_ok _ _ (by omega) (by omega), beq_self_eq_true, Option.bind_some, Bool.not_true, show (false == false) = true from rfl, cond_true, Option.bind_some, cond_true, Rises_ok _ (by omega), rises_iff.2 h.st, Option.bind_some, hml, decide_eq_true rfl, Bool.not_true, Bool.or_self, Bool.or_self, cond_false]
theorem find48 {P : List (List Row)} (h : OKP P) (hl : P.flatten.length ≤ 100000) (r : Row) : g_ref47_Find P.flatten r.fSum r.fEpoch = some (if there P.flatten r = true then (pos P.flatten r : Int) else -1) := RFind_ok (rises_iff.2 h.st) (by omega) r
theorem dec_find (c : Bool) (n : Nat) : decide ((0 : Int) ≤ (if c = true then (n : Int) else -1)) = c := by
  cases c with
  | true => rw [if_pos rfl]; exact decide_eq_true (by omega)
  | false => rw [if_neg (by decide)]; rfl
theorem beqRow_refl (a : Row) : beqRow a a = true := by rw [beqRow_eq]; exact beq_self_eq_true a
theorem Does_end (l : List Act) (ask : Row) {P : List (List Row)} (h : OKP P) (hl : P.flatten.length ≤ 100) (i : Nat) (hi : (decide ((i : Int) < (l.length : Int)) && decide ((i : Int) < 60)) = false) : Comes (step_law48_PindexDoes l ask) (.L1 P (i : Int) P) true := by
  have hpl := pages_le h.ne
  obtain ⟨x, hG, hx1, hx2⟩ := Get48_ok h ask (by omega)
  have hA := RAll48_ok P (by omega) (by omega)
  have hF := find48 h (by omega) ask
  refine Comes.stop ?_
  simp only [step_law48_PindexDoes]
  rw [hi, cond_false, hG, Option.bind_some, hA, Option.bind_some, hF, Option.bind_some, awake48_ok, Option.bind_some]
  simp only []
  rw [dec_find]
  cases ht : there P.flatten ask with
  | true =>
    obtain ⟨m1, m2, m3⟩ := hx1 ht
    obtain ⟨q1, q2, q3⟩ := there_iff.1 ht
    have e : x = idx P.flatten (pos P.flatten ask : Int) := same_key h.st m1 (idx_mem _ q1) (by rw [m2, q2]) (by rw [m3, q3])
    simp only [beq_self_eq_true, Bool.and_self, Bool.not_true, cond_true, if_true, Option.bind_some]
    rw [gO_pos (fun _ => by omega), ← e, beqRow_refl]
    rfl
  | false =>
    have e := hx2 ht
    simp only [beq_self_eq_true, Bool.and_self, Bool.not_false, Bool.true_and, Bool.false_eq_true, if_false]
    rw [show (true == false) = false from rfl, cond_false, Option.bind_some, gO_pos (fun h => by cases h), e, show beqRow zRow ⟨Arr.rep 32 0, 0, []⟩ = true from beqRow_refl zRow]
    rfl
theorem Does_L1 (l : List Act) (ask : Row) : ∀ (m i : Nat) (P : List (List Row)), m + i = min l.length 60 → OKP P → P.flatten.length ≤ i → Comes (step_law48_PindexDoes l ask) (.L1 P (i : Int) P) true
  | 0, i, P, hi, h, hl => by
    refine Does_end l ask h (by omega) i ?_
    rw [Bool.and_eq_false_iff, decide_eq_false_iff_not, decide_eq_false_iff_not]; omega
  | m + 1, i, P, hi, h, hl => by
    have hpl := pages_le h.ne
    have hc : (decide ((i : Int) < (l.length : Int)) && decide ((i : Int) < 60)) = true := by
      rw [Bool.and_eq_true, decide_eq_true_eq, decide_eq_true_eq]; omega
    have hil : i < l.length := by omega
    by_cases hb : 300 < (idx l (i : Int)).fRow.fBody.length
    · refine Comes.stop ?_
      simp only [step_law48_PindexDoes]
      rw [hc, cond_true, gO_pos (by omega), decide_eq_true (by omega), cond_true, awake48_ok]; rfl
    · have hA := RAll48_ok P (by omega) (by omega)
      generalize ha : idx l (i : Int) = a at *
      have hF := find48 h (by omega) a.fRow
      have nx : ∀ Q, OKP Q → Q.flatten.length ≤ i + 1 → Comes (step_law48_PindexDoes l ask) (.J2 Q (i : Int) Q) true := fun Q hQ hql =>
        Does_J2 l ask hQ (by omega) i (by omega) (Does_L1 l ask m (i + 1) Q (by omega) hQ hql)
      by_cases hk : a.fKind = 3
      · have hD := Drop48_ok h a.fRow (by omega)
        cases ht : there P.flatten a.fRow with
        | true =>
          have hP : P ≠ [] := fun e => by rw [e, List.flatten_nil, there_nil] at ht; cases ht
          obtain ⟨d1, d2⟩ := drop_ok h a.fRow hP
          rw [ht, if_pos rfl] at hD
          refine Comes.next ?_ (nx (dropP P a.fRow) d1 (by omega))
          simp only [step_law48_PindexDoes, ha]
          rw [hc, cond_true, gO_pos (by omega), decide_eq_false (by omega), cond_false, hA, Option.bind_some, hF, Option.bind_some, decide_eq_true hk, cond_true, hD, Option.bind_some, dec_find, ht]
          simp only [beq_self_eq_true, Bool.not_true, cond_false, cond_true]
          rw [RDrop48_ok h a.fRow ht (by omega)]; rfl
        | false =>
          rw [ht, if_neg (by decide)] at hD
          refine Comes.next ?_ (nx P h (by omega))
          simp only [step_law48_PindexDoes, ha]
          rw [hc, cond_true, gO_pos (by omega), decide_eq_false (by omega), cond_false, hA, Option.bind_some, hF, Option.bind_some, decide_eq_true hk, cond_true, hD, Option.bind_some, dec_find, ht]
          rfl
      · have hPt := Put48_ok h a.fRow (by omega)
        have hM := May_ok [a.fRow] (by simp)
        rw [may1] at hM
        cases ht : there P.flatten a.fRow with
        | true =>
          rw [ht, Bool.not_true, Bool.and_false, if_neg (by decide)] at hPt
          refine Comes.next ?_ (nx P h (by omega))
          simp only [step_law48_PindexDoes, ha]
          rw [hc, cond_true, gO_pos (by omega), decide_eq_false (by omega), cond_false, hA, Option.bind_some, hF, Option.bind_some, decide_eq_false hk, cond_false, hPt, Option.bind_some, dec_find, ht]
          rfl
        | false =>
          cases hr : okRow a.fRow with
          | false =>
            rw [hr, Bool.false_and, if_neg (by decide)] at hPt
            refine Comes.next ?_ (nx P h (by omega))
            simp only [step_law48_PindexDoes, ha]
            rw [hc, cond_true, gO_pos (by omega), decide_eq_false (by omega), cond_false, hA, Option.bind_some, hF, Option.bind_some, decide_eq_false hk, cond_false, hPt, Option.bind_some, dec_find, ht, hM, hr]
            rfl
          | true =>
            rw [hr, ht, if_pos (by decide)] at hPt
            have hpl2 := put_len h a.fRow
            refine Comes.next ?_ (nx (putP P a.fRow) (put_ok h hr) (by omega))
            simp only [step_law48_PindexDoes, ha]
            rw [hc, cond_true, gO_pos (by omega), decide_eq_false (by omega), cond_false, hA, Option.bind_some, hF, Option.bind_some, decide_eq_false hk, cond_false, hPt, Option.bind_some, dec_find, ht, hM, hr]
            simp only [Bool.not_false, beq_self_eq_true, cond_true, Option.bind_some, Bool.and_self, Bool.not_true, cond_false]
            rw [RPut48_ok h a.fRow (by omega)]; rfl
theorem PindexDoes_true (l : List Act) (ask : Row) : g_law48_PindexDoes l ask = some true :=
  theC_eq (Comes.next rfl (Does_L1 l ask (min l.length 60) 0 [] rfl okp_nil (Nat.le_refl _)))
end Go.Proofs.Ytoeppofkmcdknaa.K
