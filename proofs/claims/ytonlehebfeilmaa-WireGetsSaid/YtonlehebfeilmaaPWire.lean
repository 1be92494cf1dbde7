/- Package wire: what it reckons, in plain words. -/
import Derived.Test.YtonlehebfeilmaaPRlp3
import Derived.Test.YtonlehebfeilmaaWR15
namespace Go.Proofs.Ytonlehebfeilmaa.K
open Go Go.RowKit
set_option linter.unusedSimpArgs false
set_option linter.unusedVariables false

/-! ### May a link, may a witness be? -/
def badT (s : List UInt8) : Bool := (s == ([] : List UInt8)) || decide ((66000 : Int) < (s.length : Int))
def lnkB (l : Link) : Bool := ((decide (0 ≤ l.fEpoch) && decide (l.fEpoch ≤ 1048576)) && decide ((l.fProof.length : Int) ≤ 70)) && !(l.fProof.any badT)

theorem IndexFunc_L1 (v : List (List UInt8)) (f : List UInt8 → Option Bool) (p : List UInt8 → Bool) (hf : ∀ s, f s = some (p s)) (hv : v.length ≤ 9223372036854775807) (k : Nat) : ∀ i, k + i = v.length →
    ∃ r : Int, Comes (step_slices_IndexFunc_api_Proof_string v f) (.L1 (i : Int)) r ∧ decide (0 ≤ r) = (v.drop i).any p := by
  induction k with
  | zero =>
    intro i hi
    refine ⟨-1, Comes.stop ?_, by rw [List.drop_eq_nil_of_le (by omega)]; rfl⟩
    simp only [step_slices_IndexFunc_api_Proof_string]
    rw [decide_eq_false (by omega)]; rfl
  | succ k ih =>
    intro i hi
    have h1 : i < v.length := by omega
    rw [List.drop_eq_getElem_cons h1, List.any_cons]
    cases hp : p v[i] with
    | true =>
      refine ⟨(i : Int), Comes.stop ?_, by simp⟩
      simp only [step_slices_IndexFunc_api_Proof_string]
      rw [decide_eq_true (by omega), cond_true, gO_pos (by omega), idx_nat h1, hf, hp]; rfl
    | false =>
      obtain ⟨r, h2, h3⟩ := ih (i + 1) (by omega)
      refine ⟨r, Comes.next ?_ h2, by rw [h3]; rfl⟩
      simp only [step_slices_IndexFunc_api_Proof_string]
      rw [decide_eq_true (by omega), cond_true, gO_pos (by omega), idx_nat h1, hf, hp, Option.bind_some, cond_false, gO_pos (by unfold inI; omega)]
      rfl
theorem ContainsFunc_ok (v : List (List UInt8)) (f : List UInt8 → Option Bool) (p : List UInt8 → Bool) (hf : ∀ s, f s = some (p s)) (hv : v.length ≤ 9223372036854775807) : g_slices_ContainsFunc_api_Proof_string v f = some (v.any p) := by
  obtain ⟨r, h1, h2⟩ := IndexFunc_L1 v f p hf hv v.length 0 rfl
  have : g_slices_IndexFunc_api_Proof_string v f = some r := theC_eq (Comes.next rfl h1)
  unfold g_slices_ContainsFunc_api_Proof_string
  rw [this, Option.bind_some, h2, List.drop_zero]
theorem link_ok (l : Link) : g_wire_link l = some (lnkB l) := by
  unfold g_wire_link lnkB
  cases hb : ((decide (0 ≤ l.fEpoch) && decide (l.fEpoch ≤ 1048576)) && decide ((l.fProof.length : Int) ≤ 70)) with
  | false => rfl
  | true =>
    have hl : (l.fProof.length : Int) ≤ 70 := by
      rw [Bool.and_eq_true] at hb; exact of_decide_eq_true hb.2
    rw [show (true == true) = true from rfl, cond_true, ContainsFunc_ok l.fProof (fun y0 => g_wire_link_1 y0) badT (fun _ => rfl) (by omega), Option.bind_some]

def MayP (w : Witness) : Prop := 1 ≤ w.fLinks.length ∧ w.fLinks.length ≤ 64 ∧ ∀ i, i < w.fLinks.length → lnkB (idx w.fLinks (i : Int)) = true ∧ (idx w.fLinks (i : Int)).fEpoch = (idx w.fLinks 0).fEpoch + (i : Int)
open Classical in
noncomputable def mb (w : Witness) : Bool := decide (MayP w)
theorem mb_true {w : Witness} (h : MayP w) : mb w = true := by simp [mb, h]
theorem mb_false {w : Witness} (h : ¬ MayP w) : mb w = false := by simp [mb, h]
theorem lnk_range {l : Link} (h : lnkB l = true) : 0 ≤ l.fEpoch ∧ l.fEpoch ≤ 1048576 ∧ l.fProof.length ≤ 70 := by
  unfold lnkB at h
  simp only [Bool.and_eq_true, decide_eq_true_eq] at h
  omega

theorem Check_L1 (w : Witness) (h64 : w.fLinks.length ≤ 64) (h0 : 1 ≤ w.fLinks.length) (k : Nat) : ∀ i, k + i = w.fLinks.length →
    (∀ j, j < i → lnkB (idx w.fLinks (j : Int)) = true ∧ (idx w.fLinks (j : Int)).fEpoch = (idx w.fLinks 0).fEpoch + (j : Int)) →
    Comes (step_wire_Check w) (.L1 (i : Int)) (if mb w = true then 0 else 2) := by
  induction k with
  | zero =>
    intro i hi hj
    have : mb w = true := mb_true ⟨h0, h64, fun j hj' => hj j (by omega)⟩
    rw [if_pos this]
    refine Comes.stop ?_
    simp only [step_wire_Check]
    rw [decide_eq_false (by omega), cond_false]
  | succ k ih =>
    intro i hi hj
    have h1 : i < w.fLinks.length := by omega
    by_cases hg : lnkB (idx w.fLinks (i : Int)) = true ∧ (idx w.fLinks (i : Int)).fEpoch = (idx w.fLinks 0).fEpoch + (i : Int)
    · obtain ⟨g1, g2⟩ := hg
      have hr := lnk_range g1
      refine Comes.next (c' := .L1 ((i + 1 : Nat) : Int)) ?_ (ih (i + 1) (by omega) (fun j hj' => by
        rcases Nat.lt_or_ge j i with h | h
        · exact hj j h
        · have : j = i := by omega
          subst this; exact ⟨g1, g2⟩))
      simp only [step_wire_Check]
      rw [decide_eq_true (by omega), cond_true, gO_pos (by omega), link_ok, Option.bind_some, g1, gO_pos (fun _ => by unfold inI; omega), gO_pos (fun _ => by unfold inI; omega), gO_pos (fun h => by simp at h; omega)]
      have e : ((!true) || (decide ((0 : Int) < (i : Int)) && !decide ((idx w.fLinks (i : Int)).fEpoch - 1 = (idx w.fLinks ((i : Int) - 1)).fEpoch))) = false := by
        by_cases hi0 : i = 0
        · subst hi0; rfl
        · have h2 := (hj (i - 1) (by omega)).2
          rw [show (((i - 1 : Nat)) : Int) = (i : Int) - 1 by omega] at h2
          have : (idx w.fLinks (i : Int)).fEpoch - 1 = (idx w.fLinks ((i : Int) - 1)).fEpoch := by rw [h2, g2]; omega
          rw [decide_eq_true this]; simp
      rw [e, cond_false, gO_pos (by unfold inI; omega)]
      rfl
    · have hm : mb w = false := mb_false fun hM => hg (hM.2.2 i h1)
      rw [hm, if_neg (by simp)]
      refine Comes.stop ?_
      simp only [step_wire_Check]
      rw [decide_eq_true (by omega), cond_true, gO_pos (by omega), link_ok, Option.bind_some]
      cases g1 : lnkB (idx w.fLinks (i : Int)) with
      | false =>
        rw [gO_pos (fun h => by simp at h), gO_pos (fun h => by simp at h), gO_pos (fun h => by simp at h)]
        rfl
      | true =>
        have hr := lnk_range g1
        have hi0 : i ≠ 0 := by
          intro h; subst h
          exact hg ⟨g1, by simp⟩
        have h2 := (hj (i - 1) (by omega)).2
        rw [show (((i - 1 : Nat)) : Int) = (i : Int) - 1 by omega] at h2
        have hne : ¬ ((idx w.fLinks (i : Int)).fEpoch - 1 = (idx w.fLinks ((i : Int) - 1)).fEpoch) := by
          intro h
          rw [h2] at h
          exact hg ⟨g1, by omega⟩
        rw [gO_pos (fun _ => by unfold inI; omega), gO_pos (fun _ => by unfold inI; omega), gO_pos (fun h => by omega), decide_eq_false hne, decide_eq_true (by omega)]
        rfl
theorem Check_ok (w : Witness) : g_wire_Check w = some (if mb w = true then 0 else 2) := by
  refine theC_eq ?_
  by_cases h : 1 ≤ w.fLinks.length ∧ w.fLinks.length ≤ 64
  · refine Comes.next (c' := .L1 ((0 : Nat) : Int)) ?_ (Check_L1 w h.2 h.1 _ 0 rfl (fun j hj => by omega))
    simp only [step_wire_Check]
    rw [decide_eq_false (by omega), decide_eq_false (by omega)]
    rfl
  · have hm : mb w = false := mb_false fun hM => h ⟨hM.1, hM.2.1⟩
    rw [hm, if_neg (by simp)]
    refine Comes.stop ?_
    simp only [step_wire_Check]
    by_cases h0 : 1 ≤ w.fLinks.length
    · have h2 : (64 : Int) < (w.fLinks.length : Int) := by omega
      rw [decide_eq_true h2, Bool.or_true]; rfl
    · have h2 : (w.fLinks.length : Int) < 1 := by omega
      rw [decide_eq_true h2, Bool.true_or]; rfl

theorem May_L2 (w : Witness) (i : Int) (e : Int) (v : List (List UInt8)) (hv : v.length ≤ 9223372036854775807) (hi : inI (i + 1)) (r : Bool) (hn : Comes (step_ref15_May w) (.L1 (i + 1)) r) (k : Nat) : ∀ j, k + j = v.length →
    Comes (step_ref15_May w) (.L2 i (j : Int) e v) (if (v.drop j).any badT = true then false else r) := by
  induction k with
  | zero =>
    intro j hj
    rw [List.drop_eq_nil_of_le (by omega)]
    refine Comes.next (c' := .L1 (i + 1)) ?_ hn
    simp only [step_ref15_May]
    rw [decide_eq_false (by omega), cond_false, gO_pos hi]
  | succ k ih =>
    intro j hj
    have h1 : j < v.length := by omega
    rw [List.drop_eq_getElem_cons h1, List.any_cons]
    cases hp : badT v[j] with
    | true =>
      refine Comes.stop ?_
      simp only [step_ref15_May]
      unfold badT at hp
      rw [decide_eq_true (by omega), cond_true, gO_pos (by omega), gO_pos (fun _ => by omega), idx_nat h1, hp]
      rfl
    | false =>
      rw [Bool.false_or]
      refine Comes.next (c' := .L2 i ((j + 1 : Nat) : Int) e v) ?_ (ih (j + 1) (by omega))
      simp only [step_ref15_May]
      unfold badT at hp
      rw [decide_eq_true (by omega), cond_true, gO_pos (by omega), gO_pos (fun _ => by omega), idx_nat h1, hp, cond_false, gO_pos (by unfold inI; omega)]
      rfl
theorem May_L1 (w : Witness) (h64 : w.fLinks.length ≤ 64) (h0 : 1 ≤ w.fLinks.length) (k : Nat) : ∀ i, k + i = w.fLinks.length →
    (∀ j, j < i → lnkB (idx w.fLinks (j : Int)) = true ∧ (idx w.fLinks (j : Int)).fEpoch = (idx w.fLinks 0).fEpoch + (j : Int)) →
    Comes (step_ref15_May w) (.L1 (i : Int)) (mb w) := by
  induction k with
  | zero =>
    intro i hi hj
    rw [mb_true ⟨h0, h64, fun j hj' => hj j (by omega)⟩]
    refine Comes.stop ?_
    simp only [step_ref15_May]
    rw [decide_eq_false (by omega), cond_false]
  | succ k ih =>
    intro i hi hj
    have h1 : i < w.fLinks.length := by omega
    by_cases hq : (0 ≤ (idx w.fLinks (i : Int)).fEpoch ∧ (idx w.fLinks (i : Int)).fEpoch ≤ 1048576) ∧ (idx w.fLinks (i : Int)).fProof.length ≤ 70
    · have he0 : inI ((idx w.fLinks 0).fEpoch + (i : Int)) := by
        by_cases hi0 : i = 0
        · subst hi0; rw [Int.natCast_zero] at hq ⊢; unfold inI; omega
        · have := lnk_range (hj 0 (by omega)).1
          simp only [Int.natCast_zero] at this
          unfold inI; omega
      by_cases hc : (idx w.fLinks (i : Int)).fEpoch = (idx w.fLinks 0).fEpoch + (i : Int)
      · have hkey : ∃ r, Comes (step_ref15_May w) (.L2 (i : Int) ((0 : Nat) : Int) (idx w.fLinks (i : Int)).fEpoch (idx w.fLinks (i : Int)).fProof) r ∧ r = mb w := by
          cases hb : (idx w.fLinks (i : Int)).fProof.any badT with
          | false =>
            have hl : lnkB (idx w.fLinks (i : Int)) = true := by
              unfold lnkB
              rw [decide_eq_true hq.1.1, decide_eq_true hq.1.2, decide_eq_true (by omega), hb]; rfl
            have hn := ih (i + 1) (by omega) (fun j hj' => by
              rcases Nat.lt_or_ge j i with h | h
              · exact hj j h
              · have : j = i := by omega
                subst this; exact ⟨hl, hc⟩)
            have := May_L2 w (i : Int) (idx w.fLinks (i : Int)).fEpoch (idx w.fLinks (i : Int)).fProof (by omega) (by unfold inI; omega) (mb w) hn _ 0 rfl
            rw [List.drop_zero, hb] at this
            exact ⟨_, this, rfl⟩
          | true =>
            have hm : mb w = false := mb_false fun hM => by
              have := (hM.2.2 i h1).1
              unfold lnkB at this
              rw [hb] at this; simp at this
            -- the loop over the texts ends
            have stop : ∀ k j, k + j = (idx w.fLinks (i : Int)).fProof.length → ((idx w.fLinks (i : Int)).fProof.drop j).any badT = true → Comes (step_ref15_May w) (.L2 (i : Int) (j : Int) (idx w.fLinks (i : Int)).fEpoch (idx w.fLinks (i : Int)).fProof) false := by
              intro k
              induction k with
              | zero => intro j hj' hb'; rw [List.drop_eq_nil_of_le (by omega)] at hb'; cases hb'
              | succ k ih2 =>
                intro j hj' hb'
                have h1' : j < (idx w.fLinks (i : Int)).fProof.length := by omega
                rw [List.drop_eq_getElem_cons h1', List.any_cons] at hb'
                cases hp : badT (idx w.fLinks (i : Int)).fProof[j] with
                | true =>
                  refine Comes.stop ?_
                  simp only [step_ref15_May]
                  unfold badT at hp
                  rw [decide_eq_true (by omega), cond_true, gO_pos (by omega), gO_pos (fun _ => by omega), idx_nat h1', hp]
                  rfl
                | false =>
                  rw [hp, Bool.false_or] at hb'
                  refine Comes.next (c' := .L2 (i : Int) ((j + 1 : Nat) : Int) _ _) ?_ (ih2 (j + 1) (by omega) hb')
                  simp only [step_ref15_May]
                  unfold badT at hp
                  rw [decide_eq_true (by omega), cond_true, gO_pos (by omega), gO_pos (fun _ => by omega), idx_nat h1', hp, cond_false, gO_pos (by unfold inI; omega)]
                  rfl
            exact ⟨false, stop _ 0 rfl (by rw [List.drop_zero]; exact hb), hm.symm⟩
        obtain ⟨r, hr, rfl⟩ := hkey
        refine Comes.next ?_ hr
        simp only [step_ref15_May]
        rw [decide_eq_true (by omega), cond_true, gO_pos (by omega), gO_pos (fun _ => by omega), gO_pos (fun _ => he0), decide_eq_false (by omega), decide_eq_false (by omega), decide_eq_false (by omega), decide_eq_true hc]
        rfl
      · rw [mb_false fun hM => hc (hM.2.2 i h1).2]
        refine Comes.stop ?_
        simp only [step_ref15_May]
        rw [decide_eq_true (by omega), cond_true, gO_pos (by omega), gO_pos (fun _ => by omega), gO_pos (fun _ => he0), decide_eq_false hc, Bool.not_false, Bool.or_true, cond_true]
    · rw [mb_false fun hM => hq (by have := lnk_range (hM.2.2 i h1).1; omega)]
      refine Comes.stop ?_
      have hb : ((decide ((idx w.fLinks (i : Int)).fEpoch < 0) || decide (1048576 < (idx w.fLinks (i : Int)).fEpoch)) || decide (70 < ((idx w.fLinks (i : Int)).fProof.length : Int))) = true := by
        simp only [Bool.or_eq_true, decide_eq_true_eq]; omega
      simp only [step_ref15_May]
      rw [decide_eq_true (by omega), cond_true, gO_pos (by omega), hb, gO_pos (fun h => nomatch h), gO_pos (fun h => nomatch h), Bool.true_or, cond_true]
theorem May_ok (w : Witness) : g_ref15_May w = some (mb w) := by
  refine theC_eq ?_
  by_cases h : 1 ≤ w.fLinks.length ∧ w.fLinks.length ≤ 64
  · refine Comes.next (c' := .L1 ((0 : Nat) : Int)) ?_ (May_L1 w h.2 h.1 _ 0 rfl (fun j hj => by omega))
    simp only [step_ref15_May]
    rw [decide_eq_false (by omega), decide_eq_false (by omega)]
    rfl
  · rw [mb_false fun hM => h ⟨hM.1, hM.2.1⟩]
    refine Comes.stop ?_
    simp only [step_ref15_May]
    by_cases h0 : 1 ≤ w.fLinks.length
    · have h2 : (64 : Int) < (w.fLinks.length : Int) := by omega
      rw [decide_eq_true h2, Bool.or_true]; rfl
    · have h2 : (w.fLinks.length : Int) < 1 := by omega
      rw [decide_eq_true h2, Bool.true_or]; rfl
end Go.Proofs.Ytonlehebfeilmaa.K
