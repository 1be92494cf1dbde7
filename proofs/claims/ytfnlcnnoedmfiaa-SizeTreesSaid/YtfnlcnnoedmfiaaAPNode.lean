import Derived.Test.YtfnlcnnoedmfiaaAPNib6
/- Items and packed paths: what layer 6 needs of them. -/
namespace Go.Proofs.Ytfnlcnnoedmfiaa.K
open Go
set_option linter.unusedVariables false
set_option linter.unusedSimpArgs false
theorem ienc_pos (x : Item) : 1 ≤ (ienc x).length := List.length_pos_iff.2 (ienc_ne x)
theorem iencs_mem : ∀ (l : List Item) (y : Item), y ∈ l → (ienc y).length ≤ (iencs l).length
  | x :: r, y, h => by
    simp only [iencs, List.length_append]
    rcases List.mem_cons.1 h with rfl | h
    · omega
    · have := iencs_mem r y h; omega
theorem iencs_len : ∀ l : List Item, l.length ≤ (iencs l).length
  | [] => Nat.le_refl _
  | x :: r => by have := iencs_len r; have := ienc_pos x; simp only [iencs, List.length_append, List.length_cons]; omega
theorem ienc_L {x : Item} (h : x.fList = true) : ienc x = hd true (iencs x.fL).length ++ iencs x.fL := by rw [ienc_eq, if_neg (by simp [h])]
theorem hd_pos (l : Bool) (k : Nat) : 1 ≤ (hd l k).length := List.length_pos_iff.2 (hd_ne l k)
theorem ienc_kid {x y : Item} (h : x.fList = true) (hy : y ∈ x.fL) : (ienc y).length < (ienc x).length := by
  rw [ienc_L h, List.length_append]
  have := iencs_mem _ _ hy; have := hd_pos true (iencs x.fL).length; omega
theorem fS_len (x : Item) (h : x.fList = false) : x.fS.length ≤ (ienc x).length := by
  rw [ienc_eq, if_pos h]
  split
  · exact Nat.le_refl _
  · simp
theorem RPut_L1 (f : Item → Option (List UInt8)) (x : Item) (hf : ∀ y ∈ x.fL, f y = some (ienc y)) (hl : (iencs x.fL).length ≤ 2 ^ 32) : ∀ (k i : Nat) (acc : List UInt8), k + i = x.fL.length → acc ++ iencs (x.fL.drop i) = iencs x.fL →
    Comes (step_ref05_Put f x) (.L1 acc (i : Int)) (hd true (iencs x.fL).length ++ iencs x.fL) := by
  have hll := iencs_len x.fL
  intro k
  induction k with
  | zero =>
    intro i acc h1 h2
    have e : acc = iencs x.fL := by rw [← h2, List.drop_eq_nil_of_le (by omega)]; simp [iencs]
    subst e
    have := hd_le true (k := (iencs x.fL).length) hl
    refine Comes.stop ?_
    simp only [step_ref05_Put]
    rw [decide_eq_false (by omega), cond_false, RHead_ok _ true (by omega), Option.bind_some, gO_pos (by omega)]
  | succ k ih =>
    intro i acc h1 h2
    have hi : i < x.fL.length := by omega
    rw [drop_idx x.fL hi] at h2
    simp only [iencs] at h2
    have hal : acc.length + (ienc (idx x.fL (i : Int))).length ≤ 2 ^ 32 := by
      have := congrArg List.length h2
      simp only [List.length_append] at this
      omega
    refine Comes.next ?_ (ih (i + 1) (acc ++ ienc (idx x.fL (i : Int))) (by omega) (by rw [List.append_assoc]; exact h2))
    simp only [step_ref05_Put]
    rw [decide_eq_true (by omega), cond_true, gO_pos (by omega), hf _ (idx_mem x.fL hi), Option.bind_some, gO_pos (by omega), gO_pos (by unfold inI; omega)]
    rfl
theorem RPut_rec : ∀ (n m : Nat) (x : Item), RT n x → n ≤ m → (ienc x).length ≤ 2 ^ 32 → rec_ref05_Put m x = some (ienc x)
  | n + 1, m + 1, x, h, hm, hl => by
    show gs_ref05_Put (rec_ref05_Put m) x = _
    refine theC_eq ?_
    cases hx : x.fList with
    | true =>
      have e := ienc_L hx
      have h2 : (iencs x.fL).length ≤ 2 ^ 32 := by rw [e, List.length_append] at hl; omega
      rw [e]
      refine Comes.next (c' := .L1 [] 0) ?_ (RPut_L1 _ x (fun y hy => RPut_rec n m y (h.2.2 y hy) (by omega) (by have := ienc_kid hx hy; omega)) h2 x.fL.length 0 [] (by omega) rfl)
      simp only [step_ref05_Put]
      rw [hx]; rfl
    | false =>
      have hfl := fS_len x hx
      refine Comes.stop ?_
      simp only [step_ref05_Put]
      rw [hx, Bool.not_false, cond_true, gO_pos (fun h => by have := of_decide_eq_true h; omega), ienc_eq, if_pos hx]
      by_cases h1 : x.fS.length = 1 ∧ (x.fS.getD 0 0).toNat < 128
      · have h1' : (idx x.fS (0 : Int)).toNat < 128 := h1.2
        rw [if_pos h1, decide_eq_true (by omega), decide_eq_true (by omega)]
        rfl
      · rw [if_neg h1]
        have e : (decide ((x.fS.length : Int) = 1) && decide (((idx x.fS (0 : Int)).toNat : Int) ≤ 127)) = false := by
          rw [Bool.and_eq_false_iff, decide_eq_false_iff_not, decide_eq_false_iff_not]
          have hg : idx x.fS (0 : Int) = x.fS.getD 0 0 := rfl
          rw [hg]; omega
        have := hd_le false (k := x.fS.length) (by omega)
        rw [e, cond_false, RHead_ok _ false (by omega), Option.bind_some, gO_pos (by omega)]
theorem RPut_ok {n : Nat} {x : Item} (h : RT n x) (hl : (ienc x).length ≤ 2 ^ 32) : g_ref05_Put x = some (ienc x) := theR_eq n fun m hm => RPut_rec n m x h hm hl
end Go.Proofs.Ytfnlcnnoedmfiaa.K
