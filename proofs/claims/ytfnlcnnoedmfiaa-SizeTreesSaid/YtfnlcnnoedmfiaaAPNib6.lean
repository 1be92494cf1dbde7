import Derived.Test.YtfnlcnnoedmfiaaAPNib
/- Package nib and its reference: what the walks reckon. -/
namespace Go.Proofs.Ytfnlcnnoedmfiaa.K
open Go
set_option linter.unusedVariables false
set_option linter.unusedSimpArgs false
theorem tmod2 (n : Nat) : decide ((n : Int).tmod 2 = 1) = decide (n % 2 = 1) := by
  rw [Bool.eq_iff_iff]; simp only [decide_eq_true_eq]
  rw [Int.tmod_eq_emod_of_nonneg (by omega)]; omega
theorem RPack_L3 (p : List UInt8) (leaf : Bool) (hr : right p = true) (hp : p.length ≤ 64) : ∀ (k i : Nat) (acc : List UInt8), p.length = i + 2 * k → acc.length ≤ i + 1 → Comes (step_ref02_Pack p leaf) (.L3 acc (i : Int)) (acc ++ pairsL (p.drop i)) := by
  intro k
  induction k with
  | zero =>
    intro i acc h h2
    refine Comes.stop ?_
    simp only [step_ref02_Pack]
    rw [decide_eq_false (by omega), cond_false, pairsL_short (by rw [List.length_drop]; omega), List.append_nil]
  | succ k ih =>
    intro i acc h h2
    have := ih (i + 2) (acc ++ [(idx p (i : Int)) * 16 ||| idx p ((i + 1 : Nat) : Int)]) (by omega) (by simp; omega)
    rw [List.append_assoc] at this
    have e : pairsL (p.drop i) = [(idx p (i : Int)) * 16 ||| idx p ((i + 1 : Nat) : Int)] ++ pairsL (p.drop (i + 2)) := by
      rw [drop_idx p (by omega : i < p.length), drop_idx p (by omega : i + 1 < p.length)]; rfl
    rw [e]
    refine Comes.next ?_ this
    have hlt : (idx p ((i + 1 : Nat) : Int)).toNat < 16 := by rw [idx_nat]; exact right_lt hr _
    simp only [step_ref02_Pack]
    rw [decide_eq_true (by omega), cond_true, gO_pos (by omega), gO_pos (by unfold inI; omega), gO_pos (by omega), gO_pos (by simp only [List.length_singleton]; omega), gO_pos (by unfold inI; omega), ← or_add hlt]
    rfl
theorem RPack_ok {p : List UInt8} (h : okP p = true) (leaf : Bool) : g_ref02_Pack p leaf = some (packS p leaf) := by
  obtain ⟨h1, h2⟩ := okP_ok h
  have h0 : (idx p (0 : Int)).toNat < 16 := right_lt h1 0
  have h0' : (p.getD 0 0).toNat < 16 := right_lt h1 0
  have hg : idx p (0 : Int) = p.getD 0 0 := rfl
  refine theC_eq ?_
  by_cases ho : p.length % 2 = 1
  · have hL := fun a => RPack_L3 p leaf h1 h2 (p.length / 2) 1 [a] (by omega) (by simp)
    cases leaf
    · rw [packS_odd_false ho h0']
      refine Comes.next ?_ (hL _)
      simp only [step_ref02_Pack, cond_false, Option.bind_some]
      rw [tmod2, decide_eq_true ho, cond_true, gO_pos (by unfold inI; omega), gO_pos (by omega), gO_pos (by unfold inI; omega), Option.bind_some, show (0 : Int) + 16 + ((idx p (0 : Int)).toNat : Int) = ((16 + (p.getD 0 0).toNat : Nat) : Int) by rw [hg]; omega, u8I_nat]
      rw [show ((16 : Int) + ((p.getD 0 0).toNat : Int)).toNat = 16 + (p.getD 0 0).toNat by omega]
      rfl
    · rw [packS_odd_true ho h0']
      refine Comes.next ?_ (hL _)
      simp only [step_ref02_Pack, cond_true, Option.bind_some]
      rw [tmod2, decide_eq_true ho, cond_true, gO_pos (by unfold inI; omega), gO_pos (by omega), gO_pos (by unfold inI; omega), Option.bind_some, show (32 : Int) + 16 + ((idx p (0 : Int)).toNat : Int) = ((48 + (p.getD 0 0).toNat : Nat) : Int) by rw [hg]; omega, u8I_nat]
      rw [show ((48 : Int) + ((p.getD 0 0).toNat : Int)).toNat = 48 + (p.getD 0 0).toNat by omega]
      rfl
  · have hL := fun a => RPack_L3 p leaf h1 h2 (p.length / 2) 0 [a] (by omega) (by simp)
    cases leaf
    · rw [packS_even_false (by omega)]
      refine Comes.next ?_ (hL _)
      simp only [step_ref02_Pack, cond_false, Option.bind_some]
      rw [tmod2, decide_eq_false ho, cond_false, Option.bind_some]
      rfl
    · rw [packS_even_true (by omega)]
      refine Comes.next ?_ (hL _)
      simp only [step_ref02_Pack, cond_true, Option.bind_some]
      rw [tmod2, decide_eq_false ho, cond_false, Option.bind_some]
      rfl
end Go.Proofs.Ytfnlcnnoedmfiaa.K
