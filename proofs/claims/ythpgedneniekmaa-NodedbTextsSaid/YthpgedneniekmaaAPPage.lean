import Derived.Test.YthpgedneniekmaaAPWide
import Derived.Test.YthpgedneniekmaaAWR47
/- Package page and the reference of layer 47: checks, sameness, order. -/
namespace Go.Proofs.Ythpgedneniekmaa.K
open Go
set_option linter.unusedVariables false
set_option linter.unusedSimpArgs false
def cmpI (a b : Int) : Int := if a < b then -1 else if b < a then 1 else 0
theorem cmpByte_ok (a b : UInt8) : g_cmp_Compare_byte a b = some (cmpI a.toNat b.toNat) := by
  simp only [g_cmp_Compare_byte, g_cmp_isNaN_byte, decide_true, Bool.not_true, Option.bind_some, cond_false, cmpI]
  by_cases h : (a.toNat : Int) < b.toNat
  · simp [h]
  · by_cases h' : (b.toNat : Int) < a.toNat
    · simp [h, h']
    · simp [h, h']
theorem cmpInt_ok (a b : Int) : g_cmp_Compare_int a b = some (cmpI a b) := by
  simp only [g_cmp_Compare_int, g_cmp_isNaN_int, decide_true, Bool.not_true, Option.bind_some, cond_false, cmpI]
  by_cases h : a < b
  · simp [h]
  · by_cases h' : b < a
    · simp [h, h']
    · simp [h, h']
def cmpB : List UInt8 → List UInt8 → Int
  | [], [] => 0
  | [], _ :: _ => -1
  | _ :: _, [] => 1
  | a :: r, b :: s => if cmpI a.toNat b.toNat = 0 then cmpB r s else cmpI a.toNat b.toNat
theorem cmpI_zero {a b : UInt8} : cmpI a.toNat b.toNat = 0 ↔ a = b := by
  unfold cmpI
  constructor
  · intro h
    repeat' split at h
    · cases h
    · cases h
    · exact UInt8.toNat_inj.1 (by omega)
  · rintro rfl; simp
theorem Compare_ok (a b : List UInt8) (ha : a.length < 9223372036854775807) : g_slices_Compare_byte_byte a b = some (cmpB a b) := by
  refine theC_eq (.next rfl ?_)
  have key : ∀ k i, i + k = a.length → i ≤ b.length → a.take i = b.take i → Comes (step_slices_Compare_byte_byte a b) (.L1 (i : Int)) (cmpB (a.drop i) (b.drop i)) := by
    intro k
    induction k with
    | zero =>
      intro i hi hb ht
      refine .stop ?_
      simp only [step_slices_Compare_byte_byte]
      rw [decide_eq_false (by omega), cond_false, List.drop_eq_nil_of_le (by omega)]
      by_cases h : a.length < b.length
      · rw [decide_eq_true (by omega), cond_true, drop_idx b (by omega)]; rfl
      · rw [decide_eq_false (by omega), cond_false, List.drop_eq_nil_of_le (by omega)]; rfl
    | succ k ih =>
      intro i hi hb ht
      rw [drop_idx a (by omega)]
      by_cases h : b.length ≤ i
      · refine .stop ?_
        simp only [step_slices_Compare_byte_byte]
        rw [decide_eq_true (by omega), cond_true, gO_pos (by omega), decide_eq_true (by omega), cond_true, show b.drop i = [] from List.drop_eq_nil_of_le (by omega)]; rfl
      · rw [drop_idx b (by omega)]
        by_cases e : cmpI (idx a (i : Int)).toNat (idx b (i : Int)).toNat = 0
        · refine .next (c' := .L1 ((i + 1 : Nat) : Int)) ?_ ?_
          · simp only [step_slices_Compare_byte_byte]
            rw [decide_eq_true (by omega), cond_true, gO_pos (by omega), decide_eq_false (by omega), cond_false, gO_pos (by omega), cmpByte_ok, Option.bind_some, decide_eq_true e, Bool.not_true, cond_false, gO_pos (by unfold inI; omega)]
            rfl
          · have := ih (i + 1) (by omega) (by omega) (by rw [take_idx a (by omega), take_idx b (by omega), ht, cmpI_zero.1 e])
            rw [cmpB, if_pos e]; exact this
        · refine .stop ?_
          simp only [step_slices_Compare_byte_byte]
          rw [decide_eq_true (by omega), cond_true, gO_pos (by omega), decide_eq_false (by omega), cond_false, gO_pos (by omega), cmpByte_ok, Option.bind_some, decide_eq_false e, Bool.not_false, cond_true, cmpB, if_neg e]
  have := key a.length 0 (by omega) (by omega) rfl
  simpa using this
theorem Or_ok (a b : Int) : g_cmp_Or_int [a, b] = some (if a = 0 then b else a) := by
  refine theC_eq (.next rfl ?_)
  by_cases h : a = 0
  · refine .next (c' := .L1 1) ?_ ?_
    · simp only [step_cmp_Or_int]
      rw [decide_eq_true (by simp), cond_true, gO_pos (by simp), show idx [a, b] 0 = a from rfl, decide_eq_true h, Bool.not_true, cond_false, gO_pos (by decide)]
      rfl
    · rw [if_pos h]
      by_cases h2 : b = 0
      · refine .next (c' := .L1 2) ?_ (.stop ?_)
        · simp only [step_cmp_Or_int]
          rw [decide_eq_true (by simp), cond_true, gO_pos (by simp), show idx [a, b] 1 = b from rfl, decide_eq_true h2, Bool.not_true, cond_false, gO_pos (by decide)]
          rfl
        · simp only [step_cmp_Or_int]
          rw [decide_eq_false (by simp), cond_false, h2]
      · refine .stop ?_
        simp only [step_cmp_Or_int]
        rw [decide_eq_true (by simp), cond_true, gO_pos (by simp), show idx [a, b] 1 = b from rfl, decide_eq_false h2, Bool.not_false, cond_true]
  · refine .stop ?_
    simp only [step_cmp_Or_int]
    rw [decide_eq_true (by simp), cond_true, gO_pos (by simp), show idx [a, b] 0 = a from rfl, decide_eq_false h, Bool.not_false, cond_true, if_neg h]
def ordR (a b : Row) : Int := if cmpB a.fSum.1 b.fSum.1 = 0 then cmpI a.fEpoch b.fEpoch else cmpB a.fSum.1 b.fSum.1
theorem order_ok (a b : Row) : g_page_order a b = some (ordR a b) := by
  unfold g_page_order ordR
  rw [Compare_ok _ _ (by rw [a.fSum.2]; omega), Option.bind_some, cmpInt_ok, Option.bind_some, Or_ok, Option.bind_some]
def ltR (a b : Row) : Bool := decide (ordR a b < 0)
theorem Less_ok (a b : Row) : g_page_Less a b = some (ltR a b) := by
  unfold g_page_Less
  rw [order_ok, Option.bind_some]; rfl
end Go.Proofs.Ythpgedneniekmaa.K
