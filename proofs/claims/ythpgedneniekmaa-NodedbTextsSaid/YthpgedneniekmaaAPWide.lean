import Derived.Test.YthpgedneniekmaaAPBase
import Derived.Test.YthpgedneniekmaaAWR47
/- Numbers and texts laid and read: package wide, and the references of layers 1 and 16. -/
namespace Go.Proofs.Ythpgedneniekmaa.K
open Go
set_option linter.unusedVariables false
set_option linter.unusedSimpArgs false
theorem ofInt_nat {w : Nat} (n : Nat) : (BitVec.ofInt w (n : Int)).toNat = n % 2 ^ w := by
  rw [BitVec.toNat_ofInt]; norm_cast
theorem put_leB (n : Nat) (a : Arr 8 UInt8) (i : Nat) (h : i < 8) (ha : a.1 = leB n i ++ List.replicate (8 - i) 0) (b : UInt8) (hb : b = UInt8.ofNat (n / 256 ^ i % 256)) : (a.put (i : Int) b).1 = leB n (i + 1) ++ List.replicate (8 - (i + 1)) 0 := by
  subst hb
  show a.1.set (i : Int).toNat _ = _
  rw [ha, Int.toNat_natCast, leB_succ, List.set_append_right _ _ (by simp), leB_len, Nat.sub_self, show 8 - i = (8 - (i + 1)) + 1 by omega, List.replicate_succ, List.set_cons_zero]
  simp
theorem Num_ok (n : BitVec 64) (w : Nat) (hw : w ≤ 8) : g_wide_Num n (w : Int) = some (leB n.toNat w) := by
  have hm : minI (maxI (w : Int) 0) 8 = (w : Int) := by unfold minI maxI; repeat' split <;> omega
  refine theC_eq (.next rfl ?_)
  have key : ∀ i, i ≤ w → (∀ a : Arr 8 UInt8, a.1 = leB n.toNat i ++ List.replicate (8 - i) 0 → Comes (step_wide_Num n (w : Int)) (.L1 (BitVec.ofNat 64 (n.toNat / 256 ^ i)) (i : Int) a) (leB n.toNat w)) → Comes (step_wide_Num n (w : Int)) (.L1 n 0 (Arr.rep 8 0)) (leB n.toNat w) := by
    intro i
    induction i with
    | zero =>
      intro _ h
      have := h (Arr.rep 8 0) rfl
      simpa using this
    | succ i ih =>
      intro hi h
      refine ih (by omega) fun a ha => .next ?_ (h (a.put (i : Int) (UInt8.ofNat (n.toNat / 256 ^ i % 256))) (put_leB n.toNat a i (by omega) ha _ rfl))
      simp only [step_wide_Num]
      have h2 : n.toNat / 256 ^ i < 2 ^ 64 := Nat.lt_of_le_of_lt (Nat.div_le_self _ _) n.isLt
      have e2 : wshr (BitVec.ofNat 64 (n.toNat / 256 ^ i)) (8 : Int) = BitVec.ofNat 64 (n.toNat / 256 ^ (i + 1)) := by
        apply BitVec.eq_of_toNat_eq
        show (BitVec.ofNat 64 (n.toNat / 256 ^ i) >>> 8).toNat = _
        rw [BitVec.toNat_ushiftRight, BitVec.toNat_ofNat, BitVec.toNat_ofNat, Nat.mod_eq_of_lt h2, Nat.mod_eq_of_lt (Nat.lt_of_le_of_lt (Nat.div_le_self _ _) n.isLt), Nat.pow_succ, ← Nat.div_div_eq_div_mul, Nat.shiftRight_eq_div_pow]
      rw [hm, decide_eq_true (by omega), cond_true, gO_pos (by omega), gO_pos (by unfold inI; omega), e2, u8I_nat, BitVec.toNat_ofNat, Nat.mod_eq_of_lt h2, ofNat_mod256]
      rfl
  refine key w (Nat.le_refl _) fun a ha => .stop ?_
  simp only [step_wide_Num]
  rw [hm, decide_eq_false (by omega), cond_false, gO_pos (by omega), sub_pre, ha, List.take_left' (by simp)]
theorem Texts_ok (s : List UInt8) (h : s.length ≤ 140737488355000) : g_wide_Texts [s] = some (leB s.length 4 ++ s) := by
  have h1 : g_wide_Texts_1 s [] = some ((), leB s.length 4 ++ s) := by
    unfold g_wide_Texts_1
    rw [show (4 : Int) = ((4 : Nat) : Int) from rfl, Num_ok _ 4 (by omega), Option.bind_some, gO_pos (by simp), gO_pos (by simp; omega), ofInt_nat, Nat.mod_eq_of_lt (by omega)]
    simp
  refine theC_eq (.next rfl (.next (c' := .L1 1 (leB s.length 4 ++ s)) ?_ (.stop ?_)))
  · simp only [step_wide_Texts]
    rw [decide_eq_true (by simp), cond_true, gO_pos (by simp), show idx [s] 0 = s from rfl, h1]
    rfl
  · simp only [step_wide_Texts]
    rw [decide_eq_false (by simp), cond_false]
theorem Val_ok (s : List UInt8) (h : s.length ≤ 9223372036854775807) : g_wide_Val s = some (BitVec.ofNat 64 (leV (s.take 8))) := by
  have hm : minI (s.length : Int) 8 = ((min s.length 8 : Nat) : Int) := by unfold minI; split <;> omega
  refine theC_eq (.next (c' := .L1 0 ((min s.length 8 : Nat) - 1 : Int)) (by simp only [step_wide_Val]; rw [hm, gO_pos (by unfold inI; omega)]) ?_)
  have key : ∀ i, i ≤ min s.length 8 → Comes (step_wide_Val s) (.L1 (BitVec.ofNat 64 (leV ((s.take 8).drop i))) ((i : Int) - 1)) (BitVec.ofNat 64 (leV (s.take 8))) := by
    intro i
    induction i with
    | zero =>
      intro _
      refine .stop ?_
      simp only [step_wide_Val]
      rw [decide_eq_false (by omega), cond_false]; rfl
    | succ i ih =>
      intro hi
      refine .next ?_ (ih (by omega))
      simp only [step_wide_Val]
      have hl : i < (s.take 8).length := by rw [List.length_take]; omega
      rw [show ((i + 1 : Nat) : Int) - 1 = (i : Int) by omega, decide_eq_true (by omega), cond_true, gO_pos (by omega), gO_pos (by unfold inI; omega), drop_idx (s.take 8) hl]
      have e : idx (s.take 8) (i : Int) = idx s (i : Int) := by
        rw [idx_get _ hl, idx_get s (by omega)]; simp
      have hb : leV ((s.take 8).drop (i + 1)) < 2 ^ 56 := by
        have h1 := leV_lt ((s.take 8).drop (i + 1))
        have h2 : ((s.take 8).drop (i + 1)).length ≤ 7 := by rw [List.length_drop, List.length_take]; omega
        exact Nat.lt_of_lt_of_le h1 (by rw [show (2 : Nat) ^ 56 = 256 ^ 7 from rfl]; exact Nat.pow_le_pow_right (by omega) h2)
      have hc := (idx s (i : Int)).toNat_lt
      have e3 : wshl (BitVec.ofNat 64 (leV ((s.take 8).drop (i + 1)))) 8 ||| BitVec.ofInt 64 ((idx s (i : Int)).toNat : Int) = BitVec.ofNat 64 ((idx s (i : Int)).toNat + 256 * leV ((s.take 8).drop (i + 1))) := by
        apply BitVec.eq_of_toNat_eq
        rw [BitVec.toNat_or, ofInt_nat, BitVec.toNat_ofNat]
        show (BitVec.ofNat 64 (leV ((s.take 8).drop (i + 1))) <<< 8).toNat ||| _ = _
        rw [BitVec.toNat_shiftLeft, BitVec.toNat_ofNat, Nat.mod_eq_of_lt (a := leV _) (by omega), Nat.shiftLeft_eq, Nat.mod_eq_of_lt (by omega), Nat.mod_eq_of_lt (b := 2 ^ 64) (by omega), Nat.mod_eq_of_lt (by omega)]
        rw [show leV ((s.take 8).drop (i + 1)) * 2 ^ 8 = leV ((s.take 8).drop (i + 1)) <<< 8 from (Nat.shiftLeft_eq _ _).symm, ← Nat.shiftLeft_add_eq_or_of_lt (show (idx s (i : Int)).toNat < 2 ^ 8 by omega), Nat.shiftLeft_eq]
        omega
      rw [e3, leV, e]
  have := key (min s.length 8) (Nat.le_refl _)
  rw [List.drop_eq_nil_of_le (by rw [List.length_take]; omega)] at this
  simpa [leV] using this
end Go.Proofs.Ythpgedneniekmaa.K
