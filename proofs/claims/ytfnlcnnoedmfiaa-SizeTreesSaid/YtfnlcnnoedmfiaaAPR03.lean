import Derived.Test.YtfnlcnnoedmfiaaAPSum
import Derived.Test.YtfnlcnnoedmfiaaAWLaw20
/- The reference's sum: words of 32 bits kept in 64. -/
namespace Go.Proofs.Ytfnlcnnoedmfiaa.K
open Go
set_option linter.unusedVariables false
set_option linter.unusedSimpArgs false
def up (x : BitVec 32) : BitVec 64 := x.setWidth 64
theorem up_nat (x : BitVec 32) : (up x).toNat = x.toNat := by
  unfold up
  rw [BitVec.toNat_setWidth]
  have := x.isLt
  exact Nat.mod_eq_of_lt (by omega)
theorem turn_step (x : BitVec 32) (n : Nat) (h : n < 31) : (up (rotr x n)) / (2 : BitVec 64) + ((up (rotr x n)) % (2 : BitVec 64)) * (2147483648 : BitVec 64) = up (rotr x (n + 1)) := by
  apply BitVec.eq_of_toNat_eq
  have h1 := rot_one (rotr x n)
  rw [rot_succ x n h] at h1
  have := (rotr x n).isLt
  rw [BitVec.toNat_add, BitVec.toNat_mul, BitVec.toNat_udiv, BitVec.toNat_umod, up_nat, up_nat, ← h1]
  show ((rotr x n).toNat / 2 + (rotr x n).toNat % 2 * 2147483648 % 2 ^ 64) % 2 ^ 64 = _
  omega
theorem turn_ok (x : BitVec 32) (n : Nat) (h : n < 32) : g_ref03_turn (up x) (n : Int) = some (up (rotr x n)) := by
  refine theC_eq (Comes.next (c' := .L1 (up (rotr x 0)) 0) ?_ ?_)
  · rw [rotr_zero]; rfl
  · refine Comes.upto (step := step_ref03_turn (up x) (n : Int)) (fun i => .L1 (up (rotr x i)) (i : Int)) n ?_ ?_
    · intro i hi
      simp only [step_ref03_turn]
      rw [decide_eq_true (by omega), cond_true, gO_pos (by unfold inI; omega), turn_step x i (by omega)]
      rfl
    · refine Comes.stop ?_
      simp only [step_ref03_turn]
      rw [decide_eq_false (by omega)]; rfl
theorem shift_ok (x : BitVec 32) (n : Nat) (h : n < 32) : g_ref03_shift (up x) (n : Int) = some (up (x >>> n)) := by
  refine theC_eq (Comes.next (c' := .L1 (up (x >>> 0)) 0) ?_ ?_)
  · simp only [step_ref03_shift]
    rw [show x >>> 0 = x from BitVec.ushiftRight_zero x]
  · refine Comes.upto (step := step_ref03_shift (up x) (n : Int)) (fun i => .L1 (up (x >>> i)) (i : Int)) n ?_ ?_
    · intro i hi
      have e : (up (x >>> i)) / (2 : BitVec 64) = up (x >>> (i + 1)) := by
        apply BitVec.eq_of_toNat_eq
        have := shr_step x i
        rw [BitVec.toNat_udiv, up_nat, up_nat]
        show (x >>> i).toNat / 2 = _
        omega
      simp only [step_ref03_shift]
      rw [decide_eq_true (by omega), cond_true, gO_pos (by unfold inI; omega), e]
      rfl
    · refine Comes.stop ?_
      simp only [step_ref03_shift]
      rw [decide_eq_false (by omega)]; rfl
theorem Fill_ok (s : List UInt8) (hs : s.length ≤ 1000000) : g_ref03_Fill s = some (fillS s) := by
  have hpad : padN s.length < 64 := by unfold padN; omega
  refine theC_eq (Comes.next (c' := .L1 (s ++ [128])) ?_ ?_)
  · simp only [step_ref03_Fill]
    rw [gO_pos (by simp only [List.length_singleton]; omega)]
  · refine Comes.upto (step := step_ref03_Fill s) (fun j => .L1 (s ++ 128 :: List.replicate j 0)) (padN s.length) ?_ ?_
    · intro j hj
      have hl : (s ++ 128 :: List.replicate j (0 : UInt8)).length = s.length + 1 + j := by simp; omega
      have e : s ++ 128 :: List.replicate j (0 : UInt8) ++ [0] = s ++ 128 :: List.replicate (j + 1) 0 := by rw [List.append_assoc, List.cons_append, rep_snoc]
      have hne : ¬ (((s.length + 1 + j : Nat) : Int).tmod 64 = 56) := by
        rw [Int.tmod_eq_emod_of_nonneg (by omega)]
        unfold padN at hj
        omega
      simp only [step_ref03_Fill]
      rw [hl, decide_eq_false hne, Bool.not_false, cond_true, gO_pos (by simp only [List.length_singleton]; omega), e]
    · have hl : (s ++ 128 :: List.replicate (padN s.length) (0 : UInt8)).length = s.length + 1 + padN s.length := by simp; omega
      have he : ((s.length + 1 + padN s.length : Nat) : Int).tmod 64 = 56 := by
        rw [Int.tmod_eq_emod_of_nonneg (by omega)]
        unfold padN
        omega
      have hv : BitVec.ofInt 64 ((8 : Int) * (s.length : Int)) = BitVec.ofNat 64 (s.length * 8 / 256 ^ 0) := by
        apply BitVec.eq_of_toNat_eq
        rw [BitVec.toNat_ofInt, BitVec.toNat_ofNat, Nat.pow_zero, Nat.div_one]
        show (8 * (s.length : Int) % (2 ^ 64 : Nat)).toNat = _
        omega
      refine Comes.next (c' := .L2 (fill0 s) (BitVec.ofNat 64 (s.length * 8 / 256 ^ 0)) (leR (s.length * 8) 0).reverse 0) ?_ ?_
      · simp only [step_ref03_Fill]
        rw [hl, decide_eq_true he, Bool.not_true, cond_false, gO_pos (by unfold inI; omega), hv]
        rfl
      · have hf0 := fill0_len s
        refine Comes.upto (step := step_ref03_Fill s) (fun j => .L2 (fill0 s) (BitVec.ofNat 64 (s.length * 8 / 256 ^ j)) (leR (s.length * 8) j).reverse (j : Int)) 8 ?_ ?_
        · intro j hj
          have hle : s.length * 8 / 256 ^ j ≤ s.length * 8 := Nat.div_le_self _ _
          have hn : (BitVec.ofNat 64 (s.length * 8 / 256 ^ j)).toNat = s.length * 8 / 256 ^ j := by
            rw [BitVec.toNat_ofNat]; exact Nat.mod_eq_of_lt (by omega)
          have e1 : (BitVec.ofNat 64 (s.length * 8 / 256 ^ j)) / (256 : BitVec 64) = BitVec.ofNat 64 (s.length * 8 / 256 ^ (j + 1)) := by
            apply BitVec.eq_of_toNat_eq
            rw [BitVec.toNat_udiv, hn, BitVec.toNat_ofNat, ← div_pow]
            show s.length * 8 / 256 ^ j / 256 = s.length * 8 / 256 ^ j / 256 % 2 ^ 64
            omega
          have e2 : u8I ((((BitVec.ofNat 64 (s.length * 8 / 256 ^ j)) % (256 : BitVec 64)).toNat : Nat) : Int) = UInt8.ofNat (s.length * 8 / 256 ^ j) := by
            rw [u8I_nat, BitVec.toNat_umod, hn]
            exact ofNat_mod256 _
          have hlen := leR_len (s.length * 8) j
          simp only [step_ref03_Fill]
          rw [decide_eq_true (by omega), cond_true, gO_pos (by simp only [List.length_singleton, List.length_reverse]; omega), gO_pos (by unfold inI; omega), e1, e2, leB_rev]
          rfl
        · have hlen := leR_len (s.length * 8) 8
          refine Comes.stop ?_
          simp only [step_ref03_Fill]
          rw [decide_eq_false (by omega), cond_false, gO_pos (by rw [List.length_reverse]; omega)]
          rfl
end Go.Proofs.Ytfnlcnnoedmfiaa.K
