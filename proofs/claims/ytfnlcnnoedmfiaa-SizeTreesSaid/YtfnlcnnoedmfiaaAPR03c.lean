import Derived.Test.YtfnlcnnoedmfiaaAPR03b
/- The reference's sum of any text; texts of one sum. -/
namespace Go.Proofs.Ytfnlcnnoedmfiaa.K
open Go
set_option linter.unusedVariables false
set_option linter.unusedSimpArgs false
theorem ROf_L1 (s t : List UInt8) (ht : t.length ≤ 2000000) (r : List UInt8) : ∀ (k j : Nat) (h : List Wd), h.length = 8 → t.length = 64 * (j + k) → (∀ g : List Wd, g.length = 8 → shaFold h (t.drop (64 * j)) = g → Comes (step_ref03_Of s) (.L2 (g.map up) [] 0) r) → Comes (step_ref03_Of s) (.L1 (h.map up) t ((64 * j : Nat) : Int)) r
  | 0, j, h, hh, hl, hr => by
    have e : t.drop (64 * j) = [] := List.drop_of_length_le (by omega)
    refine Comes.next ?_ (hr h hh (shaFold_end rfl e).symm)
    simp only [step_ref03_Of]
    rw [decide_eq_false (by omega), cond_false]
  | k + 1, j, h, hh, hl, hr => by
    have hB := Block_ok h ((t.drop (64 * j)).take 64) hh (by rw [List.length_take, List.length_drop]; omega)
    have hs : sub t ((64 * j : Nat) : Int) (((64 * j : Nat) : Int) + 64) = (t.drop (64 * j)).take 64 := by
      rw [show ((64 * j : Nat) : Int) + 64 = ((64 * j + 64 : Nat) : Int) by omega, sub_mid, show 64 * j + 64 - 64 * j = 64 by omega]
    have e : (t.drop (64 * j)).drop 64 = t.drop (64 * (j + 1)) := by rw [List.drop_drop]; congr 1
    refine Comes.next (c' := .L1 ((shaStep h ((t.drop (64 * j)).take 64)).map up) t ((64 * (j + 1) : Nat) : Int)) ?_ (ROf_L1 s t ht r k (j + 1) _ (shaStep_len hh) (by omega) (fun g hg hgf => hr g hg ?_))
    · simp only [step_ref03_Of]
      rw [decide_eq_true (by omega), cond_true, gO_pos (by unfold inI; omega), gO_pos (by omega), hs, hB, Option.bind_some, gO_pos (by unfold inI; omega), show ((64 * j : Nat) : Int) + 64 = ((64 * (j + 1) : Nat) : Int) by omega]
    · rw [shaFold_step h (by rw [List.length_drop]; omega), e]; exact hgf
theorem ROf_L2 (s : List UInt8) (g : List Wd) (hg : g.length = 8) : Comes (step_ref03_Of s) (.L2 (g.map up) ((List.range 0).map (outB g)) ((0 : Nat) : Int)) ((List.range 32).map (outB g)) := by
  refine Comes.uptoC (step := step_ref03_Of s) (fun i => .L2 (g.map up) ((List.range i).map (outB g)) (i : Int)) 32 ?_ ?_
  · intro i hi hn
    have q1 : (i : Int).tdiv 4 = ((i / 4 : Nat) : Int) := by rw [Int.tdiv_eq_ediv_of_nonneg (by omega)]; omega
    have q2 : (i : Int).tmod 4 = ((i % 4 + 0 : Nat) : Int) := by rw [Int.tmod_eq_emod_of_nonneg (by omega)]; omega
    have hx := (g.getD (i / 4) 0).isLt
    have hm : (g.map up).length = 8 := by rw [List.length_map, hg]
    refine Comes.next (c' := .L3 (g.map up) ((List.range i).map (outB g)) (i : Int) (BitVec.ofNat 64 ((g.getD (i / 4) 0).toNat / 256 ^ 0)) ((i % 4 + 0 : Nat) : Int)) ?_ ?_
    · have e : up (g.getD (i / 4) 0) = BitVec.ofNat 64 ((g.getD (i / 4) 0).toNat / 256 ^ 0) := by
        apply BitVec.eq_of_toNat_eq
        rw [up_nat, BitVec.toNat_ofNat, Nat.pow_zero, Nat.div_one]
        exact (Nat.mod_eq_of_lt (by omega)).symm
      simp only [step_ref03_Of, hm, q1, q2, idx_up, e]
      rw [decide_eq_true (by omega), cond_true, gO_pos ⟨by decide, by unfold inI; omega⟩, gO_pos (by omega)]
    · refine Comes.upto (step := step_ref03_Of s) (fun m => .L3 (g.map up) ((List.range i).map (outB g)) (i : Int) (BitVec.ofNat 64 ((g.getD (i / 4) 0).toNat / 256 ^ m)) ((i % 4 + m : Nat) : Int)) (3 - i % 4) ?_ ?_
      · intro m hm
        have hle : (g.getD (i / 4) 0).toNat / 256 ^ m ≤ (g.getD (i / 4) 0).toNat := Nat.div_le_self _ _
        have e : (BitVec.ofNat 64 ((g.getD (i / 4) 0).toNat / 256 ^ m)) / (256 : BitVec 64) = BitVec.ofNat 64 ((g.getD (i / 4) 0).toNat / 256 ^ (m + 1)) := by
          apply BitVec.eq_of_toNat_eq
          rw [BitVec.toNat_udiv, BitVec.toNat_ofNat, BitVec.toNat_ofNat, ← div_pow]
          generalize (g.getD (i / 4) 0).toNat / 256 ^ m = q at hle
          show q % 2 ^ 64 / 256 = q / 256 % 2 ^ 64
          omega
        simp only [step_ref03_Of]
        rw [decide_eq_true (by omega), cond_true, gO_pos (by unfold inI; omega), e]
        rfl
      · have hle : (g.getD (i / 4) 0).toNat / 256 ^ (3 - i % 4) ≤ (g.getD (i / 4) 0).toNat := Nat.div_le_self _ _
        have e : u8I (((BitVec.ofNat 64 ((g.getD (i / 4) 0).toNat / 256 ^ (3 - i % 4)) % (256 : BitVec 64)).toNat : Nat) : Int) = outB g i := by
          rw [u8I_nat, BitVec.toNat_umod, BitVec.toNat_ofNat, ← outB_eq]
          generalize (g.getD (i / 4) 0).toNat / 256 ^ (3 - i % 4) = q at hle
          rw [Nat.mod_eq_of_lt (show q < 2 ^ 64 by omega)]
          exact ofNat_mod256 q
        have hl : ((List.range i).map (outB g)).length = i := by simp
        refine Comes.next ?_ hn
        simp only [step_ref03_Of, e, hl]
        rw [decide_eq_false (by omega), cond_false, gO_pos (by simp only [List.length_singleton]; omega), gO_pos (by unfold inI; omega), List.range_succ, List.map_append]
        rfl
  · refine Comes.stop ?_
    simp only [step_ref03_Of]
    rw [decide_eq_false (by omega), cond_false]
theorem ROf_ok (s : List UInt8) (hs : s.length ≤ 1000000) : g_ref03_Of s = some (shaB s) := by
  have hF := fillS_len s
  refine theC_eq (Comes.next (c' := .L1 (sha0.map up) (fillS s) ((64 * 0 : Nat) : Int)) ?_ ?_)
  · simp only [step_ref03_Of]
    rw [Fill_ok s hs, Option.bind_some]
    rfl
  · refine ROf_L1 s (fillS s) (by omega) _ ((fillS s).length / 64) 0 sha0 rfl (by omega) fun g hg e => ?_
    have : shaH s = g := by rw [← e]; rfl
    rw [shaB, this]
    exact ROf_L2 s g hg
def cl (l : List (List UInt8)) (j k : Nat) : Prop := shaB (idx l (j : Int)) = shaB (idx l (k : Int)) ∧ idx l (j : Int) ≠ idx l (k : Int)
end Go.Proofs.Ytfnlcnnoedmfiaa.K
