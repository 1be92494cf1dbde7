import Derived.Test.YtoeppofkmcdknaaBPR03b
/- The reference's sum of any text; texts of one sum. -/
namespace Go.Proofs.Ytoeppofkmcdknaa.K
open Go
set_option linter.unusedVariables false
set_option linter.unusedSimpArgs false
theorem ROf_L1 (s t : List UInt8) (ht : t.length ≤ 2000000) (r : List UInt8) : ∀ (k j : Nat) (h : List Wd), h.length = 8 → t.length = 64 * (j + k) → (∀ g : List Wd, g.length = 8 → shaFold h (t.drop (64 * j)) = g → Comes (step_ref03_Of s) (.L2 (g.map up) [] 0) r) → Comes (step_ref03_Of s) (.L1 (h.map up) t ((64 * j : Nat) : Int)) r
  | 0, j, h, hh, hl, hr => by
    have e : t.drop (64 * j) = [] := List.drop_of_length_le (by omega)
    refine Comes.next ?_ (hr h hh (shaFold_end rfl e).symm)
    simp only [step_ref03_Of]
    rw [decide_eq_false (by omega), cond_false]
  | k + 1, j, h, hh, hl, hr => by
    have hB := Block_ok h ((t.drop (64 * j)).take 64) hh (by rw [List.length_take, List.length_drop]; omega)
    have hs : sub t ((64 * j : Nat) : Int) (((64 * j : Nat) : Int) + 64) = (t.drop (64 * j)).take 64 := by
      rw [show ((64 * j : Nat) : Int) + 64 = ((64 * j + 64 : Nat) : Int) by omega, sub_mid, show 64 * j + 64 - 64 * j = 64 by omega]
    have e : (t.drop (64 * j)).drop 64 = t.drop (64 * (j + 1)) := by rw [List.drop_drop]; congr 1
    refine Comes.next (c' := .L1 ((shaStep h ((t.drop (64 * j)).take 64)).map up) t ((64 * (j + 1) : Nat) : Int)) ?_ (ROf_L1 s t ht r k (j + 1) _ (shaStep_len hh) (by omega) (fun g hg hgf => hr g hg ?_))
    · simp only [step_ref03_Of]
      rw [decide_eq_true (by omega), cond_true, gO_pos (by unfold inI; omega), gO_pos (by omega), hs, hB, Option.bind_some, gO_pos (by unfold inI; omega), show ((64 * j : Nat) : Int) + 64 = ((64 * (j + 1) : Nat) : Int) by omega]
    · rw [shaFold_step h (by rw [List.length_drop]; omega), e]; exact hgf
theorem ROf_L2 (s : List UInt8) (g : List Wd) (hg : g.length = 8) : Comes (step_ref03_Of s) (.L2 (g.map up) ((List.range 0).map (outB g)) ((0 : Nat) : Int)) ((List.range 32).map (outB g)) := by
  refine Comes.uptoC (step := step_ref03_Of s) (fun i => .L2 (g.map up) ((List.range i).map (outB g)) (i : Int)) 32 ?_ ?_
  · intro i hi hn
    have q1 : (i : Int).tdiv 4 = ((i / 4 : Nat) : Int) := by rw [Int.tdiv_eq_ediv_of_nonneg (by omega)]; omega
    have q2 : (i : Int).tmod 4 = ((i % 4 + 0 : Nat) : Int) := by rw [Int.tmod_eq_emod_of_nonneg (by omega)]; omega
    have hx := (g.getD (i / 4) 0).isLt
    have hm : (g.map up).length = 8 := by rw [List.length_map, hg]
    refine Comes.next (c' := .L3 (g.map up) ((List.range i).map (outB g)) (i : Int) (BitVec.ofNat 64 ((g.getD (i / 4) 0).toNat / 256 ^ 0)) ((i % 4 + 0 : Nat) : Int)) ?_ ?_
    · have e : up (g.getD (i / 4) 0) = BitVec.ofNat 64 ((g.getD (i / 4) 0).toNat / 256 ^ 0) := by
        apply BitVec.eq_of_toNat_eq
        rw [up_nat, BitVec.toNat_ofNat, Nat.pow_zero, Nat.div_one]
        exact (Nat.mod_eq_of_lt (by omega)).symm
      simp only [step_ref03_Of, hm, q1, q2, idx_up, e]
      rw [decide_eq_true (by omega), cond_true, gO_pos ⟨by decide, by unfold inI; omega⟩, gO_pos (by omega)]
    · refine Comes.upto (step := step_ref03_Of s) (fun m => .L3 (g.map up) ((List.range i).map (outB g)) (i : Int) (BitVec.ofNat 64 ((g.getD (i / 4) 0).toNat / 256 ^ m)) ((i % 4 + m : Nat) : Int)) (3 - i % 4) ?_ ?_
      · intro m hm
        have hle : (g.getD (i / 4) 0).toNat / 256 ^ m ≤ (g.getD (i / 4) 0).toNat := Nat.div_le_self _ _
        have e : (BitVec.ofNat 64 ((g.getD (i / 4) 0).toNat / 256 ^ m)) / (256 : BitVec 64) = BitVec.ofNat 64 ((g.getD (i / 4) 0).toNat / 256 ^ (m + 1)) := by
          apply BitVec.eq_of_toNat_eq
          rw [BitVec.toNat_udiv, BitVec.toNat_ofNat, BitVec.toNat_ofNat, ← div_pow]
          generalize (g.getD (i / 4) 0).toNat / 256 ^ m = q at hle
          show q % 2 ^ 64 / 256 = q / 256 % 2 ^ 64
          omega
        simp only [step_ref03_Of]
        rw [decide_eq_true (by omega), cond_true, gO_pos (by unfold inI; omega), e]
        rfl
      · have hle : (g.getD (i / 4) 0).toNat / 256 ^ (3 - i % 4) ≤ (g.getD (i / 4) 0).toNat := Nat.div_le_self _ _
        have e : u8I (((BitVec.ofNat 64 ((g.getD (i / 4) 0).toNat / 256 ^ (3 - i % 4)) % (256 : BitVec 64)).toNat : Nat) : Int) = outB g i := by
          rw [u8I_nat, BitVec.toNat_umod, BitVec.toNat_ofNat, ← outB_eq]
          generalize (g.getD (i / 4) 0).toNat / 256 ^ (3 - i % 4) = q at hle
          rw [Nat.mod_eq_of_lt (show q < 2 ^ 64 by omega)]
          exact ofNat_mod256 q
        have hl : ((List.range i).map (outB g)).length = i := by simp
        refine Comes.next ?_ hn
        simp only [step_ref03_Of, e, hl]
        rw [decide_eq_false (by omega), cond_false, gO_pos (by simp only [List.length_singleton]; omega), gO_pos (by unfold inI; omega), List.range_succ, List.map_append]
        rfl
  · refine Comes.stop ?_
    simp only [step_ref03_Of]
    rw [decide_eq_false (by omega), cond_false]
theorem ROf_ok (s : List UInt8) (hs : s.length ≤ 1000000) : g_ref03_Of s = some (shaB s) := by
  have hF := fillS_len s
  refine theC_eq (Comes.next (c' := .L1 (sha0.map up) (fillS s) ((64 * 0 : Nat) : Int)) ?_ ?_)
  · simp only [step_ref03_Of]
    rw [Fill_ok s hs, Option.bind_some]
    rfl
  · refine ROf_L1 s (fillS s) (by omega) _ ((fillS s).length / 64) 0 sha0 rfl (by omega) fun g hg e => ?_
    have : shaH s = g := by rw [← e]; rfl
    rw [shaB, this]
    exact ROf_L2 s g hg
def shaA (s : List UInt8) : Arr 32 UInt8 := ⟨shaB s, shaB_len s⟩
theorem SumOf_ok (s : List UInt8) (hs : s.length ≤ 1000000) : g_sum_Of s = some (shaA s) := by
  obtain ⟨r, h1, h2⟩ := SOf_ok s hs
  rw [h2]; congr 1; exact Subtype.ext h1
def cl (l : List (List UInt8)) (j k : Nat) : Prop := shaB (idx l (j : Int)) = shaB (idx l (k : Int)) ∧ idx l (j : Int) ≠ idx l (k : Int)
theorem idx_map_take {α β : Type} [Inhabited α] [Inhabited β] (f : α → β) (l : List α) {i k : Nat} (h : i < k) (hk : k ≤ l.length) : idx ((l.take k).map f) (i : Int) = f (idx l (i : Int)) := by
  rw [idx_get _ (by simp; omega), idx_get l (by omega)]
  simp
theorem map_take_succ {α β : Type} [Inhabited α] (f : α → β) (l : List α) {k : Nat} (hk : k < l.length) : (l.take k).map f ++ [f (idx l (k : Int))] = (l.take (k + 1)).map f := by
  rw [take_idx l hk, List.map_append]; rfl
theorem RClash_L2 (l : List (List UInt8)) (hl : l.length ≤ 1000) (Q : Bool → Prop) (k : Nat) (hk : k < l.length) (hbad : ∀ j, j < k → cl l j k → Q true)
    (hn : (∀ j, j < k → ¬ cl l j k) → ∃ b, Comes (step_ref03_Clash l) (.L1 ((l.take (k + 1)).map shaB) ((k + 1 : Nat) : Int)) b ∧ Q b) :
    ∀ m i, m + i = k → (∀ j, j < i → ¬ cl l j k) → ∃ b, Comes (step_ref03_Clash l) (.L2 ((l.take (k + 1)).map shaB) (k : Int) (i : Int)) b ∧ Q b
  | 0, i, hi, hj => by
    have : i = k := by omega
    subst this
    obtain ⟨b, h1, h2⟩ := hn hj
    refine ⟨b, Comes.next ?_ h1, h2⟩
    simp only [step_ref03_Clash]
    rw [decide_eq_false (by omega), cond_false, gO_pos (by unfold inI; omega)]
    rfl
  | m + 1, i, hi, hj => by
    have e1 := idx_map_take shaB l (i := i) (k := k + 1) (by omega) (by omega)
    have e2 := idx_map_take shaB l (i := k) (k := k + 1) (by omega) (by omega)
    have hlen : ((l.take (k + 1)).map shaB).length = k + 1 := by simp; omega
    by_cases hc : cl l i k
    · refine ⟨true, Comes.stop ?_, hbad i (by omega) hc⟩
      simp only [step_ref03_Clash, e1, e2, hlen]
      rw [decide_eq_true (by omega), cond_true, gO_pos (by omega), gO_pos (by omega), gO_pos (fun _ => by omega), gO_pos (fun _ => by omega), beq_iff_eq.2 hc.1, beq_eq_false_iff_ne.2 hc.2]
      rfl
    · obtain ⟨b, h1, h2⟩ := RClash_L2 l hl Q k hk hbad hn m (i + 1) (by omega) (fun j h => by
        rcases Nat.lt_succ_iff_lt_or_eq.1 h with h | h
        · exact hj j h
        · rw [h]; exact hc)
      refine ⟨b, Comes.next ?_ h1, h2⟩
      have hb : ((shaB (idx l (i : Int)) == shaB (idx l (k : Int))) && !(idx l (i : Int) == idx l (k : Int))) = false := by
        rw [Bool.eq_false_iff]
        intro h
        rw [Bool.and_eq_true, beq_iff_eq, Bool.not_eq_true', beq_eq_false_iff_ne] at h
        exact hc h
      simp only [step_ref03_Clash, e1, e2, hlen]
      rw [decide_eq_true (by omega), cond_true, gO_pos (by omega), gO_pos (by omega), gO_pos (fun _ => by omega), gO_pos (fun _ => by omega), hb, cond_false, gO_pos (by unfold inI; omega)]
      rfl
theorem RClash_L1 (l : List (List UInt8)) (hl : l.length ≤ 1000) (ht : ∀ x ∈ l, x.length ≤ 1000000) (Q : Bool → Prop) (hbad : ∀ j k, j < k → k < l.length → cl l j k → Q true) (hq : (∀ j k, j < k → k < l.length → ¬ cl l j k) → Q false) :
    ∀ m k, m + k = l.length → (∀ j k', j < k' → k' < k → ¬ cl l j k') → ∃ b, Comes (step_ref03_Clash l) (.L1 ((l.take k).map shaB) (k : Int)) b ∧ Q b
  | 0, k, hk, hj => by
    refine ⟨false, Comes.stop ?_, hq fun j k' h1 h2 => hj j k' h1 (by omega)⟩
    simp only [step_ref03_Clash]
    rw [decide_eq_false (by omega), cond_false]
  | m + 1, k, hk, hj => by
    obtain ⟨b, h1, h2⟩ := RClash_L2 l hl Q k (by omega) (fun j h => hbad j k h (by omega)) (fun h => RClash_L1 l hl ht Q hbad hq m (k + 1) (by omega) (fun j k' h1 h2 => by
      rcases Nat.lt_succ_iff_lt_or_eq.1 h2 with h3 | h3
      · exact hj j k' h1 h3
      · rw [h3] at h1 ⊢; exact h j h1)) k 0 (by omega) (fun j h => absurd h (by omega))
    refine ⟨b, Comes.next ?_ h1, h2⟩
    have hlen : ((l.take k).map shaB).length = k := by simp; omega
    simp only [step_ref03_Clash, hlen]
    rw [decide_eq_true (by omega), cond_true, gO_pos (by omega), ROf_ok _ (ht _ (idx_mem l (by omega))), Option.bind_some, gO_pos (by simp only [List.length_singleton]; omega), map_take_succ shaB l (by omega)]
    rfl
theorem RClash_ok (l : List (List UInt8)) (hl : l.length ≤ 1000) (ht : ∀ x ∈ l, x.length ≤ 1000000) : ∃ b, g_ref03_Clash l = some b ∧ (b = true → ∃ j k, j < k ∧ k < l.length ∧ cl l j k) := by
  obtain ⟨b, h1, h2⟩ := RClash_L1 l hl ht (fun b => b = true → ∃ j k, j < k ∧ k < l.length ∧ cl l j k) (fun j k a b c _ => ⟨j, k, a, b, c⟩) (fun _ h => by simp at h) l.length 0 rfl (fun j k' h1 h2 => absurd h2 (by omega))
  exact ⟨b, theC_eq (Comes.next rfl h1), h2⟩
end Go.Proofs.Ytoeppofkmcdknaa.K
