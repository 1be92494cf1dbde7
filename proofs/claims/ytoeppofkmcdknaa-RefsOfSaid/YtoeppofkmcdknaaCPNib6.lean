import Derived.Test.YtoeppofkmcdknaaCPNib
/- Package nib and its reference: what the walks reckon. -/
namespace Go.Proofs.Ytoeppofkmcdknaa.K
open Go
set_option linter.unusedVariables false
set_option linter.unusedSimpArgs false
theorem ContainsB (v : List UInt8) (f : UInt8 → Option Bool) (p : UInt8 → Bool) (hf : ∀ y ∈ v, f y = some (p y)) (hv : v.length ≤ 1000000000) : g_slices_ContainsFunc_byte_byte v f = some (v.any p) := by
  have hq : ∀ i, i < v.length → f (idx v (i : Int)) = some (p (idx v (i : Int))) := fun i hi => hf _ (idx_mem v hi)
  obtain ⟨r, hr, h⟩ := Comes.ex (step := step_slices_IndexFunc_byte_byte v f) (fun i => .L1 (i : Int)) (fun i => p (idx v (i : Int))) v.length (fun i => (i : Int)) (-1) (by
      intro i hi h
      simp only [step_slices_IndexFunc_byte_byte]
      rw [decide_eq_true (by omega), cond_true, gO_pos (by omega), hq i hi, Option.bind_some, h, cond_false, gO_pos (by unfold inI; omega)]
      rfl) (by
      intro i hi h
      simp only [step_slices_IndexFunc_byte_byte]
      rw [decide_eq_true (by omega), cond_true, gO_pos (by omega), hq i hi, Option.bind_some, h, cond_true]) (by
      refine Comes.stop ?_
      simp only [step_slices_IndexFunc_byte_byte]
      rw [decide_eq_false (by omega), cond_false])
  have e : g_slices_IndexFunc_byte_byte v f = some r := theC_eq (Comes.next rfl hr)
  unfold g_slices_ContainsFunc_byte_byte
  rw [e, Option.bind_some]
  congr 1
  rcases h with ⟨i, hi, h1, _, rfl⟩ | ⟨h1, rfl⟩
  · rw [decide_eq_true (by omega)]; exact (List.any_eq_true.2 ⟨_, idx_mem v hi, h1⟩).symm
  · rw [decide_eq_false (by omega)]; symm; rw [List.any_eq_false]; intro x hx
    obtain ⟨i, hi, rfl⟩ := List.mem_iff_getElem.1 hx
    have := h1 i hi
    rw [idx_get v hi] at this; simpa using this
theorem ContainsS (v : List (List UInt8)) (f : List UInt8 → Option Bool) (p : List UInt8 → Bool) (hf : ∀ y ∈ v, f y = some (p y)) (hv : v.length ≤ 1000000000) : ∃ r, g_slices_IndexFunc_string_string v f = some r ∧ ((∃ i : Nat, r = (i : Int) ∧ i < v.length ∧ p (idx v (i : Int)) = true ∧ ∀ j, j < i → p (idx v (j : Int)) = false) ∨ (r = -1 ∧ ∀ i, i < v.length → p (idx v (i : Int)) = false)) := by
  have hq : ∀ i, i < v.length → f (idx v (i : Int)) = some (p (idx v (i : Int))) := fun i hi => hf _ (idx_mem v hi)
  obtain ⟨r, hr, h⟩ := Comes.ex (step := step_slices_IndexFunc_string_string v f) (fun i => .L1 (i : Int)) (fun i => p (idx v (i : Int))) v.length (fun i => (i : Int)) (-1) (by
      intro i hi h
      simp only [step_slices_IndexFunc_string_string]
      rw [decide_eq_true (by omega), cond_true, gO_pos (by omega), hq i hi, Option.bind_some, h, cond_false, gO_pos (by unfold inI; omega)]
      rfl) (by
      intro i hi h
      simp only [step_slices_IndexFunc_string_string]
      rw [decide_eq_true (by omega), cond_true, gO_pos (by omega), hq i hi, Option.bind_some, h, cond_true]) (by
      refine Comes.stop ?_
      simp only [step_slices_IndexFunc_string_string]
      rw [decide_eq_false (by omega), cond_false])
  refine ⟨r, theC_eq (Comes.next rfl hr), ?_⟩
  rcases h with ⟨i, hi, h1, h2, rfl⟩ | ⟨h1, rfl⟩
  · exact .inl ⟨i, rfl, hi, h1, h2⟩
  · exact .inr ⟨rfl, h1⟩
theorem Right_ok (p : List UInt8) (hp : p.length ≤ 1000000000) : g_nib_Right p = some (right p) := by
  unfold g_nib_Right
  rw [ContainsB p _ (fun b => decide (15 < b.toNat)) (fun y _ => by
    simp only [g_nib_Right_1]
    congr 1
    rw [Bool.eq_iff_iff]; simp only [decide_eq_true_eq]; omega) hp, Option.bind_some]
  rfl
theorem Join2_ok (a b : List UInt8) (ha : a.length ≤ 1000000) (hb : b.length ≤ 1000000) : g_nib_Join [a, b] = some (a ++ b) := by
  refine theC_eq (Comes.next (c' := .L1 [] 0) rfl (Comes.next (c' := .L1 a 1) ?_ (Comes.next (c' := .L1 (a ++ b) 2) ?_ (Comes.stop ?_))))
  · simp only [step_nib_Join]
    rw [decide_eq_true (by simp), cond_true, gO_pos (by simp), gO_pos (by show (0 + a.length) * 1 ≤ _; omega), gO_pos (by unfold inI; omega)]
    rfl
  · simp only [step_nib_Join]
    rw [decide_eq_true (by simp), cond_true, gO_pos (by simp), gO_pos (by show (a.length + b.length) * 1 ≤ _; omega), gO_pos (by unfold inI; omega)]
    rfl
  · simp only [step_nib_Join]
    rw [decide_eq_false (by simp), cond_false]
theorem shl4B (a : UInt8) : u8shl a 4 = a * 16 := by
  unfold u8shl
  apply UInt8.toNat_inj.1
  rw [show min (4 : Int).toNat 8 = 4 from rfl, UInt8.toNat_ofNat', UInt8.toNat_mul]
  rfl
theorem shr4B (a : UInt8) : u8shr a 4 = a / 16 := by
  unfold u8shr
  apply UInt8.toNat_inj.1
  have := a.toNat_lt
  rw [show min (4 : Int).toNat 8 = 4 from rfl, UInt8.toNat_ofNat', UInt8.toNat_div, show (16 : UInt8).toNat = 16 from rfl]
  exact Nat.mod_eq_of_lt (by omega)
theorem and15B (a : UInt8) : a &&& 15 = a % 16 := by
  apply UInt8.toNat_inj.1
  rw [UInt8.toNat_and, UInt8.toNat_mod]
  exact Nat.and_two_pow_sub_one_eq_mod a.toNat 4
theorem pairs_L1 (p : List UInt8) (hp : p.length ≤ 1000000) : ∀ (k i : Nat) (acc : List UInt8), p.length ≤ i + k → i ≤ p.length + 1 → acc.length ≤ i → Comes (step_nib_pairs p) (.L1 acc (i : Int)) (acc ++ pairsL (p.drop i)) := by
  intro k
  induction k with
  | zero =>
    intro i acc h h1 h2
    refine Comes.stop ?_
    simp only [step_nib_pairs]
    rw [gO_pos (by unfold inI; omega), decide_eq_false (by omega), cond_false, pairsL_short (by rw [List.length_drop]; omega), List.append_nil]
  | succ k ih =>
    intro i acc h h1 h2
    by_cases hi : i + 1 < p.length
    · have := ih (i + 2) (acc ++ [(idx p (i : Int)) * 16 ||| idx p ((i + 1 : Nat) : Int)]) (by omega) (by omega) (by simp; omega)
      rw [List.append_assoc] at this
      have e : pairsL (p.drop i) = [(idx p (i : Int)) * 16 ||| idx p ((i + 1 : Nat) : Int)] ++ pairsL (p.drop (i + 2)) := by
        rw [drop_idx p (by omega : i < p.length), drop_idx p hi]; rfl
      rw [e]
      refine Comes.next ?_ this
      simp only [step_nib_pairs]
      rw [gO_pos (by unfold inI; omega), decide_eq_true (by omega), cond_true, gO_pos (by omega), gO_pos (by unfold inI; omega), gO_pos (by omega), gO_pos (by simp only [List.length_singleton]; omega), gO_pos (by unfold inI; omega), shl4B]
      rfl
    · refine Comes.stop ?_
      simp only [step_nib_pairs]
      rw [gO_pos (by unfold inI; omega), decide_eq_false (by omega), cond_false, pairsL_short (by rw [List.length_drop]; omega), List.append_nil]
theorem pairs_ok (p : List UInt8) (hp : p.length ≤ 1000000) : g_nib_pairs p = some (pairsL p) := by
  refine theC_eq (Comes.next rfl ?_)
  have := pairs_L1 p hp p.length 0 [] (by omega) (by omega) (by simp)
  simpa using this
theorem tmod2 (n : Nat) : decide ((n : Int).tmod 2 = 1) = decide (n % 2 = 1) := by
  rw [Bool.eq_iff_iff]; simp only [decide_eq_true_eq]
  rw [Int.tmod_eq_emod_of_nonneg (by omega)]; omega
theorem Pack_ok {p : List UInt8} (h : okP p = true) (leaf : Bool) : g_nib_Pack p leaf = some (packS p leaf, 0) := by
  obtain ⟨h1, h2⟩ := okP_ok h
  unfold g_nib_Pack
  rw [Right_ok p (by omega), Option.bind_some, h1, decide_eq_false (by omega), tmod2]
  by_cases ho : p.length % 2 = 1
  · rw [decide_eq_true ho]
    unfold packS
    rw [if_pos ho]
    cases leaf
    · simp only [Bool.not_true, Bool.or_self, cond_false, Option.bind_some, cond_true]
      rw [Join2_ok _ _ (by simp) (by omega), Option.bind_some, pairs_ok _ (by simp; omega)]
      rfl
    · simp only [Bool.not_true, Bool.or_self, cond_false, Option.bind_some, cond_true]
      rw [Join2_ok _ _ (by simp) (by omega), Option.bind_some, pairs_ok _ (by simp; omega)]
      rfl
  · rw [decide_eq_false ho]
    unfold packS
    rw [if_neg ho]
    cases leaf
    · simp only [Bool.not_true, Bool.or_self, cond_false, Option.bind_some, cond_true]
      rw [Join2_ok _ _ (by simp) (by omega), Option.bind_some, pairs_ok _ (by simp; omega)]
      rfl
    · simp only [Bool.not_true, Bool.or_self, cond_false, Option.bind_some, cond_true]
      rw [Join2_ok _ _ (by simp) (by omega), Option.bind_some, pairs_ok _ (by simp; omega)]
      rfl
theorem Unpack_ok (s : List UInt8) (hs : s.length ≤ 1000000) : g_nib_Unpack s = some (unpP s, unpL s, unpE s) := by
  cases s with
  | nil => exact theC_eq (Comes.stop rfl)
  | cons c r =>
    refine theC_eq (Comes.next (c' := .L1 0 []) rfl ?_)
    have hm : minI (((c :: r).length : Nat) : Int) 64 = ((min (c :: r).length 64 : Nat) : Int) := by unfold minI; split <;> omega
    have h1 : 1 ≤ min (c :: r).length 64 := by simp only [List.length_cons]; omega
    refine Comes.upto (step := step_nib_Unpack (c :: r)) (fun i => .L1 (i : Int) (pathL ((c :: r).take i))) (min (c :: r).length 64) ?_ ?_
    · intro i hi
      have hi' : i < (c :: r).length := by omega
      have hl : (pathL ((c :: r).take i)).length ≤ 2 * i := by rw [pathL_len, List.length_take]; omega
      simp only [step_nib_Unpack]
      rw [hm, decide_eq_true (by omega), cond_true, gO_pos (by omega)]
      unfold g_nib_Unpack_1
      rw [gO_pos (by simp only [List.length_cons, List.length_nil]; omega), Option.bind_some, gO_pos (by unfold inI; omega), shr4B, and15B, pathL_take hi', idx_nat]
      rfl
    · have ho : (pathL ((c :: r).take (min (c :: r).length 64))).length = 2 * min (c :: r).length 64 := by
        rw [pathL_len, List.length_take]; omega
      obtain ⟨e0, e1⟩ := unp_head (c := c) (r := r) (i := min (c :: r).length 64) rfl (by omega)
      generalize hO : pathL ((c :: r).take (min (c :: r).length 64)) = o at ho e0 e1
      have i0 : idx o (0 : Int) = c / 16 := by rw [← e0]; rfl
      have i1 : idx o (1 : Int) = c % 16 := by rw [← e1]; rfl
      have hc := c.toNat_lt
      have m2 : ((c / 16 % 2).toNat : Int) = ((c.toNat / 16 % 2 : Nat) : Int) := by rw [UInt8.toNat_mod, div16_nat]; rfl
      have hL : (c :: r).length = r.length + 1 := rfl
      refine Comes.stop ?_
      simp only [step_nib_Unpack]
      rw [hm, decide_eq_false (by omega), cond_false, gO_pos (by omega), i0, i1, m2, div16_nat, mod16_nat, gO_pos (by unfold inI; omega), gO_pos (fun _ => by omega), gO_pos (fun _ => by unfold inI; omega), gO_pos (fun _ => by unfold inI; omega)]
      by_cases hb : unpBad c (r.length + 1) = true
      · have hb' := (unpBad_iff _ _).1 hb
        have : ((decide ((3 : Int) < ((c.toNat / 16 : Nat) : Int)) || (decide (((c.toNat / 16 % 2 : Nat) : Int) = 0) && !decide (((c.toNat % 16 : Nat) : Int) = 0))) || decide ((64 : Int) < 2 * (((c :: r).length : Nat) : Int) - (2 - ((c.toNat / 16 % 2 : Nat) : Int)))) = true := by
          simp only [Bool.or_eq_true, Bool.and_eq_true, Bool.not_eq_true', decide_eq_true_eq, decide_eq_false_iff_not]; omega
        rw [this, cond_true]
        simp only [unpP, unpL, unpE, hb, if_true]
      · have hb' : unpBad c (r.length + 1) = false := by simpa using hb
        have hb2 := mt (unpBad_iff c (r.length + 1)).2 hb
        have : ((decide ((3 : Int) < ((c.toNat / 16 : Nat) : Int)) || (decide (((c.toNat / 16 % 2 : Nat) : Int) = 0) && !decide (((c.toNat % 16 : Nat) : Int) = 0))) || decide ((64 : Int) < 2 * (((c :: r).length : Nat) : Int) - (2 - ((c.toNat / 16 % 2 : Nat) : Int)))) = false := by
          simp only [Bool.or_eq_false_iff, Bool.and_eq_false_iff, Bool.not_eq_false', decide_eq_true_eq, decide_eq_false_iff_not]; omega
        rw [this, cond_false, gO_pos (by omega)]
        have hn : (c :: r).take (min (c :: r).length 64) = c :: r := List.take_of_length_le (by omega)
        rw [hn] at hO
        subst hO
        have e2 : (2 : Int) - ((c.toNat / 16 % 2 : Nat) : Int) = ((2 - c.toNat / 16 % 2 : Nat) : Int) := by omega
        rw [e2, sub_suf]
        simp only [unpP, unpL, unpE, hb', Bool.false_eq_true, if_false]
        congr 4
        rw [Bool.eq_iff_iff]; simp only [decide_eq_true_eq]; omega
theorem RRight_ok (p : List UInt8) (hp : p.length ≤ 1000000) : g_ref02_Right p = some (right p) := by
  have h := Comes.all (step := step_ref02_Right p) (fun i => .L1 (i : Int)) (fun i => !decide (15 < (idx p (i : Int)).toNat)) p.length false true (by
      intro i hi h
      have h : ¬ 15 < (idx p (i : Int)).toNat := by simpa using h
      simp only [step_ref02_Right]
      rw [decide_eq_true (by omega), cond_true, gO_pos (by omega), decide_eq_false (by omega), cond_false, gO_pos (by unfold inI; omega)]
      rfl) (by
      intro i hi h
      have h : 15 < (idx p (i : Int)).toNat := by simpa using h
      simp only [step_ref02_Right]
      rw [decide_eq_true (by omega), cond_true, gO_pos (by omega), decide_eq_true (by omega), cond_true]) (by
      refine Comes.stop ?_
      simp only [step_ref02_Right]
      rw [decide_eq_false (by omega), cond_false])
  have e : g_ref02_Right p = some _ := theC_eq (Comes.next rfl h)
  rw [e, all_range p (fun b => !decide (15 < b.toNat))]
  congr 1
  unfold right
  cases hh : p.any (fun b => decide (15 < b.toNat)) with
  | true =>
    have : (p.all fun b => !decide (15 < b.toNat)) = false := by
      rw [List.all_eq_false]
      obtain ⟨x, hx, hb⟩ := List.any_eq_true.1 hh
      exact ⟨x, hx, by rw [hb]; simp⟩
    rw [this]; rfl
  | false =>
    have : (p.all fun b => !decide (15 < b.toNat)) = true := by
      rw [List.all_eq_true]
      intro x hx
      have := List.any_eq_false.1 hh x hx
      simpa using this
    rw [this]; rfl
theorem RPack_L3 (p : List UInt8) (leaf : Bool) (hr : right p = true) (hp : p.length ≤ 64) : ∀ (k i : Nat) (acc : List UInt8), p.length = i + 2 * k → acc.length ≤ i + 1 → Comes (step_ref02_Pack p leaf) (.L3 acc (i : Int)) (acc ++ pairsL (p.drop i)) := by
  intro k
  induction k with
  | zero =>
    intro i acc h h2
    refine Comes.stop ?_
    simp only [step_ref02_Pack]
    rw [decide_eq_false (by omega), cond_false, pairsL_short (by rw [List.length_drop]; omega), List.append_nil]
  | succ k ih =>
    intro i acc h h2
    have := ih (i + 2) (acc ++ [(idx p (i : Int)) * 16 ||| idx p ((i + 1 : Nat) : Int)]) (by omega) (by simp; omega)
    rw [List.append_assoc] at this
    have e : pairsL (p.drop i) = [(idx p (i : Int)) * 16 ||| idx p ((i + 1 : Nat) : Int)] ++ pairsL (p.drop (i + 2)) := by
      rw [drop_idx p (by omega : i < p.length), drop_idx p (by omega : i + 1 < p.length)]; rfl
    rw [e]
    refine Comes.next ?_ this
    have hlt : (idx p ((i + 1 : Nat) : Int)).toNat < 16 := by rw [idx_nat]; exact right_lt hr _
    simp only [step_ref02_Pack]
    rw [decide_eq_true (by omega), cond_true, gO_pos (by omega), gO_pos (by unfold inI; omega), gO_pos (by omega), gO_pos (by simp only [List.length_singleton]; omega), gO_pos (by unfold inI; omega), ← or_add hlt]
    rfl
theorem RPack_ok {p : List UInt8} (h : okP p = true) (leaf : Bool) : g_ref02_Pack p leaf = some (packS p leaf) := by
  obtain ⟨h1, h2⟩ := okP_ok h
  have h0 : (idx p (0 : Int)).toNat < 16 := right_lt h1 0
  have h0' : (p.getD 0 0).toNat < 16 := right_lt h1 0
  have hg : idx p (0 : Int) = p.getD 0 0 := rfl
  refine theC_eq ?_
  by_cases ho : p.length % 2 = 1
  · have hL := fun a => RPack_L3 p leaf h1 h2 (p.length / 2) 1 [a] (by omega) (by simp)
    cases leaf
    · rw [packS_odd_false ho h0']
      refine Comes.next ?_ (hL _)
      simp only [step_ref02_Pack, cond_false, Option.bind_some]
      rw [tmod2, decide_eq_true ho, cond_true, gO_pos (by unfold inI; omega), gO_pos (by omega), gO_pos (by unfold inI; omega), Option.bind_some, show (0 : Int) + 16 + ((idx p (0 : Int)).toNat : Int) = ((16 + (p.getD 0 0).toNat : Nat) : Int) by rw [hg]; omega, u8I_nat]
      rw [show ((16 : Int) + ((p.getD 0 0).toNat : Int)).toNat = 16 + (p.getD 0 0).toNat by omega]
      rfl
    · rw [packS_odd_true ho h0']
      refine Comes.next ?_ (hL _)
      simp only [step_ref02_Pack, cond_true, Option.bind_some]
      rw [tmod2, decide_eq_true ho, cond_true, gO_pos (by unfold inI; omega), gO_pos (by omega), gO_pos (by unfold inI; omega), Option.bind_some, show (32 : Int) + 16 + ((idx p (0 : Int)).toNat : Int) = ((48 + (p.getD 0 0).toNat : Nat) : Int) by rw [hg]; omega, u8I_nat]
      rw [show ((48 : Int) + ((p.getD 0 0).toNat : Int)).toNat = 48 + (p.getD 0 0).toNat by omega]
      rfl
  · have hL := fun a => RPack_L3 p leaf h1 h2 (p.length / 2) 0 [a] (by omega) (by simp)
    cases leaf
    · rw [packS_even_false (by omega)]
      refine Comes.next ?_ (hL _)
      simp only [step_ref02_Pack, cond_false, Option.bind_some]
      rw [tmod2, decide_eq_false ho, cond_false, Option.bind_some]
      rfl
    · rw [packS_even_true (by omega)]
      refine Comes.next ?_ (hL _)
      simp only [step_ref02_Pack, cond_true, Option.bind_some]
      rw [tmod2, decide_eq_false ho, cond_false, Option.bind_some]
      rfl
end Go.Proofs.Ytoeppofkmcdknaa.K
