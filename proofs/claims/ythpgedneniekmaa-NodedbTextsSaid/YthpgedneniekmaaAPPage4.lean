import Derived.Test.YthpgedneniekmaaAPPage3
/- Package page and the reference of layer 47: rows that rise; one more, one less. -/
namespace Go.Proofs.Ythpgedneniekmaa.K
open Go
set_option linter.unusedVariables false
set_option linter.unusedSimpArgs false
def beN : List UInt8 → Nat
  | [] => 0
  | b :: r => b.toNat * 256 ^ r.length + beN r
theorem beN_lt : ∀ l : List UInt8, beN l < 256 ^ l.length
  | [] => by simp [beN]
  | b :: r => by
    have h1 := beN_lt r
    have h2 := b.toNat_lt
    rw [beN, List.length_cons, Nat.pow_succ]
    have h3 : b.toNat * 256 ^ r.length ≤ 255 * 256 ^ r.length := Nat.mul_le_mul_right _ (by omega)
    generalize b.toNat * 256 ^ r.length = q at *
    generalize 256 ^ r.length = z at *
    omega
theorem cmpB_beN : ∀ a b : List UInt8, a.length = b.length → (cmpB a b < 0 ↔ beN a < beN b) ∧ (cmpB a b = 0 ↔ beN a = beN b)
  | [], [], _ => by simp [cmpB, beN]
  | x :: a, y :: b, h => by
    have hl : a.length = b.length := by simpa using h
    have ih := cmpB_beN a b hl
    have h1 := beN_lt a
    have h2 := beN_lt b
    rw [cmpB, beN, beN, hl] at *
    generalize 256 ^ b.length = z at *
    rcases Nat.lt_trichotomy x.toNat y.toNat with hxy | hxy | hxy
    · have e : cmpI x.toNat y.toNat = -1 := by unfold cmpI; rw [if_pos (by omega)]
      rw [e, if_neg (by omega)]
      have h3 : (x.toNat + 1) * z ≤ y.toNat * z := Nat.mul_le_mul_right _ (by omega)
      rw [Nat.add_mul, Nat.one_mul] at h3
      generalize x.toNat * z = p at *
      generalize y.toNat * z = q at *
      constructor <;> constructor <;> intro _ <;> omega
    · have e : cmpI x.toNat y.toNat = 0 := by unfold cmpI; rw [if_neg (by omega), if_neg (by omega)]
      rw [e, if_pos rfl, hxy]
      generalize y.toNat * z = q at *
      rw [ih.1, ih.2]
      constructor <;> constructor <;> intro _ <;> omega
    · have e : cmpI x.toNat y.toNat = 1 := by unfold cmpI; rw [if_neg (by omega), if_pos (by omega)]
      rw [e, if_neg (by omega)]
      have h3 : (y.toNat + 1) * z ≤ x.toNat * z := Nat.mul_le_mul_right _ (by omega)
      rw [Nat.add_mul, Nat.one_mul] at h3
      generalize x.toNat * z = p at *
      generalize y.toNat * z = q at *
      constructor <;> constructor <;> intro _ <;> omega
  | [], _ :: _, h => by simp at h
  | _ :: _, [], h => by simp at h
def kN (r : Row) : Nat := beN r.fSum.1
theorem ltR_iff {a b : Row} : ltR a b = true ↔ (kN a < kN b ∨ (kN a = kN b ∧ a.fEpoch < b.fEpoch)) := by
  have h := cmpB_beN a.fSum.1 b.fSum.1 (by rw [a.fSum.2, b.fSum.2])
  unfold ltR ordR kN
  rw [decide_eq_true_eq]
  split
  · rename_i h0
    have := h.2.1 h0
    unfold cmpI
    constructor
    · intro h1
      repeat' split at h1
      all_goals first | omega | (refine .inr ⟨by omega, by omega⟩)
    · intro h1
      rw [if_pos (by omega)]; omega
  · rename_i h0
    have : ¬ beN a.fSum.1 = beN b.fSum.1 := fun e => h0 (h.2.2 e)
    rw [h.1]; omega
theorem ltR_false {a b : Row} : ltR a b = false ↔ ¬ (kN a < kN b ∨ (kN a = kN b ∧ a.fEpoch < b.fEpoch)) := by
  rw [← ltR_iff]; simp
theorem ordR_zero {a b : Row} : ordR a b = 0 ↔ (kN a = kN b ∧ a.fEpoch = b.fEpoch) := by
  have h := cmpB_beN a.fSum.1 b.fSum.1 (by rw [a.fSum.2, b.fSum.2])
  unfold ordR kN
  split
  · rename_i h0
    have := h.2.1 h0
    unfold cmpI
    constructor
    · intro h1
      repeat' split at h1
      all_goals first | omega | (refine ⟨by omega, by omega⟩)
    · rintro ⟨_, h1⟩
      rw [if_neg (by omega), if_neg (by omega)]
  · rename_i h0
    have : ¬ beN a.fSum.1 = beN b.fSum.1 := fun e => h0 (h.2.2 e)
    constructor
    · intro e; exact absurd e h0
    · rintro ⟨e, _⟩; exact absurd e this
theorem rises_step {l : List Row} (h : rises l = true) {i : Nat} (hi : i + 1 < l.length) : ltR (idx l (i : Int)) (idx l ((i + 1 : Nat) : Int)) = true := by
  unfold rises at h
  rw [List.all_eq_true] at h
  exact h i (by simp; omega)
theorem rises_lt {l : List Row} (h : rises l = true) {i : Nat} : ∀ d, i + d + 1 < l.length → ltR (idx l (i : Int)) (idx l ((i + d + 1 : Nat) : Int)) = true
  | 0, hd => rises_step h hd
  | d + 1, hd => by
    have h1 := ltR_iff.1 (rises_lt h (i := i) d (by omega))
    have h2 := ltR_iff.1 (rises_step h (i := i + d + 1) (by omega))
    rw [ltR_iff]
    rw [show i + (d + 1) + 1 = i + d + 1 + 1 by omega]
    omega
theorem rises_lt' {l : List Row} (h : rises l = true) {i j : Nat} (hij : i < j) (hj : j < l.length) : ltR (idx l (i : Int)) (idx l (j : Int)) = true := by
  have := rises_lt h (i := i) (j - i - 1) (by omega)
  rwa [show i + (j - i - 1) + 1 = j by omega] at this
def pos : List Row → Row → Nat
  | [], _ => 0
  | x :: r, t => if ltR x t = true then pos r t + 1 else 0
theorem pos_le : ∀ (l : List Row) (t : Row), pos l t ≤ l.length
  | [], _ => by simp [pos]
  | x :: r, t => by
    have := pos_le r t
    rw [pos, List.length_cons]
    split <;> omega
theorem pos_before : ∀ (l : List Row) (t : Row) {i : Nat}, i < pos l t → ltR (idx l (i : Int)) t = true
  | [], _, i, h => by simp [pos] at h
  | x :: r, t, i, h => by
    rw [pos] at h
    split at h
    · rename_i hx
      cases i with
      | zero => exact hx
      | succ i =>
        have := pos_before r t (i := i) (by omega)
        rw [idx_nat] at this ⊢
        simpa using this
    · omega
theorem pos_at : ∀ (l : List Row) (t : Row), pos l t < l.length → ltR (idx l (pos l t : Int)) t = false
  | [], _, h => by simp at h
  | x :: r, t, h => by
    rw [pos] at h ⊢
    split at h
    · rename_i hx
      have := pos_at r t (by simpa using h)
      rw [if_pos hx, idx_nat] at *
      simpa using this
    · rename_i hx
      rw [if_neg hx, idx_nat]
      simpa using hx
theorem pos_behind {l : List Row} (hr : rises l = true) (t : Row) {i : Nat} (h : pos l t ≤ i) (hi : i < l.length) : ltR (idx l (i : Int)) t = false := by
  have h0 := pos_at l t (by omega)
  rcases Nat.lt_or_ge (pos l t) i with h1 | h1
  · have h2 := ltR_iff.1 (rises_lt' hr h1 hi)
    rw [ltR_false] at h0 ⊢
    omega
  · rw [show i = pos l t by omega]; exact h0
theorem pos_eq {l : List Row} (hr : rises l = true) (t : Row) {n : Nat} (hn : n ≤ l.length) (h1 : ∀ i, i < n → ltR (idx l (i : Int)) t = true) (h2 : ∀ i, n ≤ i → i < l.length → ltR (idx l (i : Int)) t = false) : pos l t = n := by
  rcases Nat.lt_trichotomy (pos l t) n with h | h | h
  · have := pos_at l t (by omega)
    rw [h1 _ h] at this; cases this
  · exact h
  · have := pos_before l t h
    rw [h2 n (Nat.le_refl _) (by have := pos_le l t; omega)] at this; cases this
def there (l : List Row) (t : Row) : Bool := decide (pos l t < l.length) && decide (ordR (idx l (pos l t : Int)) t = 0)
theorem mid_nat (i j : Nat) (h : i + j < 2 ^ 63) : (wshr (BitVec.ofInt 64 ((i : Int) + (j : Int))) (1 : Int)).toNat = (i + j) / 2 := by
  show (BitVec.ofInt 64 ((i : Int) + (j : Int)) >>> 1).toNat = _
  rw [BitVec.toNat_ushiftRight, show (i : Int) + (j : Int) = ((i + j : Nat) : Int) by omega, ofInt_nat, Nat.mod_eq_of_lt (by omega), Nat.shiftRight_eq_div_pow]
theorem Bin_ok {l : List Row} (hr : rises l = true) (hl : l.length ≤ 1000000) (t : Row) : g_slices_BinarySearchFunc_api_Row_api_Row_api_Row l t (fun y0 y1 => g_page_order y0 y1) = some ((pos l t : Int), there l t) := by
  refine theC_eq (.next rfl ?_)
  have key : ∀ k i j, j - i = k → i ≤ j → j ≤ l.length → (∀ x, x < i → ltR (idx l (x : Int)) t = true) → (∀ x, j ≤ x → x < l.length → ltR (idx l (x : Int)) t = false) →
      Comes (step_slices_BinarySearchFunc_api_Row_api_Row_api_Row l t (fun y0 y1 => g_page_order y0 y1)) (.L1 (i : Int) (j : Int)) ((pos l t : Int), there l t) := by
    intro k
    induction k using Nat.strongRecOn with
    | ind k ih =>
      intro i j hk hij hj h1 h2
      by_cases hlt : i < j
      · have hm := mid_nat i j (by omega)
        have hm1 : i ≤ (i + j) / 2 := by omega
        have hm2 : (i + j) / 2 < j := by omega
        cases hc : ltR (idx l (((i + j) / 2 : Nat) : Int)) t with
        | true =>
          refine .next (c' := .L1 (((i + j) / 2 + 1 : Nat) : Int) (j : Int)) ?_ (ih (j - ((i + j) / 2 + 1)) (by omega) _ _ rfl (by omega) hj (fun x hx => ?_) h2)
          · simp only [step_slices_BinarySearchFunc_api_Row_api_Row_api_Row]
            rw [decide_eq_true (by omega), cond_true, gO_pos (by unfold inI; omega), hm, gO_pos (inI_nat (by omega)), gO_pos (by omega), order_ok, Option.bind_some, show decide (ordR (idx l (((i + j) / 2 : Nat) : Int)) t < 0) = true from hc, cond_true, gO_pos (by unfold inI; omega)]
            rfl
          · rcases Nat.lt_or_ge x ((i + j) / 2) with h | h
            · have h3 := ltR_iff.1 (rises_lt' hr h (by omega))
              have h4 := ltR_iff.1 hc
              rw [ltR_iff]; omega
            · rw [show x = (i + j) / 2 by omega]; exact hc
        | false =>
          refine .next (c' := .L1 (i : Int) (((i + j) / 2 : Nat) : Int)) ?_ (ih ((i + j) / 2 - i) (by omega) _ _ rfl (by omega) (by omega) h1 (fun x hx hx2 => ?_))
          · simp only [step_slices_BinarySearchFunc_api_Row_api_Row_api_Row]
            rw [decide_eq_true (by omega), cond_true, gO_pos (by unfold inI; omega), hm, gO_pos (inI_nat (by omega)), gO_pos (by omega), order_ok, Option.bind_some, show decide (ordR (idx l (((i + j) / 2 : Nat) : Int)) t < 0) = false from hc, cond_false]
          · rcases Nat.lt_or_ge ((i + j) / 2) x with h | h
            · have h3 := ltR_iff.1 (rises_lt' hr h hx2)
              rw [ltR_false] at hc ⊢
              omega
            · rw [show x = (i + j) / 2 by omega]; exact hc
      · have hp : pos l t = i := pos_eq hr t (by omega) h1 (fun x hx hx2 => h2 x (by omega) hx2)
        refine .stop ?_
        simp only [step_slices_BinarySearchFunc_api_Row_api_Row_api_Row]
        rw [decide_eq_false (by omega), cond_false, gO_pos (fun h => by simp only [decide_eq_true_eq] at h; omega)]
        unfold there
        rw [hp]
        by_cases hi : i < l.length
        · rw [decide_eq_true (show (i : Int) < (l.length : Int) by omega)]
          simp [hi, order_ok]
        · rw [decide_eq_false (show ¬ (i : Int) < (l.length : Int) by omega)]
          simp [hi]
  exact key _ 0 l.length rfl (by omega) (Nat.le_refl _) (fun x hx => by omega) (fun x hx hx2 => by omega)
def keyR (x : Arr 32 UInt8) (e : Int) : Row := ⟨x, e, []⟩
theorem pos_key (r : Row) : ∀ l : List Row, pos l (keyR r.fSum r.fEpoch) = pos l r
  | [] => rfl
  | x :: l => by
    have := pos_key r l
    rw [pos, pos, this]; rfl
theorem there_key (l : List Row) (r : Row) : there l (keyR r.fSum r.fEpoch) = there l r := by
  unfold there; rw [pos_key]; rfl
theorem Find_ok {l : List Row} (hr : rises l = true) (hl : l.length ≤ 1000000) (r : Row) : g_page_Find l r.fSum r.fEpoch = some ((pos l r : Int), there l r) := by
  unfold g_page_Find
  rw [show (⟨r.fSum, r.fEpoch, []⟩ : Row) = keyR r.fSum r.fEpoch from rfl, Bin_ok hr hl, Option.bind_some, pos_key, there_key]
theorem Clone_ok (l : List Row) (hl : l.length ≤ 1000000) : g_slices_Clone_api_Row_api_Row l = some l := by
  unfold g_slices_Clone_api_Row_api_Row
  rw [gO_pos (by simp; omega), List.nil_append]
theorem Grow_ok (n : Nat) (hn : n ≤ 3000000) : g_slices_Grow_api_Row_api_Row0 (n : Int) = some [] := by
  unfold g_slices_Grow_api_Row_api_Row0
  rw [decide_eq_false (by omega), cond_false, gO_pos (by decide), gO_pos (by unfold inI; omega)]
  by_cases h : 0 < n
  · rw [decide_eq_true (by omega), cond_true, gO_pos (by omega)]
  · rw [decide_eq_false (by omega), cond_false]
theorem flat_take_le {α : Type} (L : List (List α)) (i : Nat) : ((L.take i).flatten).length ≤ L.flatten.length := by
  conv => rhs; rw [← List.take_append_drop i L, List.flatten_append, List.length_append]
  omega
theorem Concat_ok (L : List (List Row)) (h1 : L.length ≤ 1000) (h2 : L.flatten.length ≤ 3000000) : g_slices_Concat_api_Row_api_Row L = some L.flatten := by
  refine theC_eq (.next rfl ?_)
  have fl : ∀ i, i < L.length → (L.take (i + 1)).flatten = (L.take i).flatten ++ idx L (i : Int) := fun i hi => by rw [take_idx L hi, List.flatten_append]; simp
  have e2 : Comes (step_slices_Concat_api_Row_api_Row L) (.L2 [] 0) L.flatten := by
    have := Comes.upto (step := step_slices_Concat_api_Row_api_Row L) (r := L.flatten) (fun i => .L2 (L.take i).flatten (i : Int)) L.length (fun i hi => by
      have h3 := flat_take_le L (i + 1)
      rw [fl i hi, List.length_append] at h3
      simp only [step_slices_Concat_api_Row_api_Row]
      rw [decide_eq_true (by omega), cond_true, gO_pos (by omega), gO_pos (by omega), gO_pos (by unfold inI; omega), fl i hi]
      rfl) (.stop (by
      simp only [step_slices_Concat_api_Row_api_Row]
      rw [decide_eq_false (by omega), cond_false, List.take_of_length_le (Nat.le_refl _)]))
    simpa using this
  have := Comes.upto (step := step_slices_Concat_api_Row_api_Row L) (r := L.flatten) (fun i => .L1 ((L.take i).flatten.length : Int) (i : Int)) L.length (fun i hi => by
    have h3 := flat_take_le L (i + 1)
    rw [fl i hi, List.length_append] at h3
    simp only [step_slices_Concat_api_Row_api_Row]
    rw [decide_eq_true (by omega), cond_true, gO_pos (by omega), gO_pos (by unfold inI; omega), decide_eq_false (by omega), cond_false, gO_pos (by unfold inI; omega), fl i hi, List.length_append]
    rfl) (.next (c' := .L2 [] 0) (by
    simp only [step_slices_Concat_api_Row_api_Row]
    rw [decide_eq_false (by omega), cond_false, List.take_of_length_le (Nat.le_refl _), Grow_ok _ h2]; rfl) e2)
  simpa using this
def insR (l : List Row) (r : Row) : List Row := if there l r = true then l else l.take (pos l r) ++ r :: l.drop (pos l r)
theorem Insert_ok {l : List Row} (hr : rises l = true) (hl : l.length ≤ 1000000) (r : Row) : g_page_Insert l r = some (insR l r, !there l r) := by
  have hp := pos_le l r
  unfold g_page_Insert insR
  rw [Find_ok hr hl, Option.bind_some]
  cases h : there l r with
  | true => simp only [cond_true, Clone_ok l hl, Option.bind_some, if_true, Bool.not_true]
  | false =>
    simp only [cond_false, if_false, Bool.false_eq_true]
    rw [gO_pos (by omega), gO_pos (by omega), sub_pre, sub_suf, Concat_ok _ (by simp) (by simp; omega)]
    simp
theorem Remove_ok (l : List Row) (hl : l.length ≤ 1000000) (i : Int) : g_page_Remove l i = some (if 0 ≤ i ∧ i < (l.length : Int) then l.take i.toNat ++ l.drop (i.toNat + 1) else l) := by
  unfold g_page_Remove
  by_cases h : 0 ≤ i ∧ i < (l.length : Int)
  · rw [decide_eq_false (by omega), decide_eq_false (by omega), Bool.or_false, cond_false, gO_pos (by omega), gO_pos (by unfold inI; omega), gO_pos (by omega), if_pos h]
    obtain ⟨n, rfl⟩ : ∃ n : Nat, i = (n : Int) := ⟨i.toNat, by omega⟩
    rw [sub_pre, show (n : Int) + 1 = ((n + 1 : Nat) : Int) by omega, sub_suf, Concat_ok _ (by simp) (by simp; omega)]
    simp
  · rw [if_neg h]
    have : (decide (i < 0) || decide ((l.length : Int) ≤ i)) = true := by
      rw [Bool.or_eq_true, decide_eq_true_eq, decide_eq_true_eq]; omega
    rw [this, cond_true, Clone_ok l hl]; rfl
theorem Split_ok (l : List Row) (hl : l.length ≤ 1000000) : g_page_Split l = some (l.take (l.length - l.length / 2), l.drop (l.length - l.length / 2)) := by
  unfold g_page_Split
  have e : (l.length : Int).tdiv 2 = ((l.length / 2 : Nat) : Int) := rfl
  have e2 : (l.length : Int) - ((l.length / 2 : Nat) : Int) = ((l.length - l.length / 2 : Nat) : Int) := by omega
  rw [e, e2, gO_pos ⟨by decide, inI_nat (by omega)⟩, gO_pos (inI_nat (by omega)), gO_pos (by omega), sub_pre, Clone_ok _ (by rw [List.length_take]; omega), Option.bind_some, gO_pos (by omega), sub_suf, Clone_ok _ (by rw [List.length_drop]; omega)]
  rfl
end Go.Proofs.Ythpgedneniekmaa.K
