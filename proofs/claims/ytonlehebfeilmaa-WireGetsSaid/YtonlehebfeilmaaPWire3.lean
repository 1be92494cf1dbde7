/- The laws of layer 15: sizes, sameness, how large. -/
import Derived.Test.YtonlehebfeilmaaPWire2
import Derived.Test.YtonlehebfeilmaaWWireLaws
namespace Go.Proofs.Ytonlehebfeilmaa.K
open Go Go.RowKit
set_option linter.unusedSimpArgs false
set_option linter.unusedVariables false

/-! ### The same? -/
theorem sm_beq {a b : List UInt8} : (a == b) = sm a b := by
  by_cases h : a = b
  · subst h; simp [sm]
  · rw [sm_ne h]; simpa using h
theorem sm_int {a b : Int} : decide (a = b) = sm a b := by
  by_cases h : a = b
  · subst h; simp [sm]
  · rw [sm_ne h]; simpa using h
theorem sm_arr {a b : Arr 32 UInt8} : (a.1 == b.1) = sm a b := by
  by_cases h : a = b
  · subst h; simp [sm]
  · rw [sm_ne h]
    have : a.1 ≠ b.1 := fun e => h (Subtype.ext e)
    simpa using this
theorem Equal_L1 (v w : List (List UInt8)) (hv : v.length ≤ 9223372036854775807) (hw : v.length = w.length) (k : Nat) : ∀ i, k + i = v.length → Comes (step_slices_Equal_api_Proof_string v w) (.L1 (i : Int)) (sm (v.drop i) (w.drop i)) := by
  induction k with
  | zero =>
    intro i hi
    refine Comes.stop ?_
    simp only [step_slices_Equal_api_Proof_string]
    rw [decide_eq_false (by omega), cond_false, List.drop_eq_nil_of_le (by omega), List.drop_eq_nil_of_le (by omega), sm_self]
  | succ k ih =>
    intro i hi
    have h1 : i < v.length := by omega
    have h2 : i < w.length := by omega
    rw [List.drop_eq_getElem_cons h1, List.drop_eq_getElem_cons h2, sm_cons]
    cases hx : sm v[i] w[i] with
    | false =>
      refine Comes.stop ?_
      simp only [step_slices_Equal_api_Proof_string]
      rw [decide_eq_true (by omega), cond_true, gO_pos (by omega), gO_pos (by omega), idx_nat h1, idx_nat h2, sm_beq, hx]
      rfl
    | true =>
      refine Comes.next (c' := .L1 ((i + 1 : Nat) : Int)) ?_ (ih (i + 1) (by omega))
      simp only [step_slices_Equal_api_Proof_string]
      rw [decide_eq_true (by omega), cond_true, gO_pos (by omega), gO_pos (by omega), idx_nat h1, idx_nat h2, sm_beq, hx, Bool.not_true, cond_false, gO_pos (by unfold inI; omega)]
      rfl
theorem Equal_ok (v w : List (List UInt8)) (hv : v.length ≤ 9223372036854775807) : g_slices_Equal_api_Proof_string v w = some (sm v w) := by
  refine theC_eq ?_
  by_cases h : v.length = w.length
  · refine Comes.next (c' := .L1 ((0 : Nat) : Int)) ?_ (Equal_L1 v w hv h v.length 0 rfl)
    simp only [step_slices_Equal_api_Proof_string]
    rw [decide_eq_true (by omega)]; rfl
  · refine Comes.stop ?_
    simp only [step_slices_Equal_api_Proof_string]
    rw [decide_eq_false (by omega), sm_ne (fun e => h (by rw [e]))]; rfl
theorem R1Same_L1 (v w : List (List UInt8)) (hv : v.length ≤ 9223372036854775807) (hw : v.length = w.length) (k : Nat) : ∀ i, k + i = v.length → Comes (step_ref01_Same v w) (.L1 (i : Int)) (sm (v.drop i) (w.drop i)) := by
  induction k with
  | zero =>
    intro i hi
    refine Comes.stop ?_
    simp only [step_ref01_Same]
    rw [decide_eq_false (by omega), cond_false, List.drop_eq_nil_of_le (by omega), List.drop_eq_nil_of_le (by omega), sm_self]
  | succ k ih =>
    intro i hi
    have h1 : i < v.length := by omega
    have h2 : i < w.length := by omega
    rw [List.drop_eq_getElem_cons h1, List.drop_eq_getElem_cons h2, sm_cons]
    cases hx : sm v[i] w[i] with
    | false =>
      refine Comes.stop ?_
      simp only [step_ref01_Same]
      rw [decide_eq_true (by omega), cond_true, gO_pos (by omega), gO_pos (by omega), idx_nat h1, idx_nat h2, sm_beq, hx]
      rfl
    | true =>
      refine Comes.next (c' := .L1 ((i + 1 : Nat) : Int)) ?_ (ih (i + 1) (by omega))
      simp only [step_ref01_Same]
      rw [decide_eq_true (by omega), cond_true, gO_pos (by omega), gO_pos (by omega), idx_nat h1, idx_nat h2, sm_beq, hx, Bool.not_true, cond_false, gO_pos (by unfold inI; omega)]
      rfl
theorem R1Same_ok (v w : List (List UInt8)) (hv : v.length ≤ 9223372036854775807) : g_ref01_Same v w = some (sm v w) := by
  refine theC_eq ?_
  by_cases h : v.length = w.length
  · refine Comes.next (c' := .L1 ((0 : Nat) : Int)) ?_ (R1Same_L1 v w hv h v.length 0 rfl)
    simp only [step_ref01_Same]
    rw [decide_eq_true (by omega)]; rfl
  · refine Comes.stop ?_
    simp only [step_ref01_Same]
    rw [decide_eq_false (by omega), sm_ne (fun e => h (by rw [e]))]; rfl
theorem sm_link (a b : Link) : sm a b = (sm a.fEpoch b.fEpoch && sm a.fProof b.fProof) := by
  obtain ⟨e, p⟩ := a
  obtain ⟨e', p'⟩ := b
  by_cases h1 : e = e' <;> by_cases h2 : p = p' <;> simp [sm, h1, h2]
theorem sm_wit (a b : Witness) : sm a b = (sm a.fKey b.fKey && sm a.fLinks b.fLinks) := by
  obtain ⟨e, p⟩ := a
  obtain ⟨e', p'⟩ := b
  by_cases h1 : e = e' <;> by_cases h2 : p = p' <;> simp [sm, h1, h2]
theorem Same1_ok (x y : Link) (h : x.fProof.length ≤ 9223372036854775807) : g_wire_Same_1 x y = some (sm x y) := by
  unfold g_wire_Same_1
  rw [sm_link, sm_int, Equal_ok _ _ h]
  cases sm x.fEpoch y.fEpoch <;> rfl
/-- Rows that may be. -/
def RowsOK (w : Witness) : Prop := w.fLinks.length ≤ 9223372036854775807 ∧ ∀ l ∈ w.fLinks, l.fProof.length ≤ 9223372036854775807
theorem EqL_L1 (v w : List Link) (hf : ∀ x ∈ v, x.fProof.length ≤ 9223372036854775807) (hv : v.length ≤ 9223372036854775807) (hw : v.length = w.length) (k : Nat) : ∀ i, k + i = v.length →
    Comes (step_slices_EqualFunc_api_Link_api_Link_api_Link_api_Link v w (fun y0 y1 => g_wire_Same_1 y0 y1)) (.L1 (i : Int)) (sm (v.drop i) (w.drop i)) := by
  induction k with
  | zero =>
    intro i hi
    refine Comes.stop ?_
    simp only [step_slices_EqualFunc_api_Link_api_Link_api_Link_api_Link]
    rw [decide_eq_false (by omega), cond_false, List.drop_eq_nil_of_le (by omega), List.drop_eq_nil_of_le (by omega), sm_self]
  | succ k ih =>
    intro i hi
    have h1 : i < v.length := by omega
    have h2 : i < w.length := by omega
    have e := Same1_ok v[i] w[i] (hf _ (List.getElem_mem h1))
    rw [List.drop_eq_getElem_cons h1, List.drop_eq_getElem_cons h2, sm_cons]
    cases hx : sm v[i] w[i] with
    | false =>
      refine Comes.stop ?_
      simp only [step_slices_EqualFunc_api_Link_api_Link_api_Link_api_Link]
      rw [decide_eq_true (by omega), cond_true, gO_pos (by omega), gO_pos (by omega), idx_nat h1, idx_nat h2, e, hx]
      rfl
    | true =>
      refine Comes.next (c' := .L1 ((i + 1 : Nat) : Int)) ?_ (ih (i + 1) (by omega))
      simp only [step_slices_EqualFunc_api_Link_api_Link_api_Link_api_Link]
      rw [decide_eq_true (by omega), cond_true, gO_pos (by omega), gO_pos (by omega), idx_nat h1, idx_nat h2, e, hx, Option.bind_some, Bool.not_true, cond_false, gO_pos (by unfold inI; omega)]
      rfl
theorem WSame_ok (a b : Witness) (h : RowsOK a) : g_wire_Same a b = some (sm a b) := by
  have hE : g_slices_EqualFunc_api_Link_api_Link_api_Link_api_Link a.fLinks b.fLinks (fun y0 y1 => g_wire_Same_1 y0 y1) = some (sm a.fLinks b.fLinks) := by
    refine theC_eq ?_
    by_cases hl : a.fLinks.length = b.fLinks.length
    · refine Comes.next (c' := .L1 ((0 : Nat) : Int)) ?_ (EqL_L1 _ _ h.2 h.1 hl _ 0 rfl)
      simp only [step_slices_EqualFunc_api_Link_api_Link_api_Link_api_Link]
      rw [decide_eq_true (by omega)]; rfl
    · refine Comes.stop ?_
      simp only [step_slices_EqualFunc_api_Link_api_Link_api_Link_api_Link]
      rw [decide_eq_false (by omega), sm_ne (fun e => hl (by rw [e]))]; rfl
  unfold g_wire_Same
  rw [sm_wit, sm_arr, hE]
  cases sm a.fKey b.fKey <;> rfl
theorem R15Same_L1 (a b : Witness) (h9 : a.fLinks.length ≤ 9223372036854775807) (h2' : ∀ l ∈ a.fLinks, l.fProof.length ≤ 9223372036854775807) (hw : a.fLinks.length = b.fLinks.length) (k : Nat) : ∀ i, k + i = a.fLinks.length → Comes (step_ref15_Same a b) (.L1 (i : Int)) (sm (a.fLinks.drop i) (b.fLinks.drop i)) := by
  induction k with
  | zero =>
    intro i hi
    refine Comes.stop ?_
    simp only [step_ref15_Same]
    rw [decide_eq_false (by omega), cond_false, List.drop_eq_nil_of_le (by omega), List.drop_eq_nil_of_le (by omega), sm_self]
  | succ k ih =>
    intro i hi
    have h1 : i < a.fLinks.length := by omega
    have h2 : i < b.fLinks.length := by omega
    rw [List.drop_eq_getElem_cons h1, List.drop_eq_getElem_cons h2, sm_cons, sm_link]
    have e := R1Same_ok a.fLinks[i].fProof b.fLinks[i].fProof (h2' _ (List.getElem_mem h1))
    cases hx : sm a.fLinks[i].fEpoch b.fLinks[i].fEpoch with
    | false =>
      refine Comes.stop ?_
      simp only [step_ref15_Same]
      rw [decide_eq_true (by omega), cond_true, gO_pos (by omega), gO_pos (by omega), idx_nat h1, idx_nat h2, sm_int, hx, gO_pos (fun _ => by omega), gO_pos (fun _ => by omega)]
      simp
    | true =>
      cases hy : sm a.fLinks[i].fProof b.fLinks[i].fProof with
      | false =>
        refine Comes.stop ?_
        simp only [step_ref15_Same]
        rw [decide_eq_true (by omega), cond_true, gO_pos (by omega), gO_pos (by omega), idx_nat h1, idx_nat h2, sm_int, hx, gO_pos (fun _ => by omega), gO_pos (fun _ => by omega), e, hy]
        simp
      | true =>
        refine Comes.next (c' := .L1 ((i + 1 : Nat) : Int)) ?_ (ih (i + 1) (by omega))
        simp only [step_ref15_Same]
        rw [decide_eq_true (by omega), cond_true, gO_pos (by omega), gO_pos (by omega), idx_nat h1, idx_nat h2, sm_int, hx, gO_pos (fun _ => by omega), gO_pos (fun _ => by omega), e, hy, show ((!true) == false) = true from rfl, cond_true, Option.bind_some, show ((!true) || (!true)) = false from rfl, cond_false, gO_pos (show inI ((i : Int) + 1) from by unfold inI; omega), show (i : Int) + 1 = ((i + 1 : Nat) : Int) from by omega]
theorem R15Same_ok (a b : Witness) (h : RowsOK a) : g_ref15_Same a b = some (sm a b) := by
  refine theC_eq ?_
  rw [sm_wit]
  cases hk : sm a.fKey b.fKey with
  | false =>
    refine Comes.stop ?_
    simp only [step_ref15_Same]
    rw [sm_arr, hk]; rfl
  | true =>
    rw [Bool.true_and]
    by_cases hl : a.fLinks.length = b.fLinks.length
    · refine Comes.next (c' := .L1 ((0 : Nat) : Int)) ?_ (R15Same_L1 a b h.1 h.2 hl _ 0 rfl)
      simp only [step_ref15_Same]
      rw [sm_arr, hk, decide_eq_true (by omega)]; rfl
    · refine Comes.stop ?_
      simp only [step_ref15_Same]
      rw [sm_arr, hk, decide_eq_false (by omega), sm_ne (fun e => hl (by rw [e]))]; rfl

/-! ### How many texts, and how many bytes -/
def bys (p : List (List UInt8)) : Nat := (p.map List.length).sum
def tsum (l : List Link) : Nat := (l.map fun x => x.fProof.length).sum
def bsum (l : List Link) : Nat := (l.map fun x => bys x.fProof).sum
theorem bys_cons (s : List UInt8) (r : List (List UInt8)) : bys (s :: r) = s.length + bys r := by simp [bys]
theorem tsum_cons (l : Link) (r : List Link) : tsum (l :: r) = l.fProof.length + tsum r := by simp [tsum]
theorem bsum_cons (l : Link) (r : List Link) : bsum (l :: r) = bys l.fProof + bsum r := by simp [bsum]
theorem Bytes_ok (p : List (List UInt8)) (hp : p.length ≤ 2 ^ 40) (hb : bys p ≤ 2 ^ 40) : g_ref13_Bytes p = some ((bys p : Nat) : Int) := by
  have loop : ∀ (k i a : Nat), k + i = p.length → a + bys (p.drop i) ≤ 2 ^ 40 → Comes (step_ref13_Bytes p) (.L1 (a : Int) (i : Int)) ((a + bys (p.drop i) : Nat) : Int) := by
    intro k
    induction k with
    | zero =>
      intro i a hi ha
      refine Comes.stop ?_
      rw [List.drop_eq_nil_of_le (by omega)]
      simp only [step_ref13_Bytes]
      rw [decide_eq_false (by omega), cond_false]; simp [bys]
    | succ k ih =>
      intro i a hi ha
      have h1 : i < p.length := by omega
      rw [List.drop_eq_getElem_cons h1, bys_cons] at ha ⊢
      have := ih (i + 1) (a + p[i].length) (by omega) (by omega)
      rw [Nat.add_assoc] at this
      refine Comes.next ?_ this
      simp only [step_ref13_Bytes]
      rw [decide_eq_true (by omega), cond_true, gO_pos (by omega), idx_nat h1, gO_pos (by unfold inI; omega), gO_pos (by unfold inI; omega)]
      rfl
  refine theC_eq ?_
  have := loop _ 0 0 rfl (by rw [List.drop_zero]; omega)
  rw [List.drop_zero, Nat.zero_add] at this
  exact Comes.next rfl this
theorem Size_L2 (w : Witness) (p : List (List UInt8)) (hp : p.length ≤ 2 ^ 40) (i : Nat) (hi : i ≤ 2 ^ 40) (r : Int × Int) (k : Nat) : ∀ (j a b : Nat), k + j = p.length → a + (p.length - j) ≤ 2 ^ 40 → b + bys (p.drop j) ≤ 2 ^ 40 →
    Comes (step_wire_Size w) (.L1 ((a + (p.length - j) : Nat) : Int) ((b + bys (p.drop j) : Nat) : Int) ((i + 1 : Nat) : Int)) r → Comes (step_wire_Size w) (.L2 (a : Int) (b : Int) (i : Int) p (p.length : Int) (j : Int)) r := by
  induction k with
  | zero =>
    intro j a b hj ha hb hn
    rw [List.drop_eq_nil_of_le (by omega)] at hn
    have e1 : a + (p.length - j) = a := by omega
    have e2 : b + bys [] = b := by simp [bys]
    rw [e1, e2] at hn
    refine Comes.next ?_ hn
    simp only [step_wire_Size]
    rw [decide_eq_false (by omega), cond_false, gO_pos (by unfold inI; omega)]
    rfl
  | succ k ih =>
    intro j a b hj ha hb hn
    have h1 : j < p.length := by omega
    rw [List.drop_eq_getElem_cons h1, bys_cons] at hb hn
    have e1 : a + (p.length - j) = a + 1 + (p.length - (j + 1)) := by omega
    rw [e1, ← Nat.add_assoc] at hn
    refine Comes.next ?_ (ih (j + 1) (a + 1) (b + p[j].length) (by omega) (by omega) (by omega) hn)
    simp only [step_wire_Size]
    rw [decide_eq_true (by omega), cond_true, gO_pos (by omega), idx_nat h1, gO_pos (by unfold inI; omega), gO_pos (by unfold inI; omega), gO_pos (by unfold inI; omega)]
    rfl
theorem WSize_L1 (w : Witness) (hl : w.fLinks.length ≤ 2 ^ 40) (k : Nat) : ∀ (i a b : Nat), k + i = w.fLinks.length → a + tsum (w.fLinks.drop i) ≤ 2 ^ 40 → b + bsum (w.fLinks.drop i) ≤ 2 ^ 40 →
    Comes (step_wire_Size w) (.L1 (a : Int) (b : Int) (i : Int)) (((a + tsum (w.fLinks.drop i) : Nat) : Int), ((b + bsum (w.fLinks.drop i) : Nat) : Int)) := by
  induction k with
  | zero =>
    intro i a b hi ha hb
    refine Comes.stop ?_
    rw [List.drop_eq_nil_of_le (by omega)]
    simp only [step_wire_Size]
    rw [decide_eq_false (by omega), cond_false]; simp [tsum, bsum]
  | succ k ih =>
    intro i a b hi ha hb
    have h1 : i < w.fLinks.length := by omega
    rw [List.drop_eq_getElem_cons h1, tsum_cons] at ha
    rw [List.drop_eq_getElem_cons h1, bsum_cons] at hb
    rw [List.drop_eq_getElem_cons h1, tsum_cons, bsum_cons, ← Nat.add_assoc, ← Nat.add_assoc]
    have := ih (i + 1) (a + w.fLinks[i].fProof.length) (b + bys w.fLinks[i].fProof) (by omega) (by omega) (by omega)
    refine Comes.next ?_ (Size_L2 w w.fLinks[i].fProof (by omega) i (by omega) _ _ 0 a b rfl (by omega) (by rw [List.drop_zero]; omega) (by rw [List.drop_zero, Nat.sub_zero]; exact this))
    simp only [step_wire_Size]
    rw [decide_eq_true (by omega), cond_true, gO_pos (by omega), idx_nat h1]
    rfl
theorem WSize_ok (w : Witness) (hl : w.fLinks.length ≤ 2 ^ 40) (h1 : tsum w.fLinks ≤ 2 ^ 40) (h2 : bsum w.fLinks ≤ 2 ^ 40) : g_wire_Size w = some (((tsum w.fLinks : Nat) : Int), ((bsum w.fLinks : Nat) : Int)) := by
  have := WSize_L1 w hl _ 0 0 0 rfl (by rw [List.drop_zero]; omega) (by rw [List.drop_zero]; omega)
  rw [List.drop_zero, Nat.zero_add, Nat.zero_add] at this
  exact theC_eq (Comes.next rfl this)

/-! ### Not far too great -/
def okLk (l : Link) : Prop := l.fProof.length ≤ 80 ∧ ∀ t ∈ l.fProof, t.length ≤ 700
def LightP (w : Witness) : Prop := w.fLinks.length ≤ 70 ∧ (∀ l ∈ w.fLinks, okLk l) ∧ tsum w.fLinks ≤ 300
theorem Light_L2 (w : Witness) (a : Nat) (i : Nat) (hi : i < w.fLinks.length) (h70 : w.fLinks.length ≤ 70) (b0 : Bool) (hn : Comes (step_law15_Light w) (.L1 (a : Int) ((i + 1 : Nat) : Int)) b0) (h80 : w.fLinks[i].fProof.length ≤ 80) (k : Nat) : ∀ j, k + j = w.fLinks[i].fProof.length →
    ∃ b, Comes (step_law15_Light w) (.L2 (a : Int) (i : Int) (j : Int)) b ∧ (b = true → (∀ t ∈ w.fLinks[i].fProof.drop j, t.length ≤ 700) ∧ b0 = true) := by
  induction k with
  | zero =>
    intro j hj
    refine ⟨b0, Comes.next ?_ hn, fun h => ⟨by rw [List.drop_eq_nil_of_le (by omega)]; simp, h⟩⟩
    simp only [step_law15_Light]
    rw [gO_pos (by omega), idx_nat hi, decide_eq_false (by omega), cond_false, gO_pos (by unfold inI; omega)]
    rfl
  | succ k ih =>
    intro j hj
    have h1 : j < w.fLinks[i].fProof.length := by omega
    by_cases hb : w.fLinks[i].fProof[j].length ≤ 700
    · obtain ⟨b, h2, h3⟩ := ih (j + 1) (by omega)
      refine ⟨b, Comes.next ?_ h2, fun h => ⟨?_, (h3 h).2⟩⟩
      · simp only [step_law15_Light]
        rw [gO_pos (by omega), idx_nat hi, decide_eq_true (by omega), cond_true, gO_pos (by omega), gO_pos (by omega), idx_nat h1, decide_eq_false (by omega), cond_false, gO_pos (by unfold inI; omega)]
        rfl
      · rw [List.drop_eq_getElem_cons h1]
        intro t ht
        rcases List.mem_cons.1 ht with rfl | ht
        · exact hb
        · exact (h3 h).1 t ht
    · refine ⟨false, Comes.stop ?_, fun h => by cases h⟩
      simp only [step_law15_Light]
      rw [gO_pos (by omega), idx_nat hi, decide_eq_true (by omega), cond_true, gO_pos (by omega), gO_pos (by omega), idx_nat h1, decide_eq_true (by omega), cond_true]
theorem Light_L1 (w : Witness) (h70 : w.fLinks.length ≤ 70) (k : Nat) : ∀ (i a : Nat), k + i = w.fLinks.length → a ≤ 80 * i →
    ∃ b, Comes (step_law15_Light w) (.L1 (a : Int) (i : Int)) b ∧ (b = true → (∀ l ∈ w.fLinks.drop i, okLk l) ∧ a + tsum (w.fLinks.drop i) ≤ 300) := by
  induction k with
  | zero =>
    intro i a hi ha
    refine ⟨decide ((a : Int) ≤ 300), Comes.stop ?_, fun h => ?_⟩
    · simp only [step_law15_Light]
      rw [decide_eq_false (by omega), cond_false]
    · rw [List.drop_eq_nil_of_le (by omega)]
      have := of_decide_eq_true h
      exact ⟨by simp, by simp [tsum]; omega⟩
  | succ k ih =>
    intro i a hi ha
    have h1 : i < w.fLinks.length := by omega
    by_cases h80 : w.fLinks[i].fProof.length ≤ 80
    · obtain ⟨b0, h2, h3⟩ := ih (i + 1) (a + w.fLinks[i].fProof.length) (by omega) (by omega)
      obtain ⟨b, h4, h5⟩ := Light_L2 w (a + w.fLinks[i].fProof.length) i h1 h70 b0 h2 h80 _ 0 rfl
      refine ⟨b, Comes.next ?_ h4, fun h => ?_⟩
      · simp only [step_law15_Light]
        rw [decide_eq_true (by omega), cond_true, gO_pos (by omega), idx_nat h1, decide_eq_false (by omega), cond_false, gO_pos (by omega), gO_pos (by unfold inI; omega)]
        rfl
      · obtain ⟨h6, h7⟩ := h5 h
        obtain ⟨h8, h9⟩ := h3 h7
        rw [List.drop_zero] at h6
        rw [List.drop_eq_getElem_cons h1, tsum_cons]
        refine ⟨fun l hl => ?_, by omega⟩
        rcases List.mem_cons.1 hl with rfl | hl
        · exact ⟨h80, h6⟩
        · exact h8 l hl
    · refine ⟨false, Comes.stop ?_, fun h => by cases h⟩
      simp only [step_law15_Light]
      rw [decide_eq_true (by omega), cond_true, gO_pos (by omega), idx_nat h1, decide_eq_true (by omega), cond_true]
theorem Light_ok (w : Witness) : ∃ b, g_law15_Light w = some b ∧ (b = true → LightP w) := by
  by_cases h : w.fLinks.length ≤ 70
  · obtain ⟨b, h1, h2⟩ := Light_L1 w h _ 0 0 rfl (by omega)
    refine ⟨b, theC_eq (Comes.next ?_ h1), fun hb => ?_⟩
    · simp only [step_law15_Light]
      rw [decide_eq_false (by omega)]; rfl
    · obtain ⟨h3, h4⟩ := h2 hb
      rw [List.drop_zero] at h3 h4
      exact ⟨h, h3, by omega⟩
  · refine ⟨false, theC_eq (Comes.stop ?_), fun h => by cases h⟩
    simp only [step_law15_Light]
    rw [decide_eq_true (by omega)]; rfl
end Go.Proofs.Ytonlehebfeilmaa.K
