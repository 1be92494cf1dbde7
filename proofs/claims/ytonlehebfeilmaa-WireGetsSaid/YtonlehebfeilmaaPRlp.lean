/- Package rlp: what it reckons, in plain words. -/
import Derived.Test.YtonlehebfeilmaaWR05
namespace Go.Proofs.Ytonlehebfeilmaa.K
open Go Go.RowKit
set_option linter.unusedSimpArgs false
set_option linter.unusedVariables false

theorem idx_nat {α : Type} [Inhabited α] {l : List α} {i : Nat} (h : i < l.length) : idx l (i : Int) = l[i] := by
  simp [idx, List.getD_eq_getElem?_getD, List.getElem?_eq_getElem h]

/-! ### A number's bytes, the highest first -/
def bigN (n : Nat) : List UInt8 := if h : n = 0 then [] else bigN (n / 256) ++ [UInt8.ofNat (n % 256)]
termination_by n
decreasing_by omega
theorem bigN_zero : bigN 0 = [] := by rw [bigN]; rfl
theorem bigN_pos {n : Nat} (h : n ≠ 0) : bigN n = bigN (n / 256) ++ [UInt8.ofNat (n % 256)] := by rw [bigN, dif_neg h]
theorem bigN_len : ∀ (k n : Nat), n < 256 ^ k → (bigN n).length ≤ k
  | 0, n, h => by
    have : n = 0 := by simpa using h
    subst this; rw [bigN_zero]; exact Nat.le_refl _
  | k + 1, n, h => by
    by_cases hn : n = 0
    · subst hn; rw [bigN_zero]; exact Nat.zero_le _
    · have : n / 256 < 256 ^ k := by rw [Nat.pow_succ] at h; omega
      have := bigN_len k _ this
      rw [bigN_pos hn, List.length_append, List.length_singleton]; omega
theorem u8I_nat (n : Nat) : u8I (n : Int) = UInt8.ofNat (n % 256) := by
  unfold u8I
  congr 1
theorem shrI8 (n : Nat) : shrI (n : Int) 8 = ((n / 256 : Nat) : Int) := by
  unfold shrI
  have : min (8 : Int).toNat 64 = 8 := by decide
  rw [this, Int.fdiv_eq_ediv_of_nonneg _ (by decide)]
  norm_cast

/-- What stands ahead of k bytes. -/
def hdC (l : Bool) : Nat := if l then 192 else 128
def hd (l : Bool) (k : Nat) : List UInt8 := if k < 56 then [UInt8.ofNat ((hdC l + k) % 256)] else UInt8.ofNat ((hdC l + 55 + (bigN k).length) % 256) :: bigN k

theorem Head_L2 (n0 : Int) (l : Bool) (c : Nat) (hc : c ≤ 200) : ∀ (k n : Nat) (b : List UInt8), n < 256 ^ k → b.length + k ≤ 1000 →
    Comes (step_rlp_Head n0 l) (.L2 (n : Int) (c : Int) b) (UInt8.ofNat ((c + 55 + (bigN n ++ b).length) % 256) :: (bigN n ++ b)) := by
  have stop : ∀ b : List UInt8, b.length ≤ 1000 → Comes (step_rlp_Head n0 l) (.L2 ((0 : Nat) : Int) (c : Int) b) (UInt8.ofNat ((c + 55 + (bigN 0 ++ b).length) % 256) :: (bigN 0 ++ b)) := by
    intro b hb
    refine Comes.stop ?_
    simp only [step_rlp_Head]
    have e : (c : Int) + 55 + (b.length : Int) = ((c + 55 + b.length : Nat) : Int) := by omega
    rw [decide_eq_false (by omega), cond_false, gO_pos (by unfold inI; omega), gO_pos (by unfold inI; omega), gO_pos (by simp; omega), e, u8I_nat, bigN_zero]
    rfl
  intro k
  induction k with
  | zero =>
    intro n b hn hb
    have : n = 0 := by simpa using hn
    subst this
    exact stop b (by omega)
  | succ k ih =>
    intro n b hn hb
    by_cases h0 : n = 0
    · subst h0; exact stop b (by omega)
    · have hk : n / 256 < 256 ^ k := by rw [Nat.pow_succ] at hn; omega
      have := ih (n / 256) ([u8I (n : Int)] ++ b) hk (by simp; omega)
      rw [bigN_pos h0, List.append_assoc, ← u8I_nat]
      refine Comes.next ?_ this
      simp only [step_rlp_Head]
      rw [decide_eq_true (by omega), cond_true, gO_pos (by simp; omega), shrI8]

theorem Head_ok (n : Int) (l : Bool) : g_rlp_Head n l = some (hd l (minI (maxI n 0) 4294967296).toNat) := by
  refine theC_eq ?_
  obtain ⟨k, hk⟩ : ∃ k : Nat, minI (maxI n 0) 4294967296 = (k : Int) := ⟨(minI (maxI n 0) 4294967296).toNat, by unfold minI maxI; repeat' split <;> omega⟩
  have hle : k ≤ 4294967296 := by
    have : minI (maxI n 0) 4294967296 ≤ 4294967296 := by unfold minI; split <;> omega
    omega
  have hv : (bif l then some (192 : Int) else some 128) = some ((hdC l : Nat) : Int) := by cases l <;> rfl
  have hc : hdC l ≤ 200 := by cases l <;> decide
  rw [hk, Int.toNat_natCast]
  unfold hd
  split
  · rename_i h
    refine Comes.stop ?_
    simp only [step_rlp_Head, hk, hv, Option.bind_some]
    rw [decide_eq_true (by omega), cond_true, gO_pos (by unfold inI; omega), show ((hdC l : Nat) : Int) + (k : Int) = ((hdC l + k : Nat) : Int) by omega, u8I_nat]
  · rename_i h
    have := Head_L2 n l (hdC l) hc 5 k [] (by have : (256 : Nat) ^ 5 = 1099511627776 := by decide
                                              omega) (by simp)
    rw [List.append_nil] at this
    refine Comes.next ?_ this
    simp only [step_rlp_Head, hk, hv, Option.bind_some]
    rw [decide_eq_false (by omega), cond_false]

theorem big_rec : ∀ (m k n : Nat), k < m → n < 256 ^ k → n < 2 ^ 62 → rec_ref05_big m (n : Int) = some (bigN n) := by
  intro m
  induction m with
  | zero => intro k n h; omega
  | succ m ih =>
    intro k n hk hn h62
    show gs_ref05_big (rec_ref05_big m) (n : Int) = _
    unfold gs_ref05_big
    by_cases h0 : n = 0
    · subst h0
      rw [bigN_zero]; rfl
    · obtain ⟨j, rfl⟩ : ∃ j, k = j + 1 := by
        cases k with
        | zero => have : n = 0 := by simpa using hn
                  exact absurd this h0
        | succ j => exact ⟨j, rfl⟩
      have hj : n / 256 < 256 ^ j := by rw [Nat.pow_succ] at hn; omega
      have e : (n : Int).tdiv 256 = ((n / 256 : Nat) : Int) := by
        rw [Int.tdiv_eq_ediv_of_nonneg (by omega)]; omega
      have e2 : (n : Int).tmod 256 = ((n % 256 : Nat) : Int) := by
        rw [Int.tmod_eq_emod_of_nonneg (by omega)]; omega
      have hl := bigN_len j _ hj
      have hl2 : (bigN (n / 256)).length ≤ 8 := bigN_len 8 _ (by have : (256 : Nat) ^ 8 = 2 ^ 64 := by decide
                                                                 omega)
      rw [decide_eq_false (by omega), cond_false, e, e2, gO_pos ⟨by decide, by unfold inI; omega⟩, ih j _ (by omega) hj (by omega), Option.bind_some, gO_pos (by simp; omega), u8I_nat, Nat.mod_mod, bigN_pos h0]
theorem big_ok (n : Nat) (h : n < 2 ^ 62) : g_ref05_big (n : Int) = some (bigN n) :=
  theR_eq 9 fun m hm => big_rec m 8 n (by omega) (by have : (256 : Nat) ^ 8 = 2 ^ 64 := by decide
                                                     omega) h
theorem RHead_ok (n : Nat) (l : Bool) (h : n < 2 ^ 62) : g_ref05_Head (n : Int) l = some (hd l n) := by
  have hv : (bif l then some (192 : Int) else some 128) = some ((hdC l : Nat) : Int) := by cases l <;> rfl
  have hc : hdC l ≤ 200 := by cases l <;> decide
  unfold g_ref05_Head hd
  rw [hv, Option.bind_some]
  have hl2 : (bigN n).length ≤ 8 := bigN_len 8 _ (by have : (256 : Nat) ^ 8 = 2 ^ 64 := by decide
                                                     omega)
  split
  · rename_i h
    rw [decide_eq_true (by omega), cond_true, gO_pos (by unfold inI; omega), show ((hdC l : Nat) : Int) + (n : Int) = ((hdC l + n : Nat) : Int) by omega, u8I_nat]
  · rename_i h'
    rw [decide_eq_false (by omega), cond_false, big_ok n h, Option.bind_some, gO_pos (by unfold inI; omega), gO_pos (by unfold inI; omega), gO_pos (by simp; omega),
      show ((hdC l : Nat) : Int) + 55 + ((bigN n).length : Int) = ((hdC l + 55 + (bigN n).length : Nat) : Int) by omega, u8I_nat]
    rfl

/-! ### Items -/
/-- An item of at most n levels, each of whose rows may be. -/
def OKn : Nat → Item → Prop
  | 0, _ => False
  | n + 1, x => x.fL.length ≤ 9223372036854775807 ∧ x.fS.length ≤ 9223372036854775807 ∧ ∀ y ∈ x.fL, OKn n y
theorem OKn.mono : ∀ {n m : Nat} {x : Item}, OKn n x → n ≤ m → OKn m x
  | n + 1, m + 1, x, h, hm => ⟨h.1, h.2.1, fun y hy => OKn.mono (h.2.2 y hy) (by omega)⟩
  | n + 1, 0, x, h, hm => by omega

open Classical in
/-- Are they the same? -/
noncomputable def sm {α : Type} (a b : α) : Bool := decide (a = b)
theorem sm_self {α : Type} (a : α) : sm a a = true := by simp [sm]
theorem sm_iff {α : Type} {a b : α} : sm a b = true ↔ a = b := by simp [sm]
theorem sm_ne {α : Type} {a b : α} (h : a ≠ b) : sm a b = false := by simp [sm, h]
theorem sm_cons {α : Type} {a b : α} {l k : List α} : sm (a :: l) (b :: k) = (sm a b && sm l k) := by
  by_cases h : a = b <;> by_cases h2 : l = k <;> simp [sm, h, h2]
theorem sm_item (a b : Item) : sm a b = (((a.fList == b.fList) && (a.fS == b.fS)) && sm a.fL b.fL) := by
  obtain ⟨l, s, r⟩ := a
  obtain ⟨l', s', r'⟩ := b
  unfold sm
  by_cases h1 : l = l' <;> by_cases h2 : s = s' <;> by_cases h3 : r = r' <;> simp only [Item.mk.injEq, h1, h2, h3, beq_self_eq_true, and_self, and_true, true_and, and_false, false_and, decide_true, decide_false, Bool.and_self, Bool.and_true, Bool.and_false, Bool.false_and, beq_eq_false_iff_ne.2, ne_eq, not_false_eq_true]

theorem EqualFunc_L1 (v w : List Item) (f : Item → Item → Option Bool) (hf : ∀ x ∈ v, ∀ y, f x y = some (sm x y)) (hv : v.length ≤ 9223372036854775807) (hw : v.length = w.length) (k : Nat) : ∀ i, k + i = v.length →
    Comes (step_slices_EqualFunc_api_Item_api_Item_api_Item_api_Item v w f) (.L1 (i : Int)) (sm (v.drop i) (w.drop i)) := by
  induction k with
  | zero =>
    intro i hi
    refine Comes.stop ?_
    simp only [step_slices_EqualFunc_api_Item_api_Item_api_Item_api_Item]
    rw [decide_eq_false (by omega), cond_false, List.drop_eq_nil_of_le (by omega), List.drop_eq_nil_of_le (by omega), sm_self]
  | succ k ih =>
    intro i hi
    have h1 : i < v.length := by omega
    have h2 : i < w.length := by omega
    have e := hf v[i] (List.getElem_mem h1) w[i]
    rw [List.drop_eq_getElem_cons h1, List.drop_eq_getElem_cons h2, sm_cons]
    cases hx : sm v[i] w[i] with
    | false =>
      refine Comes.stop ?_
      simp only [step_slices_EqualFunc_api_Item_api_Item_api_Item_api_Item]
      rw [decide_eq_true (by omega), cond_true, gO_pos (by omega), gO_pos (by omega), idx_nat h1, idx_nat h2, e, hx]
      rfl
    | true =>
      refine Comes.next (c' := .L1 ((i + 1 : Nat) : Int)) ?_ (ih (i + 1) (by omega))
      simp only [step_slices_EqualFunc_api_Item_api_Item_api_Item_api_Item]
      rw [decide_eq_true (by omega), cond_true, gO_pos (by omega), gO_pos (by omega), idx_nat h1, idx_nat h2, e, hx, Option.bind_some, Bool.not_true, cond_false, gO_pos (by unfold inI; omega)]
      rfl
theorem EqualFunc_ok (v w : List Item) (f : Item → Item → Option Bool) (hf : ∀ x ∈ v, ∀ y, f x y = some (sm x y)) (hv : v.length ≤ 9223372036854775807) :
    g_slices_EqualFunc_api_Item_api_Item_api_Item_api_Item v w f = some (sm v w) := by
  refine theC_eq ?_
  by_cases h : v.length = w.length
  · refine Comes.next (c' := .L1 ((0 : Nat) : Int)) ?_ (EqualFunc_L1 v w f hf hv h v.length 0 rfl)
    simp only [step_slices_EqualFunc_api_Item_api_Item_api_Item_api_Item]
    rw [decide_eq_true (by omega)]
    rfl
  · refine Comes.stop ?_
    simp only [step_slices_EqualFunc_api_Item_api_Item_api_Item_api_Item]
    rw [decide_eq_false (by omega), sm_ne (fun e => h (by rw [e]))]
    rfl

theorem Same_rec : ∀ (n m : Nat) (a b : Item), OKn n a → n ≤ m → rec_rlp_Same m a b = some (sm a b)
  | n + 1, 0, a, b, h, hm => by omega
  | n + 1, m + 1, a, b, h, hm => by
    show gs_rlp_Same (rec_rlp_Same m) a b = _
    unfold gs_rlp_Same
    rw [sm_item]
    cases hq : ((a.fList == b.fList) && (a.fS == b.fS)) with
    | false => rfl
    | true =>
      rw [show (true == true) = true from rfl, cond_true, EqualFunc_ok a.fL b.fL _ (fun x hx y => Same_rec n m x y (h.2.2 x hx) (by omega)) h.1]
      rfl
theorem Same_ok {n : Nat} (a b : Item) (h : OKn n a) : g_rlp_Same a b = some (sm a b) := theR_eq n fun m hm => Same_rec n m a b h hm

theorem RSame_L1 (a b : Item) (f : Item → Item → Option Bool) (hf : ∀ x ∈ a.fL, ∀ y, f x y = some (sm x y)) (hv : a.fL.length ≤ 9223372036854775807) (hw : a.fL.length = b.fL.length) (k : Nat) : ∀ i, k + i = a.fL.length →
    Comes (step_ref05_Same f a b) (.L1 (i : Int)) (sm (a.fL.drop i) (b.fL.drop i)) := by
  induction k with
  | zero =>
    intro i hi
    refine Comes.stop ?_
    simp only [step_ref05_Same]
    rw [decide_eq_false (by omega), cond_false, List.drop_eq_nil_of_le (by omega), List.drop_eq_nil_of_le (by omega), sm_self]
  | succ k ih =>
    intro i hi
    have h1 : i < a.fL.length := by omega
    have h2 : i < b.fL.length := by omega
    have e := hf a.fL[i] (List.getElem_mem h1) b.fL[i]
    rw [List.drop_eq_getElem_cons h1, List.drop_eq_getElem_cons h2, sm_cons]
    cases hx : sm a.fL[i] b.fL[i] with
    | false =>
      refine Comes.stop ?_
      simp only [step_ref05_Same]
      rw [decide_eq_true (by omega), cond_true, gO_pos (by omega), gO_pos (by omega), idx_nat h1, idx_nat h2, e, hx]
      rfl
    | true =>
      refine Comes.next (c' := .L1 ((i + 1 : Nat) : Int)) ?_ (ih (i + 1) (by omega))
      simp only [step_ref05_Same]
      rw [decide_eq_true (by omega), cond_true, gO_pos (by omega), gO_pos (by omega), idx_nat h1, idx_nat h2, e, hx, Option.bind_some, Bool.not_true, cond_false, gO_pos (by unfold inI; omega)]
      rfl
theorem RSame_rec : ∀ (n m : Nat) (a b : Item), OKn n a → n ≤ m → rec_ref05_Same m a b = some (sm a b)
  | n + 1, 0, a, b, h, hm => by omega
  | n + 1, m + 1, a, b, h, hm => by
    show theC (step_ref05_Same (rec_ref05_Same m) a b) .S = _
    refine theC_eq ?_
    rw [sm_item]
    by_cases hq : (((a.fList == b.fList) && (a.fS == b.fS)) = true ∧ a.fL.length = b.fL.length)
    · obtain ⟨q1, q2⟩ := hq
      have h1 := q1
      rw [Bool.and_eq_true] at h1
      rw [q1, Bool.true_and]
      refine Comes.next (c' := .L1 ((0 : Nat) : Int)) ?_ (RSame_L1 a b _ (fun x hx y => RSame_rec n m x y (h.2.2 x hx) (by omega)) h.1 q2 _ 0 rfl)
      simp only [step_ref05_Same]
      rw [h1.1, h1.2, decide_eq_true (by omega)]
      rfl
    · have e : (((a.fList == b.fList) && (a.fS == b.fS)) && sm a.fL b.fL) = false := by
        cases q1 : ((a.fList == b.fList) && (a.fS == b.fS)) with
        | false => rfl
        | true =>
          rw [Bool.true_and]
          exact sm_ne fun e => hq ⟨q1, by rw [e]⟩
      rw [e]
      refine Comes.stop ?_
      simp only [step_ref05_Same]
      by_cases q2 : a.fL.length = b.fL.length
      · have q1 : ((a.fList == b.fList) && (a.fS == b.fS)) = false := by
          cases q1 : ((a.fList == b.fList) && (a.fS == b.fS)) with
          | false => rfl
          | true => exact absurd ⟨q1, q2⟩ hq
        rw [decide_eq_true (by omega)]
        cases h1 : (a.fList == b.fList) <;> cases h2 : (a.fS == b.fS) <;> simp [h1, h2] at q1 ⊢
      · rw [decide_eq_false (by omega)]
        cases h1 : (a.fList == b.fList) <;> cases h2 : (a.fS == b.fS) <;> simp
theorem RSame_ok {n : Nat} (a b : Item) (h : OKn n a) : g_ref05_Same a b = some (sm a b) := theR_eq n fun m hm => RSame_rec n m a b h hm

/-! ### How deep, and how many -/
theorem wI_nat (i : Nat) (h : i < 9223372036854775807) : wI ((i : Int) + 1) = ((i + 1 : Nat) : Int) := by
  rw [wI_in (by unfold inI; omega)]; omega
theorem Size_same (f g : Item → Option (Int × Int)) (x : Item) (h : ∀ y ∈ x.fL, f y = g y) : gs_ref05_Size f x = gs_ref05_Size g x := by
  unfold gs_ref05_Size
  congr 1
  funext c
  cases c with
  | S => rfl
  | L1 a b i =>
    simp only [step_ref05_Size]
    congr 1
    unfold gO
    split
    · rename_i hi
      obtain ⟨j, rfl⟩ : ∃ j : Nat, i = (j : Int) := ⟨i.toNat, by omega⟩
      have hj : j < x.fL.length := by omega
      rw [idx_nat hj, h _ (List.getElem_mem hj)]
    · rfl
theorem High_ok (a b : Int) : g_ref01_High a b = some (if b < a then a else b) := by
  unfold g_ref01_High
  by_cases h : b < a
  · rw [decide_eq_true h, if_pos h]; rfl
  · rw [decide_eq_false h, if_neg h]; rfl
theorem Low_ok (a b : Int) : g_ref01_Low a b = some (if a < b then a else b) := by
  unfold g_ref01_Low
  by_cases h : a < b
  · rw [decide_eq_true h, if_pos h]; rfl
  · rw [decide_eq_false h, if_neg h]; rfl
theorem Size_L1 (f : Item → Option (Int × Int)) (x : Item) (hf : ∀ y ∈ x.fL, ∃ v, f y = some v) (hv : x.fL.length ≤ 9223372036854775807) (k : Nat) : ∀ (i : Nat) (a b : Int), k + i = x.fL.length →
    ∃ v, Comes (step_ref05_Size f x) (.L1 a b (i : Int)) v := by
  induction k with
  | zero =>
    intro i a b hi
    refine ⟨(a, b), Comes.stop ?_⟩
    simp only [step_ref05_Size]
    rw [decide_eq_false (by omega), cond_false]
  | succ k ih =>
    intro i a b hi
    have h1 : i < x.fL.length := by omega
    obtain ⟨u, hu⟩ := hf x.fL[i] (List.getElem_mem h1)
    obtain ⟨v, hv2⟩ := ih (i + 1) (if wI (u.1 + 1) < a then a else wI (u.1 + 1)) (wI (b + u.2)) (by omega)
    refine ⟨v, Comes.next ?_ hv2⟩
    simp only [step_ref05_Size]
    rw [decide_eq_true (by omega), cond_true, gO_pos (by omega), idx_nat h1, hu, Option.bind_some, High_ok, Option.bind_some, wI_nat i (by omega)]
theorem Size_rec : ∀ (n m : Nat) (x : Item), OKn n x → n ≤ m → rec_ref05_Size m x = rec_ref05_Size n x ∧ ∃ v, rec_ref05_Size n x = some v
  | n + 1, 0, x, h, hm => by omega
  | n + 1, m + 1, x, h, hm => by
    refine ⟨Size_same _ _ x fun y hy => (Size_rec n m y (h.2.2 y hy) (by omega)).1, ?_⟩
    obtain ⟨v, hv⟩ := Size_L1 (rec_ref05_Size n) x (fun y hy => (Size_rec n n y (h.2.2 y hy) (Nat.le_refl n)).2) h.1 _ 0 0 1 rfl
    refine ⟨v, theC_eq (Comes.next ?_ hv)⟩
    rfl
theorem Size_ok {n : Nat} (x : Item) (h : OKn n x) : ∃ v, g_ref05_Size x = some v := by
  obtain ⟨v, hv⟩ := (Size_rec n n x h (Nat.le_refl n)).2
  exact ⟨v, theR_eq n fun m hm => by rw [(Size_rec n m x h hm).1, hv]⟩
end Go.Proofs.Ytonlehebfeilmaa.K
