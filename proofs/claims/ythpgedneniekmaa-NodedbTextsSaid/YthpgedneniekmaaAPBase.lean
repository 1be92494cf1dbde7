import Derived.Test.YthpgedneniekmaaAKJ
/- Plain laws for loops and for what the walks reckon. -/
namespace Go.Proofs.Ythpgedneniekmaa.K
open Go
set_option linter.unusedVariables false
set_option linter.unusedSimpArgs false
section
variable {C R : Type} {step : C → Option (C ⊕ R)}
theorem Comes.upto (P : Nat → C) (n : Nat) {r : R} (hs : ∀ i, i < n → step (P i) = some (.inl (P (i + 1)))) (he : Comes step (P n) r) : Comes step (P 0) r := by
  have : ∀ k, k ≤ n → Comes step (P (n - k)) r := by
    intro k
    induction k with
    | zero => intro _; exact he
    | succ k ih =>
      intro hk
      have h1 := ih (by omega)
      have h2 := hs (n - (k + 1)) (by omega)
      rw [show n - (k + 1) + 1 = n - k by omega] at h2
      exact .next h2 h1
  have := this n (Nat.le_refl _)
  rwa [Nat.sub_self] at this
theorem Comes.uptoC (P : Nat → C) (n : Nat) {r : R} (hs : ∀ i, i < n → Comes step (P (i + 1)) r → Comes step (P i) r) (he : Comes step (P n) r) : Comes step (P 0) r := by
  have : ∀ k, k ≤ n → Comes step (P (n - k)) r := by
    intro k
    induction k with
    | zero => intro _; exact he
    | succ k ih =>
      intro hk
      have h1 := ih (by omega)
      rw [show n - k = n - (k + 1) + 1 by omega] at h1
      exact hs _ (by omega) h1
  have := this n (Nat.le_refl _)
  rwa [Nat.sub_self] at this
theorem Comes.first (P : Nat → C) (q : Nat → Bool) (n : Nat) (f : Nat → R) (r : R) (hs : ∀ i, i < n → q i = false → step (P i) = some (.inl (P (i + 1)))) (hq : ∀ i, i < n → q i = true → step (P i) = some (.inr (f i))) (he : Comes step (P n) r) :
    Comes step (P 0) (match (List.range n).find? q with | some i => f i | none => r) := by
  have : ∀ k, k ≤ n → Comes step (P (n - k)) (match (List.range' (n - k) k).find? q with | some i => f i | none => r) := by
    intro k
    induction k with
    | zero => intro _; exact he
    | succ k ih =>
      intro hk
      have h1 := ih (by omega)
      rw [List.range'_succ, List.find?_cons]
      cases hc : q (n - (k + 1)) with
      | true => exact .stop (hq _ (by omega) hc)
      | false =>
        have h2 := hs (n - (k + 1)) (by omega) hc
        rw [show n - (k + 1) + 1 = n - k by omega] at h2 ⊢
        exact .next h2 h1
  have := this n (Nat.le_refl _)
  rwa [Nat.sub_self, ← List.range_eq_range'] at this
theorem Comes.ex (P : Nat → C) (q : Nat → Bool) (n : Nat) (f : Nat → R) (r : R) (hs : ∀ i, i < n → q i = false → step (P i) = some (.inl (P (i + 1)))) (hq : ∀ i, i < n → q i = true → step (P i) = some (.inr (f i))) (he : Comes step (P n) r) :
    ∃ x, Comes step (P 0) x ∧ ((∃ i, i < n ∧ q i = true ∧ (∀ j, j < i → q j = false) ∧ x = f i) ∨ ((∀ i, i < n → q i = false) ∧ x = r)) := by
  have := Comes.first P q n f r hs hq he
  cases h : (List.range n).find? q with
  | some i =>
    rw [h] at this
    refine ⟨_, this, .inl ⟨i, by simpa using List.mem_of_find?_eq_some h, List.find?_some h, fun j hj => ?_, rfl⟩⟩
    rw [List.find?_range_eq_some] at h
    have := h.2.2 j hj
    simpa using this
  | none =>
    rw [h] at this
    refine ⟨_, this, .inr ⟨fun i hi => ?_, rfl⟩⟩
    rw [List.find?_eq_none] at h
    simpa using h i (by simpa using hi)
theorem Comes.all (P : Nat → C) (q : Nat → Bool) (n : Nat) (r0 r : R) (hs : ∀ i, i < n → q i = true → step (P i) = some (.inl (P (i + 1)))) (hq : ∀ i, i < n → q i = false → step (P i) = some (.inr r0)) (he : Comes step (P n) r) :
    Comes step (P 0) (bif (List.range n).all q then r else r0) := by
  obtain ⟨x, hx, h | h⟩ := Comes.ex P (fun i => !q i) n (fun _ => r0) r (fun i hi h => hs i hi (by simpa using h)) (fun i hi h => hq i hi (by simpa using h)) he
  · obtain ⟨i, hi, h1, _, rfl⟩ := h
    have : (List.range n).all q = false := by rw [List.all_eq_false]; exact ⟨i, by simpa using hi, by simpa using h1⟩
    rw [this]; exact hx
  · obtain ⟨h1, rfl⟩ := h
    have : (List.range n).all q = true := by rw [List.all_eq_true]; intro i hi; simpa using h1 i (by simpa using hi)
    rw [this]; exact hx
end
section
variable {α : Type} [Inhabited α]
theorem idx_nat (l : List α) (i : Nat) : idx l (i : Int) = l.getD i default := by simp [idx]
theorem idx_get (l : List α) {i : Nat} (h : i < l.length) : idx l (i : Int) = l[i] := by
  rw [idx_nat, List.getD_eq_getElem?_getD, List.getElem?_eq_getElem h]; rfl
theorem take_idx (l : List α) {i : Nat} (h : i < l.length) : l.take (i + 1) = l.take i ++ [idx l (i : Int)] := by
  rw [idx_get l h, List.take_add_one, List.getElem?_eq_getElem h]; rfl
theorem drop_idx (l : List α) {i : Nat} (h : i < l.length) : l.drop i = idx l (i : Int) :: l.drop (i + 1) := by
  rw [idx_get l h]; exact List.drop_eq_getElem_cons h
theorem idx_mem (l : List α) {i : Nat} (h : i < l.length) : idx l (i : Int) ∈ l := by
  rw [idx_get l h]; exact List.getElem_mem h
end
theorem all_range {α : Type} [Inhabited α] (l : List α) (p : α → Bool) : ((List.range l.length).all fun i => p (idx l (i : Int))) = l.all p := by
  rw [Bool.eq_iff_iff, List.all_eq_true, List.all_eq_true]
  constructor
  · intro h x hx
    obtain ⟨i, hi, rfl⟩ := List.mem_iff_getElem.1 hx
    have := h i (by simpa using hi)
    rwa [idx_get l hi] at this
  · intro h i hi
    have hi : i < l.length := by simpa using hi
    exact h _ (idx_mem l hi)
theorem sub_pre {α : Type} (l : List α) (k : Nat) : sub l 0 (k : Int) = l.take k := by simp [sub]
theorem sub_suf {α : Type} (l : List α) (k : Nat) : sub l (k : Int) (l.length : Int) = l.drop k := by
  unfold sub
  rw [Int.toNat_natCast]
  exact List.take_of_length_le (by rw [List.length_drop]; omega)
theorem sub_mid {α : Type} (l : List α) (j k : Nat) : sub l (j : Int) (k : Int) = (l.drop j).take (k - j) := by
  unfold sub
  rw [Int.toNat_natCast, show ((k : Int) - (j : Int)).toNat = k - j by omega]
theorem inI_nat {n : Nat} (h : n ≤ 9223372036854775807) : inI (n : Int) := by unfold inI; omega
def leB (n : Nat) : Nat → List UInt8
  | 0 => []
  | w + 1 => UInt8.ofNat (n % 256) :: leB (n / 256) w
@[simp] theorem leB_len (n : Nat) : ∀ w, (leB n w).length = w
  | 0 => rfl
  | w + 1 => by simp [leB, leB_len (n / 256) w]
theorem leB_succ (n : Nat) : ∀ w, leB n (w + 1) = leB n w ++ [UInt8.ofNat (n / 256 ^ w % 256)]
  | 0 => by simp [leB]
  | w + 1 => by
    rw [leB, leB_succ (n / 256) w, leB, List.cons_append, Nat.div_div_eq_div_mul, Nat.pow_succ, Nat.mul_comm 256]
def leV : List UInt8 → Nat
  | [] => 0
  | b :: r => b.toNat + 256 * leV r
theorem leV_leB (n : Nat) : ∀ w, leV (leB n w) = n % 256 ^ w
  | 0 => by simp [leB, leV, Nat.mod_one]
  | w + 1 => by
    rw [leB, leV, leV_leB (n / 256) w, Nat.pow_succ, Nat.mul_comm (256 ^ w), Nat.mod_mul]
    simp
theorem leV_lt : ∀ l : List UInt8, leV l < 256 ^ l.length
  | [] => by simp [leV]
  | b :: r => by
    have := leV_lt r
    have := b.toNat_lt
    rw [leV, List.length_cons, Nat.pow_succ]
    omega
theorem u8I_nat (n : Nat) : u8I (n : Int) = UInt8.ofNat n := by
  unfold u8I
  apply UInt8.toNat_inj.1
  rw [show ((n : Int) % 256).toNat = n % 256 by omega, UInt8.toNat_ofNat', UInt8.toNat_ofNat']
  omega
theorem ofNat_mod256 (n : Nat) : UInt8.ofNat (n % 256) = UInt8.ofNat n := by
  apply UInt8.toNat_inj.1
  rw [UInt8.toNat_ofNat', UInt8.toNat_ofNat']
  omega
end Go.Proofs.Ythpgedneniekmaa.K
