import Derived.Test.YtfnlcnnoedmfiaaAKJ
/- Plain laws for loops and for what the walks reckon. -/
namespace Go.Proofs.Ytfnlcnnoedmfiaa.K
open Go
set_option linter.unusedVariables false
set_option linter.unusedSimpArgs false
section
variable {C R : Type} {step : C → Option (C ⊕ R)}
theorem Comes.upto (P : Nat → C) (n : Nat) {r : R} (hs : ∀ i, i < n → step (P i) = some (.inl (P (i + 1)))) (he : Comes step (P n) r) : Comes step (P 0) r := by
  have : ∀ k, k ≤ n → Comes step (P (n - k)) r := by
    intro k
    induction k with
    | zero => intro _; exact he
    | succ k ih =>
      intro hk
      have h1 := ih (by omega)
      have h2 := hs (n - (k + 1)) (by omega)
      rw [show n - (k + 1) + 1 = n - k by omega] at h2
      exact .next h2 h1
  have := this n (Nat.le_refl _)
  rwa [Nat.sub_self] at this
theorem Comes.uptoC (P : Nat → C) (n : Nat) {r : R} (hs : ∀ i, i < n → Comes step (P (i + 1)) r → Comes step (P i) r) (he : Comes step (P n) r) : Comes step (P 0) r := by
  have : ∀ k, k ≤ n → Comes step (P (n - k)) r := by
    intro k
    induction k with
    | zero => intro _; exact he
    | succ k ih =>
      intro hk
      have h1 := ih (by omega)
      rw [show n - k = n - (k + 1) + 1 by omega] at h1
      exact hs _ (by omega) h1
  have := this n (Nat.le_refl _)
  rwa [Nat.sub_self] at this
end
section
variable {α : Type} [Inhabited α]
theorem idx_nat (l : List α) (i : Nat) : idx l (i : Int) = l.getD i default := by simp [idx]
theorem idx_get (l : List α) {i : Nat} (h : i < l.length) : idx l (i : Int) = l[i] := by
  rw [idx_nat, List.getD_eq_getElem?_getD, List.getElem?_eq_getElem h]; rfl
theorem take_idx (l : List α) {i : Nat} (h : i < l.length) : l.take (i + 1) = l.take i ++ [idx l (i : Int)] := by
  rw [idx_get l h, List.take_add_one, List.getElem?_eq_getElem h]; rfl
theorem drop_idx (l : List α) {i : Nat} (h : i < l.length) : l.drop i = idx l (i : Int) :: l.drop (i + 1) := by
  rw [idx_get l h]; exact List.drop_eq_getElem_cons h
theorem idx_mem (l : List α) {i : Nat} (h : i < l.length) : idx l (i : Int) ∈ l := by
  rw [idx_get l h]; exact List.getElem_mem h
end
theorem sub_pre {α : Type} (l : List α) (k : Nat) : sub l 0 (k : Int) = l.take k := by simp [sub]
theorem sub_suf {α : Type} (l : List α) (k : Nat) : sub l (k : Int) (l.length : Int) = l.drop k := by
  unfold sub
  rw [Int.toNat_natCast]
  exact List.take_of_length_le (by rw [List.length_drop]; omega)
theorem sub_mid {α : Type} (l : List α) (j k : Nat) : sub l (j : Int) (k : Int) = (l.drop j).take (k - j) := by
  unfold sub
  rw [Int.toNat_natCast, show ((k : Int) - (j : Int)).toNat = k - j by omega]
def leB (n : Nat) : Nat → List UInt8
  | 0 => []
  | w + 1 => UInt8.ofNat (n % 256) :: leB (n / 256) w
@[simp] theorem leB_len (n : Nat) : ∀ w, (leB n w).length = w
  | 0 => rfl
  | w + 1 => by simp [leB, leB_len (n / 256) w]
theorem u8I_nat (n : Nat) : u8I (n : Int) = UInt8.ofNat n := by
  unfold u8I
  apply UInt8.toNat_inj.1
  rw [show ((n : Int) % 256).toNat = n % 256 by omega, UInt8.toNat_ofNat', UInt8.toNat_ofNat']
  omega
theorem ofNat_mod256 (n : Nat) : UInt8.ofNat (n % 256) = UInt8.ofNat n := by
  apply UInt8.toNat_inj.1
  rw [UInt8.toNat_ofNat', UInt8.toNat_ofNat']
  omega
end Go.Proofs.Ytfnlcnnoedmfiaa.K
