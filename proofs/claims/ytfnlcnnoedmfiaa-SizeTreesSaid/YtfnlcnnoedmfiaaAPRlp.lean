/- Package rlp: what it reckons, in plain words. -/
import Derived.Test.YtfnlcnnoedmfiaaAWLaw20
import Derived.Test.YtfnlcnnoedmfiaaAPBase
namespace Go.Proofs.Ytfnlcnnoedmfiaa.K
open Go Go.RowKit
set_option linter.unusedSimpArgs false
set_option linter.unusedVariables false
def bigN (n : Nat) : List UInt8 := if h : n = 0 then [] else bigN (n / 256) ++ [UInt8.ofNat (n % 256)]
termination_by n
decreasing_by omega
theorem bigN_zero : bigN 0 = [] := by rw [bigN]; rfl
theorem bigN_pos {n : Nat} (h : n ≠ 0) : bigN n = bigN (n / 256) ++ [UInt8.ofNat (n % 256)] := by rw [bigN, dif_neg h]
theorem bigN_len : ∀ (k n : Nat), n < 256 ^ k → (bigN n).length ≤ k
  | 0, n, h => by
    have : n = 0 := by simpa using h
    subst this; rw [bigN_zero]; exact Nat.le_refl _
  | k + 1, n, h => by
    by_cases hn : n = 0
    · subst hn; rw [bigN_zero]; exact Nat.zero_le _
    · have : n / 256 < 256 ^ k := by rw [Nat.pow_succ] at h; omega
      have := bigN_len k _ this
      rw [bigN_pos hn, List.length_append, List.length_singleton]; omega
theorem u8I_mod (n : Nat) : u8I (n : Int) = UInt8.ofNat (n % 256) := by
  unfold u8I
  congr 1
def hdC (l : Bool) : Nat := if l then 192 else 128
def hd (l : Bool) (k : Nat) : List UInt8 := if k < 56 then [UInt8.ofNat ((hdC l + k) % 256)] else UInt8.ofNat ((hdC l + 55 + (bigN k).length) % 256) :: bigN k
theorem big_rec : ∀ (m k n : Nat), k < m → n < 256 ^ k → n < 2 ^ 62 → rec_ref05_big m (n : Int) = some (bigN n) := by
  intro m
  induction m with
  | zero => intro k n h; omega
  | succ m ih =>
    intro k n hk hn h62
    show gs_ref05_big (rec_ref05_big m) (n : Int) = _
    unfold gs_ref05_big
    by_cases h0 : n = 0
    · subst h0
      rw [bigN_zero]; rfl
    · obtain ⟨j, rfl⟩ : ∃ j, k = j + 1 := by
        cases k with
        | zero => have : n = 0 := by simpa using hn
                  exact absurd this h0
        | succ j => exact ⟨j, rfl⟩
      have hj : n / 256 < 256 ^ j := by rw [Nat.pow_succ] at hn; omega
      have e : (n : Int).tdiv 256 = ((n / 256 : Nat) : Int) := by
        rw [Int.tdiv_eq_ediv_of_nonneg (by omega)]; omega
      have e2 : (n : Int).tmod 256 = ((n % 256 : Nat) : Int) := by
        rw [Int.tmod_eq_emod_of_nonneg (by omega)]; omega
      have hl := bigN_len j _ hj
      have hl2 : (bigN (n / 256)).length ≤ 8 := bigN_len 8 _ (by have : (256 : Nat) ^ 8 = 2 ^ 64 := by decide
                                                                 omega)
      rw [decide_eq_false (by omega), cond_false, e, e2, gO_pos ⟨by decide, by unfold inI; omega⟩, ih j _ (by omega) hj (by omega), Option.bind_some, gO_pos (by simp; omega), u8I_mod, Nat.mod_mod, bigN_pos h0]
theorem big_ok (n : Nat) (h : n < 2 ^ 62) : g_ref05_big (n : Int) = some (bigN n) :=
  theR_eq 9 fun m hm => big_rec m 8 n (by omega) (by have : (256 : Nat) ^ 8 = 2 ^ 64 := by decide
                                                     omega) h
theorem RHead_ok (n : Nat) (l : Bool) (h : n < 2 ^ 62) : g_ref05_Head (n : Int) l = some (hd l n) := by
  have hv : (bif l then some (192 : Int) else some 128) = some ((hdC l : Nat) : Int) := by cases l <;> rfl
  have hc : hdC l ≤ 200 := by cases l <;> decide
  unfold g_ref05_Head hd
  rw [hv, Option.bind_some]
  have hl2 : (bigN n).length ≤ 8 := bigN_len 8 _ (by have : (256 : Nat) ^ 8 = 2 ^ 64 := by decide
                                                     omega)
  split
  · rename_i h
    rw [decide_eq_true (by omega), cond_true, gO_pos (by unfold inI; omega), show ((hdC l : Nat) : Int) + (n : Int) = ((hdC l + n : Nat) : Int) by omega, u8I_mod]
  · rename_i h'
    rw [decide_eq_false (by omega), cond_false, big_ok n h, Option.bind_some, gO_pos (by unfold inI; omega), gO_pos (by unfold inI; omega), gO_pos (by simp; omega),
      show ((hdC l : Nat) : Int) + 55 + ((bigN n).length : Int) = ((hdC l + 55 + (bigN n).length : Nat) : Int) by omega, u8I_mod]
    rfl
end Go.Proofs.Ytfnlcnnoedmfiaa.K
