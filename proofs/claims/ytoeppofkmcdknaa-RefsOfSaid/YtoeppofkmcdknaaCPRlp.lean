/- Package rlp: what it reckons, in plain words. -/
import Derived.Test.YtoeppofkmcdknaaCWR06
import Derived.Test.YtoeppofkmcdknaaCPBase
namespace Go.Proofs.Ytoeppofkmcdknaa.K
open Go Go.RowKit
set_option linter.unusedSimpArgs false
set_option linter.unusedVariables false
theorem idx_natL {α : Type} [Inhabited α] {l : List α} {i : Nat} (h : i < l.length) : idx l (i : Int) = l[i] := by
  simp [idx, List.getD_eq_getElem?_getD, List.getElem?_eq_getElem h]
def bigN (n : Nat) : List UInt8 := if h : n = 0 then [] else bigN (n / 256) ++ [UInt8.ofNat (n % 256)]
termination_by n
decreasing_by omega
theorem bigN_zero : bigN 0 = [] := by rw [bigN]; rfl
theorem bigN_pos {n : Nat} (h : n ≠ 0) : bigN n = bigN (n / 256) ++ [UInt8.ofNat (n % 256)] := by rw [bigN, dif_neg h]
theorem bigN_len : ∀ (k n : Nat), n < 256 ^ k → (bigN n).length ≤ k
  | 0, n, h => by
    have : n = 0 := by simpa using h
    subst this; rw [bigN_zero]; exact Nat.le_refl _
  | k + 1, n, h => by
    by_cases hn : n = 0
    · subst hn; rw [bigN_zero]; exact Nat.zero_le _
    · have : n / 256 < 256 ^ k := by rw [Nat.pow_succ] at h; omega
      have := bigN_len k _ this
      rw [bigN_pos hn, List.length_append, List.length_singleton]; omega
theorem u8I_mod (n : Nat) : u8I (n : Int) = UInt8.ofNat (n % 256) := by
  unfold u8I
  congr 1
theorem shrI8 (n : Nat) : shrI (n : Int) 8 = ((n / 256 : Nat) : Int) := by
  unfold shrI
  have : min (8 : Int).toNat 64 = 8 := by decide
  rw [this, Int.fdiv_eq_ediv_of_nonneg _ (by decide)]
  norm_cast
def hdC (l : Bool) : Nat := if l then 192 else 128
def hd (l : Bool) (k : Nat) : List UInt8 := if k < 56 then [UInt8.ofNat ((hdC l + k) % 256)] else UInt8.ofNat ((hdC l + 55 + (bigN k).length) % 256) :: bigN k
theorem Head_L2 (n0 : Int) (l : Bool) (c : Nat) (hc : c ≤ 200) : ∀ (k n : Nat) (b : List UInt8), n < 256 ^ k → b.length + k ≤ 1000 →
    Comes (step_rlp_Head n0 l) (.L2 (n : Int) (c : Int) b) (UInt8.ofNat ((c + 55 + (bigN n ++ b).length) % 256) :: (bigN n ++ b)) := by
  have stop : ∀ b : List UInt8, b.length ≤ 1000 → Comes (step_rlp_Head n0 l) (.L2 ((0 : Nat) : Int) (c : Int) b) (UInt8.ofNat ((c + 55 + (bigN 0 ++ b).length) % 256) :: (bigN 0 ++ b)) := by
    intro b hb
    refine Comes.stop ?_
    simp only [step_rlp_Head]
    have e : (c : Int) + 55 + (b.length : Int) = ((c + 55 + b.length : Nat) : Int) := by omega
    rw [decide_eq_false (by omega), cond_false, gO_pos (by unfold inI; omega), gO_pos (by unfold inI; omega), gO_pos (by simp; omega), e, u8I_mod, bigN_zero]
    rfl
  intro k
  induction k with
  | zero =>
    intro n b hn hb
    have : n = 0 := by simpa using hn
    subst this
    exact stop b (by omega)
  | succ k ih =>
    intro n b hn hb
    by_cases h0 : n = 0
    · subst h0; exact stop b (by omega)
    · have hk : n / 256 < 256 ^ k := by rw [Nat.pow_succ] at hn; omega
      have := ih (n / 256) ([u8I (n : Int)] ++ b) hk (by simp; omega)
      rw [bigN_pos h0, List.append_assoc, ← u8I_mod]
      refine Comes.next ?_ this
      simp only [step_rlp_Head]
      rw [decide_eq_true (by omega), cond_true, gO_pos (by simp; omega), shrI8]
theorem Head_ok (n : Int) (l : Bool) : g_rlp_Head n l = some (hd l (minI (maxI n 0) 4294967296).toNat) := by
  refine theC_eq ?_
  obtain ⟨k, hk⟩ : ∃ k : Nat, minI (maxI n 0) 4294967296 = (k : Int) := ⟨(minI (maxI n 0) 4294967296).toNat, by unfold minI maxI; repeat' split <;> omega⟩
  have hle : k ≤ 4294967296 := by
    have : minI (maxI n 0) 4294967296 ≤ 4294967296 := by unfold minI; split <;> omega
    omega
  have hv : (bif l then some (192 : Int) else some 128) = some ((hdC l : Nat) : Int) := by cases l <;> rfl
  have hc : hdC l ≤ 200 := by cases l <;> decide
  rw [hk, Int.toNat_natCast]
  unfold hd
  split
  · rename_i h
    refine Comes.stop ?_
    simp only [step_rlp_Head, hk, hv, Option.bind_some]
    rw [decide_eq_true (by omega), cond_true, gO_pos (by unfold inI; omega), show ((hdC l : Nat) : Int) + (k : Int) = ((hdC l + k : Nat) : Int) by omega, u8I_mod]
  · rename_i h
    have := Head_L2 n l (hdC l) hc 5 k [] (by have : (256 : Nat) ^ 5 = 1099511627776 := by decide
                                              omega) (by simp)
    rw [List.append_nil] at this
    refine Comes.next ?_ this
    simp only [step_rlp_Head, hk, hv, Option.bind_some]
    rw [decide_eq_false (by omega), cond_false]
theorem big_rec : ∀ (m k n : Nat), k < m → n < 256 ^ k → n < 2 ^ 62 → rec_ref05_big m (n : Int) = some (bigN n) := by
  intro m
  induction m with
  | zero => intro k n h; omega
  | succ m ih =>
    intro k n hk hn h62
    show gs_ref05_big (rec_ref05_big m) (n : Int) = _
    unfold gs_ref05_big
    by_cases h0 : n = 0
    · subst h0
      rw [bigN_zero]; rfl
    · obtain ⟨j, rfl⟩ : ∃ j, k = j + 1 := by
        cases k with
        | zero => have : n = 0 := by simpa using hn
                  exact absurd this h0
        | succ j => exact ⟨j, rfl⟩
      have hj : n / 256 < 256 ^ j := by rw [Nat.pow_succ] at hn; omega
      have e : (n : Int).tdiv 256 = ((n / 256 : Nat) : Int) := by
        rw [Int.tdiv_eq_ediv_of_nonneg (by omega)]; omega
      have e2 : (n : Int).tmod 256 = ((n % 256 : Nat) : Int) := by
        rw [Int.tmod_eq_emod_of_nonneg (by omega)]; omega
      have hl := bigN_len j _ hj
      have hl2 : (bigN (n / 256)).length ≤ 8 := bigN_len 8 _ (by have : (256 : Nat) ^ 8 = 2 ^ 64 := by decide
                                                                 omega)
      rw [decide_eq_false (by omega), cond_false, e, e2, gO_pos ⟨by decide, by unfold inI; omega⟩, ih j _ (by omega) hj (by omega), Option.bind_some, gO_pos (by simp; omega), u8I_mod, Nat.mod_mod, bigN_pos h0]
theorem big_ok (n : Nat) (h : n < 2 ^ 62) : g_ref05_big (n : Int) = some (bigN n) :=
  theR_eq 9 fun m hm => big_rec m 8 n (by omega) (by have : (256 : Nat) ^ 8 = 2 ^ 64 := by decide
                                                     omega) h
theorem RHead_ok (n : Nat) (l : Bool) (h : n < 2 ^ 62) : g_ref05_Head (n : Int) l = some (hd l n) := by
  have hv : (bif l then some (192 : Int) else some 128) = some ((hdC l : Nat) : Int) := by cases l <;> rfl
  have hc : hdC l ≤ 200 := by cases l <;> decide
  unfold g_ref05_Head hd
  rw [hv, Option.bind_some]
  have hl2 : (bigN n).length ≤ 8 := bigN_len 8 _ (by have : (256 : Nat) ^ 8 = 2 ^ 64 := by decide
                                                     omega)
  split
  · rename_i h
    rw [decide_eq_true (by omega), cond_true, gO_pos (by unfold inI; omega), show ((hdC l : Nat) : Int) + (n : Int) = ((hdC l + n : Nat) : Int) by omega, u8I_mod]
  · rename_i h'
    rw [decide_eq_false (by omega), cond_false, big_ok n h, Option.bind_some, gO_pos (by unfold inI; omega), gO_pos (by unfold inI; omega), gO_pos (by simp; omega),
      show ((hdC l : Nat) : Int) + 55 + ((bigN n).length : Int) = ((hdC l + 55 + (bigN n).length : Nat) : Int) by omega, u8I_mod]
    rfl
def OKn : Nat → Item → Prop
  | 0, _ => False
  | n + 1, x => x.fL.length ≤ 9223372036854775807 ∧ x.fS.length ≤ 9223372036854775807 ∧ ∀ y ∈ x.fL, OKn n y
end Go.Proofs.Ytoeppofkmcdknaa.K
