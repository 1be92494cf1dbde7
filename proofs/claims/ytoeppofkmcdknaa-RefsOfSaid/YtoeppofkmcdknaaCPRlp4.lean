/- Package rlp: more items than may be; what is read, whatever the bytes. -/
import Derived.Test.YtoeppofkmcdknaaCPRlp3
namespace Go.Proofs.Ytoeppofkmcdknaa.K
open Go Go.RowKit
set_option linter.unusedSimpArgs false
set_option linter.unusedVariables false
theorem one_big {d c : Nat} (hd : d ≤ 64) (hc : c = 4096) : g_rlp_counter_one (d : Int) ⟨(c : Int)⟩ = some (.inr 4, ⟨((c + 1 : Nat) : Int)⟩) := by
  unfold g_rlp_counter_one
  simp only
  rw [gO_pos (by unfold inI; omega), decide_eq_true (by omega), decide_eq_false (by omega)]
  rfl
def lvN : Nat → List UInt8 → Option Nat
  | v, [] => some v
  | v, b :: r => if v < 4294967296 then lvN (v * 256 + b.toNat) r else none
def lenR (k : Nat) : Option Nat → (Int × Int) ⊕ Int
  | none => .inr 5
  | some v => if 55 < v then .inl ((v : Int), ((1 + k : Nat) : Int)) else .inr 6
theorem lv_bound : ∀ (l : List UInt8) (v w : Nat), v < 2 ^ 40 → lvN v l = some w → w < 2 ^ 40
  | [], v, w, hv, h => by simp only [lvN, Option.some.injEq] at h; omega
  | b :: r, v, w, hv, h => by
    have hb : b.toNat < 256 := UInt8.toNat_lt _
    unfold lvN at h
    split at h
    · exact lv_bound r _ w (by omega) h
    · cases h
theorem glen_L1 (s : List UInt8) (first n : Nat) (k : Nat) (hs : ((idx s (0 : Int)).toNat : Int) - (first : Int) = ((k + 55 : Nat) : Int)) (hk : k ≤ 9) (hlen : 1 + k ≤ s.length) (hl : s.length ≤ 2 ^ 40) (j : Nat) : ∀ (i v : Nat), j + i = k → v < 2 ^ 40 →
    Comes (step_rlp_length s (first : Int)) (.L1 (v : Int) (i : Int)) (lenR k (lvN v (((s.drop 1).take k).drop i))) := by
  have e55 : ((idx s (0 : Int)).toNat : Int) - (first : Int) - 55 = (k : Int) := by omega
  have hd : ((s.drop 1).take k).length = k := by rw [List.length_take, List.length_drop]; omega
  induction j with
  | zero =>
    intro i v hi hv
    obtain rfl : i = k := by omega
    rw [List.drop_eq_nil_of_le (by omega)]
    refine Comes.stop ?_
    simp only [step_rlp_length, e55, lvN, lenR]
    rw [decide_eq_false (by omega), cond_false]
    by_cases h : 55 < v
    · rw [if_pos h, decide_eq_true (by omega), must_true, Option.bind_some]
      simp only
      rw [gO_pos (by unfold inI; omega), show (1 : Int) + (i : Int) = ((1 + i : Nat) : Int) by omega]
    · rw [if_neg h, decide_eq_false (by omega)]; rfl
  | succ j ih =>
    intro i v hi hv
    have h1 : i < ((s.drop 1).take k).length := by omega
    have hg : idx s (1 + (i : Int)) = ((s.drop 1).take k)[i] := by
      rw [show (1 : Int) + (i : Int) = ((1 + i : Nat) : Int) by omega, idx_natL (by omega)]
      simp [Nat.add_comm]
    rw [List.drop_eq_getElem_cons h1]
    have hb : (((s.drop 1).take k)[i]).toNat < 256 := UInt8.toNat_lt _
    unfold lvN
    by_cases hv2 : v < 4294967296
    · rw [if_pos hv2]
      refine Comes.next ?_ (ih (i + 1) (v * 256 + (((s.drop 1).take k)[i]).toNat) (by omega) (by omega))
      have hsh : shlI (v : Int) 8 = ((v * 256 : Nat) : Int) := by
        unfold shlI
        rw [show min (8 : Int).toNat 64 = 8 by decide]; omega
      simp only [step_rlp_length, e55]
      rw [decide_eq_true (by omega), cond_true, decide_eq_true (by omega), must_true, Option.bind_some]
      simp only
      rw [gO_pos (by rw [hsh]; unfold inI; omega), gO_pos (by unfold inI; omega), gO_pos (by omega), gO_pos (by unfold inI; omega), hg, orI_byte _ _ (by omega) hb]
      rfl
    · rw [if_neg hv2]
      refine Comes.stop ?_
      simp only [step_rlp_length, e55]
      rw [decide_eq_true (by omega), cond_true, decide_eq_false (by omega)]
      rfl
def lenS (s : List UInt8) (n0 : Nat) : (Int × Int) ⊕ Int :=
  if n0 ≤ 55 then .inl ((n0 : Int), 1)
  else if s.length < 1 + (n0 - 55) then .inr 5
  else if (s.getD 1 0).toNat = 0 then .inr 6
  else lenR (n0 - 55) (lvN 0 ((s.drop 1).take (n0 - 55)))
theorem get1 {s : List UInt8} (h : 1 < s.length) : idx s (1 : Int) = s.getD 1 0 := by
  show idx s ((1 : Nat) : Int) = _
  rw [idx_natL h]
  simp [List.getD_eq_getElem?_getD, List.getElem?_eq_getElem h]
theorem glen_ok (s : List UInt8) (first n0 : Nat) (hs : (s.getD 0 0).toNat = first + n0) (h0 : 0 < s.length) (hn : n0 ≤ 63) (hl : s.length ≤ 2 ^ 40) : g_rlp_length s (first : Int) = some (lenS s n0) := by
  refine theC_eq ?_
  have hi : (((idx s (0 : Int)).toNat : Nat) : Int) - (first : Int) = (n0 : Int) := by rw [get0 h0]; omega
  unfold lenS
  by_cases h1 : n0 ≤ 55
  · rw [if_pos h1]
    refine Comes.stop ?_
    simp only [step_rlp_length, hi]
    rw [gO_pos (by omega), gO_pos (by unfold inI; omega), decide_eq_true (by omega), cond_true]
  · rw [if_neg h1]
    have e55 : (n0 : Int) - 55 = ((n0 - 55 : Nat) : Int) := by omega
    by_cases h2 : s.length < 1 + (n0 - 55)
    · rw [if_pos h2]
      refine Comes.stop ?_
      simp only [step_rlp_length, hi, e55]
      rw [gO_pos (by omega), gO_pos (by unfold inI; omega), decide_eq_false (by omega), cond_false, gO_pos (by unfold inI; omega), decide_eq_false (by omega)]
      rfl
    · rw [if_neg h2]
      by_cases h3 : (s.getD 1 0).toNat = 0
      · rw [if_pos h3]
        refine Comes.stop ?_
        simp only [step_rlp_length, hi, e55]
        rw [gO_pos (by omega), gO_pos (by unfold inI; omega), decide_eq_false (by omega), cond_false, gO_pos (by unfold inI; omega), decide_eq_true (by omega), must_true, Option.bind_some]
        simp only
        rw [gO_pos (by omega), get1 (by omega), decide_eq_true (by omega)]
        rfl
      · rw [if_neg h3]
        have := glen_L1 s first n0 (n0 - 55) (by rw [hi]; omega) (by omega) (by omega) hl (n0 - 55) 0 0 rfl (by decide)
        rw [List.drop_zero] at this
        refine Comes.next ?_ this
        simp only [step_rlp_length, hi, e55]
        rw [gO_pos (by omega), gO_pos (by unfold inI; omega), decide_eq_false (by omega), cond_false, gO_pos (by unfold inI; omega), decide_eq_true (by omega), must_true, Option.bind_some]
        simp only
        rw [gO_pos (by omega), get1 (by omega), decide_eq_false (by omega), Bool.not_false, must_true, Option.bind_some]
        rfl
def noI : Item := ⟨false, [], []⟩
theorem rlen_L2 (f : List UInt8 → Int → Int → Option (Item × Int × Int × Int)) (s : List UInt8) (d l : Int) (k : Nat) (hs : (((idx s (0 : Int)).toNat : Nat) : Int).tmod 64 = ((k + 55 : Nat) : Int)) (hk : k ≤ 9) (hlen : 1 + k ≤ s.length) (hl : s.length ≤ 2 ^ 40) (r : Item × Int × Int × Int)
    (hJ : ∀ v : Nat, v < 2 ^ 40 → 55 < v → lvN 0 ((s.drop 1).take k) = some v → Comes (step_ref05_Read f s d l) (.J1 (v : Int) ((1 + k : Nat) : Int)) r)
    (h5 : lvN 0 ((s.drop 1).take k) = none → r = (noI, 0, 0, 5)) (h6 : ∀ v, lvN 0 ((s.drop 1).take k) = some v → ¬ 55 < v → r = (noI, 0, 0, 6)) (j : Nat) : ∀ (i v : Nat), j + i = k → v < 2 ^ 40 → lvN 0 ((s.drop 1).take k) = lvN v (((s.drop 1).take k).drop i) →
    Comes (step_ref05_Read f s d l) (.L2 (v : Int) ((i + 1 : Nat) : Int)) r := by
  have e55 : ((k + 55 : Nat) : Int) - 55 = (k : Int) := by omega
  have hd : ((s.drop 1).take k).length = k := by rw [List.length_take, List.length_drop]; omega
  induction j with
  | zero =>
    intro i v hi hv he
    obtain rfl : i = k := by omega
    have hz : ((s.drop 1).take i).drop i = [] := List.drop_eq_nil_of_le (by omega)
    rw [hz, show lvN v [] = some v from rfl] at he
    by_cases h : 55 < v
    · refine Comes.next ?_ (hJ v hv h he)
      simp only [step_ref05_Read, hs, e55]
      rw [decide_eq_false (by omega), cond_false, decide_eq_false (by omega), cond_false, gO_pos (by unfold inI; omega), show (1 : Int) + (i : Int) = ((1 + i : Nat) : Int) by omega]
    · rw [h6 v he h]
      refine Comes.stop ?_
      simp only [step_ref05_Read, hs, e55]
      rw [decide_eq_false (by omega), cond_false, decide_eq_true (show (v : Int) < 56 by omega), cond_true]
      rfl
  | succ j ih =>
    intro i v hi hv he
    have h1 : i < ((s.drop 1).take k).length := by omega
    have hg : idx s ((i + 1 : Nat) : Int) = ((s.drop 1).take k)[i] := by
      rw [idx_natL (by omega)]
      simp [Nat.add_comm]
    rw [List.drop_eq_getElem_cons h1] at he
    have hb : (((s.drop 1).take k)[i]).toNat < 256 := UInt8.toNat_lt _
    rw [lvN] at he
    by_cases hv2 : v < 4294967296
    · rw [if_pos hv2] at he
      have he' : lvN 0 ((s.drop 1).take k) = lvN (v * 256 + (((s.drop 1).take k)[i]).toNat) (((s.drop 1).take k).drop (i + 1)) := by
        exact he
      refine Comes.next ?_ (ih (i + 1) (v * 256 + (((s.drop 1).take k)[i]).toNat) (by omega) (by omega) he')
      simp only [step_ref05_Read, hs, e55]
      rw [decide_eq_true (by omega), cond_true, decide_eq_false (by omega), cond_false, gO_pos (by unfold inI; omega), gO_pos (by omega), gO_pos (by rw [hg]; unfold inI; omega), gO_pos (by unfold inI; omega), hg]
      rw [show (256 : Int) * (v : Int) + (((((s.drop 1).take k)[i]).toNat : Nat) : Int) = ((v * 256 + (((s.drop 1).take k)[i]).toNat : Nat) : Int) by omega]
      rfl
    · rw [if_neg hv2] at he
      have he' : lvN 0 ((s.drop 1).take k) = none := he
      rw [h5 he']
      refine Comes.stop ?_
      simp only [step_ref05_Read, hs, e55]
      rw [decide_eq_true (by omega), cond_true, decide_eq_true (by omega), cond_true]
      rfl
end Go.Proofs.Ytoeppofkmcdknaa.K
