/- FrozenLooks: what the law reckons is true. -/
import Derived.Test.YtonlehebfeilmaaWFL
namespace Go.Proofs.Ytonlehebfeilmaa.K
open Go Go.RowKit
set_option linter.unusedSimpArgs false
set_option linter.unusedVariables false

def wh (m : List (Arr 32 UInt8)) (x : Arr 32 UInt8) (i : Nat) : List Int := (whereN (sums m) x.1 i).map Int.ofNat
theorem wh_len (m : List (Arr 32 UInt8)) (x : Arr 32 UInt8) (i : Nat) : (wh m x i).length ≤ i := by
  unfold wh; rw [List.length_map]; exact whereN_len _ _ _
theorem sums_getD (m : List (Arr 32 UInt8)) {i : Nat} (h : i < m.length) : (sums m).getD i [] = (idx m (i : Int)).1 := by
  simp [sums, idx, List.getD_eq_getElem?_getD, List.getElem?_eq_getElem h]
theorem wh_succ (m : List (Arr 32 UInt8)) (x : Arr 32 UInt8) {i : Nat} (h : i < m.length) : wh m x (i + 1) = if ((idx m (i : Int)).1 == x.1) = true then wh m x i ++ [(i : Int)] else wh m x i := by
  unfold wh
  rw [whereN_succ, sums_getD m h]
  split <;> simp

section
variable (l m : List (Arr 32 UInt8)) (x : Arr 32 UInt8) (e : Int)
def atI (e : Int) (n : Nat) : Int := if 0 < (if e < (n : Int) then e else (n : Int)) then (if e < (n : Int) then e else (n : Int)) else 0
theorem atI_eq (e : Int) (n : Nat) : atI e n = (sinceN e n : Int) := by
  unfold atI sinceN
  repeat' split <;> omega
theorem sub_end {α : Type} (l : List α) (i : Nat) (h : i ≤ l.length) : sub l (i : Int) (l.length : Int) = l.drop i := by
  unfold sub
  rw [List.take_of_length_le (by rw [List.length_drop]; omega)]; rfl

theorem FL_L4 (hm : m.length ≤ 60) (k : Nat) : ∀ i, k + i = (wh m x m.length).length →
    Comes (step_law31_FrozenLooks l x e) (.L4 m (decide (0 ≤ e ∧ e < (m.length : Int))) (atI e m.length) (wh m x m.length) (wh m x m.length) (i : Int) m (m ++ [x]) (atA m e)) true := by
  have hw := wh_len m x m.length
  induction k with
  | succ k ih =>
    intro i hi
    refine Comes.next (c' := .L4 m (decide (0 ≤ e ∧ e < (m.length : Int))) (atI e m.length) (wh m x m.length) (wh m x m.length) ((i + 1 : Nat) : Int) m (m ++ [x]) (atA m e)) ?_ (ih (i + 1) (by omega))
    have h1 : (i : Int) < ((wh m x m.length).length : Int) := by omega
    simp only [step_law31_FrozenLooks]
    rw [gO_pos (fun _ => by omega), gO_pos (fun _ => by omega), gO_pos (show inI ((i : Int) + 1) from by unfold inI; omega)]
    simp [h1]
  | zero =>
    intro i hi
    refine Comes.stop ?_
    have h1 : ¬ ((i : Int) < ((wh m x m.length).length : Int)) := by omega
    have hs := sinceN_le e m.length
    have e1 : sub m (atI e m.length) (m.length : Int) = m.drop (sinceN e m.length) := by rw [atI_eq]; exact sub_end m _ hs
    have hb : (decide (0 ≤ e ∧ e < (m.length : Int))) = (decide (0 ≤ e) && decide (e < (m.length : Int))) := by simp
    simp only [step_law31_FrozenLooks, decide_eq_false h1, cond_false]
    have c1 : (!(decide (0 ≤ e ∧ e < (m.length : Int)) == (decide (0 ≤ e) && decide (e < (m.length : Int))))) = false := by rw [hb]; simp
    rw [c1]
    have c2 : (decide (0 ≤ e ∧ e < (m.length : Int)) && (!((atA m e).1 == (idx m e).1))) = false := by
      by_cases h : 0 ≤ e ∧ e < (m.length : Int)
      · simp [h, atA]
      · simp [h]
    have c3 : ((!decide (0 ≤ e ∧ e < (m.length : Int))) && (!((atA m e).1 == (Arr.rep 32 (0 : UInt8)).1))) = false := by
      by_cases h : 0 ≤ e ∧ e < (m.length : Int)
      · simp [h]
      · simp [h, atA]
    rw [c2, c3]
    rw [gO_pos (by intro h; simpa using h)]
    simp only [Bool.or_self, decide_true, Bool.not_true, Bool.or_false, cond_false]
    rw [gO_pos (by simp; omega), gO_pos (by simp; omega), gO_pos (by omega), gO_pos (by intro _; omega), gO_pos (by intro _; omega), gO_pos (by intro _; simp; omega), gO_pos (by intro _; simp; omega), gO_pos (by intro _; omega),
      gO_pos (by intro _; rw [atI_eq]; omega), gO_pos (by intro _; rw [e1]; simp; omega), e1]
    simp

theorem FL_L2 (hm : m.length ≤ 60) (k : Nat) : ∀ i, k + i = m.length →
    Comes (step_law31_FrozenLooks l x e) (.L2 m (decide (0 ≤ e ∧ e < (m.length : Int))) (atI e m.length) (wh m x i) (i : Int) m (m ++ [x]) (atA m e)) true := by
  induction k with
  | succ k ih =>
    intro i hi
    refine Comes.next (c' := .L2 m (decide (0 ≤ e ∧ e < (m.length : Int))) (atI e m.length) (wh m x (i + 1)) ((i + 1 : Nat) : Int) m (m ++ [x]) (atA m e)) ?_ (ih (i + 1) (by omega))
    have h1 : (i : Int) < (m.length : Int) := by omega
    have hw := wh_len m x i
    simp only [step_law31_FrozenLooks, decide_eq_true h1, cond_true]
    rw [gO_pos (by omega), gO_pos (show ((wh m x i).length + [(i : Int)].length) * 8 ≤ 140737488355328 from by simp; omega), wh_succ m x (show i < m.length by omega)]
    cases hq : ((idx m (i : Int)).1 == x.1) <;> simp [hq, gO_pos (show inI ((i : Int) + 1) from by unfold inI; omega)]
  | zero =>
    intro i hi
    obtain rfl : i = m.length := by omega
    refine Comes.next (c' := .L4 m (decide (0 ≤ e ∧ e < (m.length : Int))) (atI e m.length) (wh m x m.length) (wh m x m.length) ((0 : Nat) : Int) m (m ++ [x]) (atA m e)) ?_ (FL_L4 l m x e hm _ 0 rfl)
    simp only [step_law31_FrozenLooks]
    rw [gO_pos (show m.length ≤ 2 ^ 20 by omega)]
    simp [whA, wh]

theorem FL_true : g_law31_FrozenLooks l x e = some true := by
  refine theC_eq ?_
  have key : ∀ m : List (Arr 32 UInt8), m.length ≤ 60 → (bif (decide ((60 : Int) < (l.length : Int))) then gO (0 ≤ (0 : Int) ∧ (0 : Int) ≤ (60 : Int) ∧ (60 : Int) ≤ (l.length : Int)) (some (sub l (0 : Int) (60 : Int))) else some l) = some m → Comes (step_law31_FrozenLooks l x e) .S true := by
    intro m hm h
    refine Comes.next (c' := .L2 m (decide (0 ≤ e ∧ e < (m.length : Int))) (atI e m.length) (wh m x 0) ((0 : Nat) : Int) m (m ++ [x]) (atA m e)) ?_ (FL_L2 l m x e hm _ 0 rfl)
    simp only [step_law31_FrozenLooks, h, Option.bind_some]
    have h20 : m.length ≤ 2 ^ 20 := by omega
    rw [gO_pos h20, gO_pos h20, gO_pos h20]
    simp [atI, wh, whereN]
  by_cases h : (60 : Int) < (l.length : Int)
  · refine key (sub l 0 60) ?_ ?_
    · unfold sub; rw [List.length_take]; omega
    · rw [decide_eq_true h, cond_true, gO_pos (by omega)]
  · exact key l (by omega) (by rw [decide_eq_false h, cond_false])
end

theorem toSums : ∀ l : List (List UInt8), (∀ s ∈ l, s.length = 32) → ∃ k : List (Arr 32 UInt8), sums k = l
  | [], _ => ⟨[], rfl⟩
  | s :: r, h => by
    obtain ⟨k, hk⟩ := toSums r fun t ht => h t (List.mem_cons_of_mem _ ht)
    exact ⟨⟨s, h s (List.mem_cons_self ..)⟩ :: k, by show s :: sums k = _; rw [hk]⟩
theorem FrozenLooks_fun (l : List (List UInt8)) (x : List UInt8) (e : Int) (hl32 : ∀ s ∈ l, s.length = 32) (hx : x.length = 32) : Fun Try.prog 10 [.slice (l.map sumD), .agg (x.map byteD), .val (.int .i64 e)] (.val (.bool true)) := by
  obtain ⟨k, rfl⟩ := toSums l hl32
  rw [sums_map]
  exact sim_law31_FrozenLooks k ⟨x, hx⟩ e true (FL_true k ⟨x, hx⟩ e)
end Go.Proofs.Ytonlehebfeilmaa.K
