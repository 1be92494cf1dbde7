import Derived.Test.YthpgedneniekmaaAPPin2
/- ref48, and what an index tells: the plain answers. -/
namespace Go.Proofs.Ythpgedneniekmaa.K
open Go
set_option linter.unusedVariables false
set_option linter.unusedSimpArgs false
theorem flat_leN {α β : Type} (f : α → List β) (b : Nat) : ∀ l : List α, (∀ k ∈ l, (f k).length ≤ b) → (l.flatMap f).length ≤ l.length * b
  | [], _ => by simp
  | x :: r, h => by
    have h1 := flat_leN f b r fun k hk => h k (List.mem_cons_of_mem _ hk)
    have h2 := h x (List.mem_cons_self ..)
    rw [List.flatMap_cons, List.length_append, List.length_cons, Nat.succ_mul]
    omega
def tB (s : List UInt8) : List UInt8 := leB s.length 4 ++ s
theorem tB_len (s : List UInt8) : (tB s).length = 4 + s.length := by simp [tB]
theorem Texts1_ok (s acc : List UInt8) (h : s.length ≤ 10000000) (ha : acc.length ≤ 100000000000000) : g_wide_Texts_1 s acc = some ((), acc ++ tB s) := by
  unfold g_wide_Texts_1
  rw [show (4 : Int) = ((4 : Nat) : Int) from rfl, Num_ok _ 4 (by omega), Option.bind_some, gO_pos (by simp only [leB_len]; omega), gO_pos (by simp only [List.length_append, leB_len]; omega), ofInt_nat, Nat.mod_eq_of_lt (by omega)]
  unfold tB
  rw [List.append_assoc]
theorem TextsL_ok (l : List (List UInt8)) (hs : ∀ s ∈ l, s.length ≤ 600000) (hl : l.length ≤ 100000000) : g_wide_Texts l = some (l.flatMap tB) := by
  refine theC_eq (Comes.next (c' := .L1 ((0 : Nat) : Int) ((l.take 0).flatMap tB)) rfl ?_)
  refine Comes.upto (step := step_wide_Texts l) (fun i => .L1 (i : Int) ((l.take i).flatMap tB)) l.length ?_ ?_
  · intro i hi
    have h1 := flat_leN tB 600004 (l.take i) (fun k hk => by have := hs k (List.mem_of_mem_take hk); rw [tB_len]; omega)
    have h2 : (l.take i).length ≤ 100000000 := by rw [List.length_take]; omega
    have h3 := Nat.mul_le_mul_right 600004 h2
    simp only [step_wide_Texts]
    rw [decide_eq_true (by omega), cond_true, gO_pos (by omega), Texts1_ok _ _ (by have := hs _ (idx_mem l hi); omega) (by omega), Option.bind_some, gO_pos (by unfold inI; omega), take_idx l hi, List.flatMap_append]
    simp
  · refine Comes.stop ?_
    simp only [step_wide_Texts]
    rw [decide_eq_false (by omega), cond_false, List.take_length]
theorem putL_len {p : List Row} (h : mayB p = true) : (putL p).length ≤ 560321 := by
  have h1 := flat_take_len h p.length
  rw [List.take_length] at h1
  unfold putL
  rw [List.length_append, leB_len]; omega
def textP (P : List (List Row)) : List UInt8 := P.flatMap fun p => tB (putL p)
theorem map_flat (P : List (List Row)) : (P.map putL).flatMap tB = textP P := by unfold textP; rw [List.flatMap_map]
theorem Text48_ok {P : List (List Row)} (h : ∀ p ∈ P, mayB p = true) (hl : P.length ≤ 100000000) : g_pindex_Index_Text ⟨P⟩ = some (textP P, 0) := by
  refine theC_eq (Comes.next (c' := .L1 ((P.take 0).map putL) ((0 : Nat) : Int)) rfl ?_)
  refine Comes.upto (step := step_pindex_Index_Text ⟨P⟩) (fun i => .L1 ((P.take i).map putL) (i : Int)) P.length ?_ ?_
  · intro i hi
    have h2 : ((P.take i).map putL).length ≤ 100000000 := by rw [List.length_map, List.length_take]; omega
    simp only [step_pindex_Index_Text]
    rw [decide_eq_true (by omega), cond_true, gO_pos (by omega), Put_may (h _ (idx_mem P hi)), Option.bind_some]
    simp only []
    rw [decide_true, Bool.not_true, cond_false, gO_pos (by simp only [List.length_singleton]; omega), gO_pos (by unfold inI; omega), take_idx P hi, List.map_append]
    rfl
  · refine Comes.stop ?_
    have := TextsL_ok (P.map putL) (fun s hs => by
      obtain ⟨p, hp, rfl⟩ := List.mem_map.1 hs
      have := putL_len (h p hp); omega) (by rw [List.length_map]; omega)
    simp only [step_pindex_Index_Text]
    rw [decide_eq_false (by omega), cond_false, List.take_length, this, map_flat]
    rfl
end Go.Proofs.Ythpgedneniekmaa.K
