/- SizeTrees: no tree is larger. -/
import Derived.Test.YtfnlcnnoedmfiaaAPT08b
import Derived.Test.YtfnlcnnoedmfiaaAWLaw20
namespace Go.Proofs.Ytfnlcnnoedmfiaa.K
open Go
set_option linter.unusedVariables false
set_option linter.unusedSimpArgs false
theorem RPath_ok (k : Arr 32 UInt8) : g_ref02_Path k = some (pathL k.1) := by
  have hk : k.1.length = 32 := k.2
  have hl : (pathL k.1).length = 64 := by rw [pathL_len, hk]
  refine theC_eq (Comes.next (c' := .L1 ((pathL k.1).take 0) ((0 : Nat) : Int)) (by simp only [step_ref02_Path]; rfl) ?_)
  refine Comes.upto (fun i => C_ref02_Path.L1 ((pathL k.1).take i) (i : Int)) 64 (fun i hi => ?_) (Comes.stop ?_)
  · have e1 : (i : Int).tdiv 2 = ((i / 2 : Nat) : Int) := by rw [Int.tdiv_eq_ediv_of_nonneg (by omega)]; omega
    have e2 : (i : Int).tmod 2 = ((i % 2 : Nat) : Int) := by rw [Int.tmod_eq_emod_of_nonneg (by omega)]; omega
    have e3 : ((pathL k.1).take i).length ≤ 64 := by rw [List.length_take]; omega
    have e4 : idx k.1 ((i / 2 : Nat) : Int) = k.1.getD (i / 2) 0 := idx_nat _ _
    simp only [step_ref02_Path]
    rw [decide_eq_true (by omega), cond_true, e1, gO_pos ⟨by omega, by unfold inI; omega⟩, gO_pos (by omega), e2, e4]
    by_cases h : i % 2 = 0
    · rw [decide_eq_true (by omega), cond_true, Option.bind_some, gO_pos (by simp only [List.length_singleton]; omega), gO_pos (by unfold inI; omega), path_even _ i h (by omega)]
      rfl
    · rw [decide_eq_false (by omega), cond_false, Option.bind_some, gO_pos (by simp only [List.length_singleton]; omega), gO_pos (by unfold inI; omega), path_odd _ i (by omega) (by omega)]
      rfl
  · simp only [step_ref02_Path]
    rw [decide_eq_false (by omega), cond_false, List.take_of_length_le (by omega)]
noncomputable def fixP (x : Pair) : Pair :=
  let y : Pair := if x.fValue = [] then ⟨x.fKey, [118]⟩ else x
  if 100 < y.fValue.length then ⟨y.fKey, y.fValue.take 100⟩ else y
theorem fixP_le (x : Pair) : (fixP x).fValue.length ≤ 100 := by
  unfold fixP
  simp only
  generalize (if x.fValue = [] then (⟨x.fKey, [118]⟩ : Pair) else x) = y
  split
  · rw [List.length_take]; omega
  · omega
theorem Pairs_ok (l : List Pair) : g_law08_Pairs l = some ((l.take 24).map fixP) := by
  refine theC_eq (Comes.next (c' := .L1 ((l.take 0).map fixP) ((0 : Nat) : Int)) (by simp only [step_law08_Pairs]; rfl) ?_)
  refine Comes.upto (fun i => C_law08_Pairs.L1 ((l.take i).map fixP) (i : Int)) (min l.length 24) (fun i hi => ?_) (Comes.stop ?_) |> fun h => (show l.take 24 = l.take (min l.length 24) from ?_) ▸ h
  · have hi1 : i < l.length := by omega
    have e3 : ((l.take i).map fixP).length ≤ 24 := by rw [List.length_map, List.length_take]; omega
    have eb : ((idx l (i : Int)).fValue == ([] : List UInt8)) = decide ((idx l (i : Int)).fValue = []) := by rw [Bool.eq_iff_iff]; simp
    simp only [step_law08_Pairs]
    rw [decide_eq_true (by omega), decide_eq_true (by omega), Bool.true_and, cond_true, gO_pos (by omega), eb, take_idx l hi1, List.map_append, List.map_cons, List.map_nil]
    generalize idx l (i : Int) = x
    generalize (l.take i).map fixP = acc at *
    have : ((bif decide (x.fValue = []) then some (⟨x.fKey, [118]⟩ : Pair) else some x) : Option Pair) = some (if x.fValue = [] then ⟨x.fKey, [118]⟩ else x) := by
      by_cases h : x.fValue = []
      · rw [decide_eq_true h, cond_true, if_pos h]
      · rw [decide_eq_false h, cond_false, if_neg h]
    rw [this, Option.bind_some]
    unfold fixP
    simp only
    generalize (if x.fValue = [] then (⟨x.fKey, [118]⟩ : Pair) else x) = y
    by_cases h : 100 < y.fValue.length
    · rw [decide_eq_true (by omega), cond_true, gO_pos (by omega), Option.bind_some, gO_pos (by simp only [List.length_singleton]; omega), gO_pos (by unfold inI; omega), if_pos h]
      rfl
    · rw [decide_eq_false (by omega), cond_false, Option.bind_some, gO_pos (by simp only [List.length_singleton]; omega), gO_pos (by unfold inI; omega), if_neg h]
      rfl
  · simp only [step_law08_Pairs]
    by_cases h : l.length < 24
    · rw [decide_eq_false (by omega), Bool.false_and, cond_false]
    · rw [decide_eq_false (p := ((min l.length 24 : Nat) : Int) < 24) (by omega), Bool.and_false, cond_false]
  · by_cases h : l.length ≤ 24
    · rw [Nat.min_eq_left h, List.take_length, List.take_of_length_le h]
    · rw [Nat.min_eq_right (by omega)]
def lastB (r : List Pair) (x : Pair) : Bool := r.all fun y => !(y.fKey.1 == x.fKey.1)
def insL : List Pair → List In
  | [] => []
  | x :: r => (if lastB r x = true then [⟨pathL x.fKey.1, x.fValue⟩] else []) ++ insL r
theorem insL_len : ∀ l : List Pair, (insL l).length ≤ l.length
  | [] => Nat.le_refl _
  | x :: r => by
    have := insL_len r
    rw [insL, List.length_append, List.length_cons]
    split
    · rw [List.length_singleton]; omega
    · rw [List.length_nil]; omega
theorem insL_mem : ∀ (l : List Pair) (y : In), y ∈ insL l → ∃ x ∈ l, y = ⟨pathL x.fKey.1, x.fValue⟩
  | [], y, h => by simp [insL] at h
  | x :: r, y, h => by
    rw [insL] at h
    rcases List.mem_append.1 h with h | h
    · split at h
      · exact ⟨x, List.mem_cons_self .., List.mem_singleton.1 h⟩
      · simp at h
    · obtain ⟨z, hz, e⟩ := insL_mem r y h
      exact ⟨z, List.mem_cons_of_mem _ hz, e⟩
theorem insL_nd : ∀ l : List Pair, (insL l).Pairwise fun x y => x.fPath ≠ y.fPath
  | [] => List.Pairwise.nil
  | x :: r => by
    have ih := insL_nd r
    rw [insL]
    split
    · rename_i h
      rw [List.singleton_append, List.pairwise_cons]
      refine ⟨fun y hy e => ?_, ih⟩
      obtain ⟨z, hz, rfl⟩ := insL_mem r y hy
      have h1 := List.all_eq_true.1 h z hz
      have h2 : x.fKey.1 = z.fKey.1 := by
        have := congrArg pairsL (show pathL x.fKey.1 = pathL z.fKey.1 from e)
        rwa [pairs_pathL, pairs_pathL] at this
      rw [h2] at h1
      simp at h1
    · exact ih
theorem Ins_ok (l : List Pair) (hn : l.length ≤ 1000) : g_ref08_Ins l = some (insL l) := by
  have inner : ∀ (acc : List In) (i : Nat) (R : List In), i < l.length → ∀ (k j : Nat) (b : Bool), k + j = l.length → Comes (step_ref08_Ins l) (.L3 acc (i : Int) (b && lastB (l.drop j) (idx l (i : Int))) ((l.length : Nat) : Int)) R → Comes (step_ref08_Ins l) (.L3 acc (i : Int) b (j : Int)) R := by
    intro acc i R hi k
    induction k with
    | zero =>
      intro j b hj h
      have : j = l.length := by omega
      subst this
      rw [List.drop_length] at h
      rw [show (b && lastB [] (idx l (i : Int))) = b by simp [lastB]] at h
      exact h
    | succ k ih =>
      intro j b hj h
      have hj2 : j < l.length := by omega
      refine Comes.next (c' := .L3 acc (i : Int) (b && !((idx l (j : Int)).fKey.1 == (idx l (i : Int)).fKey.1)) ((j + 1 : Nat) : Int)) ?_ (ih (j + 1) _ (by omega) ?_)
      · simp only [step_ref08_Ins]
        rw [decide_eq_true (by omega), cond_true, gO_pos (fun _ => by omega), gO_pos (fun _ => by omega), gO_pos (by unfold inI; omega)]
        rfl
      · rw [drop_idx l hj2] at h
        rw [Bool.and_assoc]
        exact h
  have main : ∀ (k i : Nat) (acc : List In), k + i = l.length → acc.length ≤ i → Comes (step_ref08_Ins l) (.L1 acc (i : Int)) (acc ++ insL (l.drop i)) := by
    intro k
    induction k with
    | zero =>
      intro i acc hi ha
      refine Comes.stop ?_
      simp only [step_ref08_Ins]
      rw [decide_eq_false (by omega), cond_false, List.drop_eq_nil_of_le (by omega), insL, List.append_nil]
    | succ k ih =>
      intro i acc hi ha
      have hi2 : i < l.length := by omega
      refine Comes.next (c' := .L3 acc (i : Int) true ((i + 1 : Nat) : Int)) ?_ (inner acc i _ hi2 (l.length - (i + 1)) (i + 1) true (by omega) ?_)
      · simp only [step_ref08_Ins]
        rw [decide_eq_true (by omega), cond_true, gO_pos (by unfold inI; omega)]
        rfl
      · rw [Bool.true_and, drop_idx l hi2, insL]
        have J : ∀ a : List In, a.length ≤ i + 1 → Comes (step_ref08_Ins l) (.J2 a (i : Int)) (a ++ insL (l.drop (i + 1))) := by
          intro a h
          refine Comes.next (c' := .L1 a ((i + 1 : Nat) : Int)) ?_ (ih (i + 1) a (by omega) h)
          simp only [step_ref08_Ins]
          rw [gO_pos (by unfold inI; omega)]
          rfl
        cases hb : lastB (l.drop (i + 1)) (idx l (i : Int)) with
        | true =>
          have := J (acc ++ [⟨pathL (idx l (i : Int)).fKey.1, (idx l (i : Int)).fValue⟩]) (by simp; omega)
          rw [List.append_assoc] at this
          refine Comes.next ?_ (by rw [if_pos rfl]; exact this)
          simp only [step_ref08_Ins]
          rw [decide_eq_false (by omega), cond_false, cond_true, gO_pos (by omega), RPath_ok, Option.bind_some, gO_pos (by omega), gO_pos (by simp only [List.length_singleton]; omega)]
        | false =>
          have := J acc (by omega)
          refine Comes.next ?_ (by rw [if_neg (by simp), List.nil_append]; exact this)
          simp only [step_ref08_Ins]
          rw [decide_eq_false (by omega), cond_false, cond_false]
  exact theC_eq (Comes.next (by simp only [step_ref08_Ins]; rfl) (main l.length 0 [] rfl (Nat.le_refl _)))
def mxF {α : Type} (f : α → Nat) (l : List α) : Nat := l.foldl (fun n x => max n (f x)) 0
theorem mxF_snoc {α : Type} (f : α → Nat) (l : List α) (x : α) : mxF f (l ++ [x]) = max (mxF f l) (f x) := by simp [mxF]
theorem fold_max {α : Type} (f : α → Nat) : ∀ (l : List α) (z : Nat), z ≤ l.foldl (fun n x => max n (f x)) z ∧ ∀ x ∈ l, f x ≤ l.foldl (fun n x => max n (f x)) z
  | [], z => ⟨Nat.le_refl _, by simp⟩
  | y :: r, z => by
    obtain ⟨h1, h2⟩ := fold_max f r (max z (f y))
    rw [List.foldl_cons]
    refine ⟨by omega, fun x hx => ?_⟩
    rcases List.mem_cons.1 hx with rfl | hx
    · omega
    · exact h2 x hx
theorem fold_le {α : Type} (f : α → Nat) (b : Nat) : ∀ (l : List α) (z : Nat), z ≤ b → (∀ x ∈ l, f x ≤ b) → l.foldl (fun n x => max n (f x)) z ≤ b
  | [], z, h, _ => h
  | y :: r, z, h, hx => by
    rw [List.foldl_cons]
    exact fold_le f b r _ (by have := hx y (List.mem_cons_self ..); omega) fun x h => hx x (List.mem_cons_of_mem _ h)
theorem Value_ok (l : List Pair) (hn : l.length ≤ 1000) : g_ref20_Value l = some ((mxF (fun x : Pair => x.fValue.length) l : Nat) : Int) := by
  refine theC_eq (Comes.next (c' := .L1 ((mxF (fun x : Pair => x.fValue.length) (l.take 0) : Nat) : Int) ((0 : Nat) : Int)) (by simp only [step_ref20_Value]; rfl) ?_)
  refine Comes.upto (fun i => C_ref20_Value.L1 ((mxF (fun x : Pair => x.fValue.length) (l.take i) : Nat) : Int) (i : Int)) l.length (fun i hi => ?_) (Comes.stop ?_)
  · simp only [step_ref20_Value]
    rw [decide_eq_true (by omega), cond_true, gO_pos (by omega), High_ok, Option.bind_some, gO_pos (by unfold inI; omega), take_idx l hi, mxF_snoc]
    rfl
  · simp only [step_ref20_Value]
    rw [decide_eq_false (by omega), cond_false, List.take_length]
theorem Longest_ok (l : List (List UInt8)) (hn : l.length ≤ 1000000) : g_ref20_Longest l = some ((mxF List.length l : Nat) : Int) := by
  refine theC_eq (Comes.next (c' := .L1 ((mxF List.length (l.take 0) : Nat) : Int) ((0 : Nat) : Int)) (by simp only [step_ref20_Longest]; rfl) ?_)
  refine Comes.upto (fun i => C_ref20_Longest.L1 ((mxF List.length (l.take i) : Nat) : Int) (i : Int)) l.length (fun i hi => ?_) (Comes.stop ?_)
  · simp only [step_ref20_Longest]
    rw [decide_eq_true (by omega), cond_true, gO_pos (by omega), High_ok, Option.bind_some, gO_pos (by unfold inI; omega), take_idx l hi, mxF_snoc]
    rfl
  · simp only [step_ref20_Longest]
    rw [decide_eq_false (by omega), cond_false, List.take_length]
theorem wt_take (l : List (List UInt8)) (i : Nat) : wt (l.take i) ≤ wt l := by
  have := wt_app (l.take i) (l.drop i)
  rw [List.take_append_drop] at this; omega
theorem wt_one (x : List UInt8) : wt [x] = x.length := by simp [wt]
theorem Bytes_ok (l : List (List UInt8)) (hn : l.length ≤ 1000000) (hw : wt l ≤ 1000000000) : g_ref13_Bytes l = some ((wt l : Nat) : Int) := by
  refine theC_eq (Comes.next (c' := .L1 ((wt (l.take 0) : Nat) : Int) ((0 : Nat) : Int)) (by simp only [step_ref13_Bytes]; rfl) ?_)
  refine Comes.upto (fun i => C_ref13_Bytes.L1 ((wt (l.take i) : Nat) : Int) (i : Int)) l.length (fun i hi => ?_) (Comes.stop ?_)
  · have e : wt (l.take (i + 1)) = wt (l.take i) + (idx l (i : Int)).length := by rw [take_idx l hi, wt_app, wt_one]
    have e2 := wt_take l (i + 1)
    simp only [step_ref13_Bytes]
    rw [decide_eq_true (by omega), cond_true, gO_pos (by omega), gO_pos (by unfold inI; omega), gO_pos (by unfold inI; omega), e]
    rfl
  · simp only [step_ref13_Bytes]
    rw [decide_eq_false (by omega), cond_false, List.take_length]
theorem Weight_ok (l : List (List UInt8)) (hn : l.length ≤ 1000000) (hw : wt l ≤ 1000000000) : g_ref09_Weight l = some ((wt l : Nat) : Int) := by
  refine theC_eq (Comes.next (c' := .L1 ((wt (l.take 0) : Nat) : Int) ((0 : Nat) : Int)) (by simp only [step_ref09_Weight]; rfl) ?_)
  refine Comes.upto (fun i => C_ref09_Weight.L1 ((wt (l.take i) : Nat) : Int) (i : Int)) l.length (fun i hi => ?_) (Comes.stop ?_)
  · have e : wt (l.take (i + 1)) = wt (l.take i) + (idx l (i : Int)).length := by rw [take_idx l hi, wt_app, wt_one]
    have e2 := wt_take l (i + 1)
    simp only [step_ref09_Weight]
    rw [decide_eq_true (by omega), cond_true, gO_pos (by omega), gO_pos (by unfold inI; omega), gO_pos (by unfold inI; omega), e]
    rfl
  · simp only [step_ref09_Weight]
    rw [decide_eq_false (by omega), cond_false, List.take_length]
theorem Bodies_ok (l : List (List UInt8)) (hn : l.length ≤ 1000000) : ∃ M, g_ref09_Bodies l = some M ∧ wt M ≤ wt l ∧ M.length ≤ l.length := by
  have main : ∀ (k i : Nat) (acc : List (List UInt8)), k + i = l.length → acc.length ≤ i → wt acc ≤ wt (l.take i) → ∃ M, Comes (step_ref09_Bodies l) (.L1 acc (i : Int)) M ∧ wt M ≤ wt l ∧ M.length ≤ l.length := by
    intro k
    induction k with
    | zero =>
      intro i acc hi ha hw
      refine ⟨acc, Comes.stop ?_, Nat.le_trans hw (wt_take l i), by omega⟩
      simp only [step_ref09_Bodies]
      rw [decide_eq_false (by omega), cond_false]
    | succ k ih =>
      intro i acc hi ha hw
      have hi2 : i < l.length := by omega
      have e : wt (l.take (i + 1)) = wt (l.take i) + (idx l (i : Int)).length := by rw [take_idx l hi2, wt_app, wt_one]
      by_cases hc : (decide ((i : Int) = 0) || decide ((32 : Int) ≤ ((idx l (i : Int)).length : Int))) = true
      · obtain ⟨M, h1, h2⟩ := ih (i + 1) (acc ++ [idx l (i : Int)]) (by omega) (by rw [List.length_append, List.length_singleton]; omega) (by rw [wt_app, wt_one]; omega)
        refine ⟨M, Comes.next ?_ h1, h2⟩
        simp only [step_ref09_Bodies]
        rw [decide_eq_true (p := (i : Int) < (l.length : Int)) (by omega), cond_true, gO_pos (fun _ => by omega), hc, cond_true, gO_pos (by omega), gO_pos (by simp only [List.length_singleton]; omega), Option.bind_some, gO_pos (by unfold inI; omega)]
        rfl
      · obtain ⟨M, h1, h2⟩ := ih (i + 1) acc (by omega) (by omega) (by omega)
        refine ⟨M, Comes.next ?_ h1, h2⟩
        rw [Bool.not_eq_true] at hc
        simp only [step_ref09_Bodies]
        rw [decide_eq_true (p := (i : Int) < (l.length : Int)) (by omega), cond_true, gO_pos (fun _ => by omega), hc, cond_false, Option.bind_some, gO_pos (by unfold inI; omega)]
        rfl
  obtain ⟨M, h1, h2⟩ := main l.length 0 [] rfl (Nat.le_refl _) (by simp [wt])
  exact ⟨M, theC_eq (Comes.next (by simp only [step_ref09_Bodies]; rfl) h1), h2⟩
theorem nwt_snoc (l : List Node) (x : Node) : nwt (l ++ [x]) = nwt l + (putP x).length := by simp [nwt]
theorem nwt_take (l : List Node) (i : Nat) : nwt (l.take i) ≤ nwt l := by
  have : nwt (l.take i ++ l.drop i) = nwt (l.take i) + nwt (l.drop i) := by simp only [nwt, List.map_append, List.sum_append]
  rw [List.take_append_drop] at this; omega
theorem Of_ok {v : Nat} {l : List In} {p : List UInt8} (h : WF v 64 l) (hp : p.length = 64) : ∃ M, g_ref13_Of l p = some M ∧ wt M ≤ 36440 + v ∧ M.length ≤ 65 := by
  obtain ⟨L, hL, h1, h2, h3⟩ := Path_ok h hp
  have main : ∀ (k i : Nat) (acc : List (List UInt8)), k + i = L.length → acc.length ≤ i → wt acc ≤ nwt (L.take i) → ∃ M, Comes (step_ref13_Of l p) (.L1 L acc (i : Int)) M ∧ wt M ≤ nwt L ∧ M.length ≤ L.length := by
    intro k
    induction k with
    | zero =>
      intro i acc hi ha hw
      refine ⟨acc, Comes.stop ?_, Nat.le_trans hw (nwt_take L i), by omega⟩
      simp only [step_ref13_Of]
      rw [decide_eq_false (by omega), cond_false]
    | succ k ih =>
      intro i acc hi ha hw
      have hi2 : i < L.length := by omega
      have e : nwt (L.take (i + 1)) = nwt (L.take i) + (putP (idx L (i : Int))).length := by rw [take_idx L hi2, nwt_snoc]
      have hput := h3 _ (idx_mem L hi2)
      by_cases hc : (decide ((i : Int) = 0) || decide ((32 : Int) ≤ ((putP (idx L (i : Int))).length : Int))) = true
      · obtain ⟨M, h1, h2⟩ := ih (i + 1) (acc ++ [putP (idx L (i : Int))]) (by omega) (by rw [List.length_append, List.length_singleton]; omega) (by rw [wt_app, wt_one]; omega)
        refine ⟨M, Comes.next ?_ h1, h2⟩
        simp only [step_ref13_Of]
        rw [decide_eq_true (p := (i : Int) < (L.length : Int)) (by omega), cond_true, gO_pos (by omega), hput, Option.bind_some, hc, cond_true, gO_pos (by simp only [List.length_singleton]; omega), Option.bind_some, gO_pos (by unfold inI; omega)]
        rfl
      · obtain ⟨M, h1, h2⟩ := ih (i + 1) acc (by omega) (by omega) (by omega)
        refine ⟨M, Comes.next ?_ h1, h2⟩
        rw [Bool.not_eq_true] at hc
        simp only [step_ref13_Of]
        rw [decide_eq_true (p := (i : Int) < (L.length : Int)) (by omega), cond_true, gO_pos (by omega), hput, Option.bind_some, hc, cond_false, Option.bind_some, gO_pos (by unfold inI; omega)]
        rfl
  obtain ⟨M, hM, hw, hn⟩ := main L.length 0 [] rfl (Nat.le_refl _) (by simp [wt])
  refine ⟨M, theC_eq (Comes.next ?_ hM), by omega, by omega⟩
  simp only [step_ref13_Of]
  rw [hL]; rfl
theorem within_ok {n : Nat} (h : n ≤ 1048576) : g_size_within (n : Int) = some (n : Int) := by
  unfold g_size_within maxI
  rw [if_neg (by omega)]
  unfold minI
  rw [if_neg (by omega)]
theorem sNode_ok {n : Nat} (h : n ≤ 1048576) : g_size_Node (n : Int) = some ((600 + n : Nat) : Int) := by
  unfold g_size_Node
  rw [within_ok h, Option.bind_some, gO_pos (by unfold inI; omega)]
  rfl
theorem sProof_ok {n : Nat} (h : n ≤ 1048576) : g_size_Proof (n : Int) = some ((37000 + n : Nat) : Int) := by
  unfold g_size_Proof
  rw [sNode_ok h, Option.bind_some, gO_pos (by unfold inI; omega)]
  congr 1; omega
theorem sTexts_ok {n : Nat} (h : n ≤ 1048576) : g_size_Texts (n : Int) = some ((65 * n : Nat) : Int) := by
  unfold g_size_Texts
  rw [within_ok h, Option.bind_some, gO_pos (by unfold inI; omega)]
  rfl
theorem sBody_ok {k v : Nat} (hk : k ≤ 1000) (h : v ≤ 100) : g_size_Body (k : Int) (v : Int) = some ((k * (1800 + v) : Nat) : Int) := by
  have e1 : (600 + v : Nat) + (1200 : Int) = ((1800 + v : Nat) : Int) := by omega
  have e2 : k * (1800 + v) ≤ 1000 * 1900 := Nat.mul_le_mul hk (by omega)
  unfold g_size_Body g_size_Body_1
  rw [within_ok (by omega), Option.bind_some, sNode_ok (by omega), Option.bind_some, e1, gO_pos (by unfold inI; omega), Option.bind_some, ← Int.natCast_mul, gO_pos (by unfold inI; omega)]
theorem sAwake : g_law20_awake = some true := by rfl
theorem ins_WF (l : List Pair) (hn : l.length ≤ 64) (hv : ∀ x ∈ l, x.fValue.length ≤ 100) : WF (mxF (fun x : Pair => x.fValue.length) l) 64 (insL l) where
  len x hx := by
    obtain ⟨y, hy, rfl⟩ := insL_mem l x hx
    show (pathL y.fKey.1).length = 64
    rw [pathL_len, y.fKey.2]
  nib x hx := by
    obtain ⟨y, hy, rfl⟩ := insL_mem l x hx
    exact right_pathL _
  val x hx := by
    obtain ⟨y, hy, rfl⟩ := insL_mem l x hx
    exact (fold_max (fun x : Pair => x.fValue.length) l 0).2 y hy
  nd := insL_nd l
  cnt := Nat.le_trans (insL_len l) hn
  dep := Nat.le_refl _
  top := fold_le _ 100 l 0 (Nat.zero_le _) hv
theorem SizeTrees_true (l : List Pair) (k : Arr 32 UInt8) : g_law20_SizeTrees l k = some true := by
  have hlen : ((l.take 24).map fixP).length ≤ 24 := by rw [List.length_map, List.length_take]; omega
  have hval : ∀ x ∈ (l.take 24).map fixP, x.fValue.length ≤ 100 := by
    intro x hx
    obtain ⟨y, _, rfl⟩ := List.mem_map.1 hx
    exact fixP_le y
  unfold g_law20_SizeTrees
  rw [Pairs_ok, Option.bind_some]
  generalize (l.take 24).map fixP = m at *
  have hW := ins_WF m (by omega) hval
  have hL := insL_len m
  have htop := hW.top
  rw [Ins_ok m (by omega), Option.bind_some, Value_ok m (by omega), Option.bind_some]
  generalize mxF (fun x : Pair => x.fValue.length) m = v at *
  generalize insL m = l at *
  obtain ⟨N, hN, hNO⟩ := Nodes_ok hW
  obtain ⟨P, hP, hP1, hP2⟩ := Of_ok (p := pathL k.1) hW (by rw [pathL_len, k.2])
  obtain ⟨n1, n2⟩ := hNO.wt_le htop (by omega)
  have hk : l.length * (1800 + v) ≤ 24 * 1900 := Nat.mul_le_mul (by omega) (by omega)
  obtain ⟨B, hB, hB1, hB2⟩ := Bodies_ok N (by omega)
  have hlong : mxF List.length N ≤ 600 + v := fold_le _ _ N 0 (by omega) fun s hs => by have := (hNO.2.1 s hs).2; omega
  rw [hN, Option.bind_some, RPath_ok, Option.bind_some, hP, Option.bind_some, sAwake, Option.bind_some]
  rw [show (true == true) = true from rfl, cond_true, Longest_ok N (by omega), Option.bind_some, cond_true, sNode_ok (by omega), Option.bind_some]
  rw [decide_eq_true (p := ((mxF List.length N : Nat) : Int) ≤ _) (by omega), show ((true && true) == true) = true from rfl, cond_true, Bytes_ok P (by omega) (by omega), Option.bind_some, cond_true, sProof_ok (by omega), Option.bind_some]
  rw [decide_eq_true (p := ((wt P : Nat) : Int) ≤ _) (by omega), show ((true && true && true) == true) = true from rfl, cond_true, hB, Option.bind_some, cond_true, Weight_ok B (by omega) (by omega), Option.bind_some, cond_true, sBody_ok (by omega) htop, Option.bind_some]
  rw [decide_eq_true (p := ((wt B : Nat) : Int) ≤ _) (by omega), show ((true && true && true && true) == true) = true from rfl, cond_true, show (1 : Int) = ((1 : Nat) : Int) from rfl, sTexts_ok (by omega), Option.bind_some, decide_eq_true (by omega)]
  rfl
end Go.Proofs.Ytfnlcnnoedmfiaa.K
