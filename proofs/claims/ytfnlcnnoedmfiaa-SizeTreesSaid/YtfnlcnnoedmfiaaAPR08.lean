/- The references of layers 02, 06 and 08: paths, what is laid of nodes, and the lists of which trees are built. -/
import Derived.Test.YtfnlcnnoedmfiaaAPNode
import Derived.Test.YtfnlcnnoedmfiaaAPR03c
namespace Go.Proofs.Ytfnlcnnoedmfiaa.K
open Go
set_option linter.unusedVariables false
set_option linter.unusedSimpArgs false
def txt (s : List UInt8) : Item := ⟨false, s, []⟩
theorem txt_rt (s : List UInt8) (n : Nat) : RT (n + 1) (txt s) := by
  refine ⟨fun _ => rfl, fun h => ?_, fun y hy => ?_⟩
  · exact absurd h (by simp [txt])
  · exact absurd hy (by simp [txt])
theorem txt_enc (s : List UInt8) : ienc (txt s) = if s.length = 1 ∧ (s.getD 0 0).toNat < 128 then s else hd false s.length ++ s := by
  rw [ienc_eq, if_pos (show (txt s).fList = false from rfl)]; rfl
theorem txt_len {s : List UInt8} (h : s.length ≤ 100000) : (ienc (txt s)).length ≤ s.length + 6 := by
  have := hd_le false (k := s.length) (by omega)
  rw [txt_enc]
  split
  · omega
  · rw [List.length_append]; omega
theorem txt_le {s : List UInt8} (h : s.length < 56) : (ienc (txt s)).length ≤ s.length + 1 := by
  rw [txt_enc]
  split
  · omega
  · rw [List.length_append, hd_len, if_pos h]; omega
theorem hd_le2 (l : Bool) {k : Nat} (h : k < 256) : (hd l k).length ≤ 2 := by
  have := bigN_len 1 k (by omega)
  rw [hd_len]; split <;> omega
theorem hd_le3 (l : Bool) {k : Nat} (h : k < 65536) : (hd l k).length ≤ 3 := by
  have := bigN_len 2 k (by omega)
  rw [hd_len]; split <;> omega
theorem txt_le2 {s : List UInt8} (h : s.length < 256) : (ienc (txt s)).length ≤ s.length + 2 := by
  have := hd_le2 false h
  rw [txt_enc]
  split
  · omega
  · rw [List.length_append]; omega
theorem text_ok {s : List UInt8} (h : s.length ≤ 100000) : g_ref06_text s = some (ienc (txt s)) := by
  unfold g_ref06_text
  have := RPut_ok (txt_rt s 0) (by have := txt_len h; omega)
  rw [show (⟨false, s, []⟩ : Item) = txt s from rfl, this]; rfl
def refP (s : List UInt8) : List UInt8 := if 32 ≤ s.length then shaB s else s
theorem refP_le (s : List UInt8) : (refP s).length ≤ 32 := by
  unfold refP; split
  · rw [shaB_len]; omega
  · omega
theorem R07_ok {s : List UInt8} (h : s.length ≤ 1000000) : g_ref07_Of s = some (refP s) := by
  unfold g_ref07_Of refP
  by_cases h1 : 32 ≤ s.length
  · rw [decide_eq_true (by omega), cond_true, ROf_ok s h, if_pos h1]; rfl
  · rw [decide_eq_false (by omega), cond_false, if_neg h1]
def rfP (k : List UInt8) : List UInt8 := if k = [] ∨ k.length = 32 then ienc (txt k) else k
theorem rfP_le {k : List UInt8} (h : k.length ≤ 32) : (rfP k).length ≤ 33 := by
  unfold rfP; split
  · have := txt_le (s := k) (by omega); omega
  · omega
theorem ref06_ok {k : List UInt8} (h : k.length ≤ 32) : g_ref06_ref k = some (rfP k) := by
  unfold g_ref06_ref rfP
  by_cases h1 : k = []
  · subst h1; rw [if_pos (.inl rfl), text_ok (by simp)]; rfl
  · by_cases h2 : k.length = 32
    · rw [if_pos (.inr h2), decide_eq_true (by omega), Bool.or_true, cond_true, text_ok (by omega)]; rfl
    · rw [if_neg (by simp [h1, h2]), decide_eq_false (by omega), Bool.or_false, show (k == []) = false by simpa using h1, cond_false]
theorem flat_le {α β : Type} (f : α → List β) (b : Nat) : ∀ l : List α, (∀ x ∈ l, (f x).length ≤ b) → (l.flatMap f).length ≤ l.length * b
  | [], _ => by simp
  | x :: r, h => by
    have h1 := flat_le f b r fun y hy => h y (List.mem_cons_of_mem _ hy)
    have h2 := h x (List.mem_cons_self ..)
    rw [List.flatMap_cons, List.length_append, List.length_cons, Nat.succ_mul]; omega
def bodyP (n : Node) : List UInt8 :=
  if n.fKind = 1 then ienc (txt (packS n.fPath true)) ++ ienc (txt n.fValue)
  else if n.fKind = 2 then ienc (txt (packS n.fPath false)) ++ rfP (idx n.fKids.1 0)
  else n.fKids.1.flatMap rfP ++ [128]
def putP (n : Node) : List UInt8 := hd true (bodyP n).length ++ bodyP n
theorem packS_le {p : List UInt8} (h : okP p = true) (b : Bool) : (packS p b).length ≤ 33 := by
  have := packS_len p b; have := (okP_ok h).2; omega
theorem kids_len (n : Node) : n.fKids.1.length = 16 := n.fKids.2
theorem bodyP_le {n : Node} (hp : okP n.fPath = true) (hv : n.fValue.length ≤ 200) (hk : ∀ k ∈ n.fKids.1, k.length ≤ 32) :
    (n.fKind = 1 → (bodyP n).length ≤ 36 + n.fValue.length) ∧ (n.fKind = 2 → (bodyP n).length ≤ 67) ∧ (bodyP n).length ≤ 529 := by
  have h16 := kids_len n
  unfold bodyP
  by_cases h1 : n.fKind = 1
  · rw [if_pos h1, List.length_append]
    have := packS_le hp true
    have := txt_le (s := packS n.fPath true) (by omega)
    have := txt_le2 (s := n.fValue) (by omega)
    omega
  · by_cases h2 : n.fKind = 2
    · rw [if_neg h1, if_pos h2, List.length_append]
      have := packS_le hp false
      have := txt_le (s := packS n.fPath false) (by omega)
      have := rfP_le (hk _ (idx_mem n.fKids.1 (i := 0) (by omega)))
      rw [show ((0 : Nat) : Int) = 0 from rfl] at this
      omega
    · rw [if_neg h1, if_neg h2, List.length_append]
      have := flat_le rfP 33 n.fKids.1 fun k hk' => rfP_le (hk k hk')
      rw [h16] at this
      simp only [List.length_singleton]
      omega
theorem putP_le {n : Node} (hp : okP n.fPath = true) (hv : n.fValue.length ≤ 200) (hk : ∀ k ∈ n.fKids.1, k.length ≤ 32) :
    (n.fKind = 1 → (putP n).length ≤ 39 + n.fValue.length) ∧ (n.fKind = 2 → (putP n).length ≤ 70) ∧ (putP n).length ≤ 532 ∧ 1 ≤ (putP n).length := by
  obtain ⟨h1, h2, h3⟩ := bodyP_le hp hv hk
  have h4 := hd_le3 true (k := (bodyP n).length) (by omega)
  have h5 : 1 ≤ (hd true (bodyP n).length).length := List.length_pos_iff.2 (hd_ne _ _)
  unfold putP
  rw [List.length_append]
  exact ⟨fun h => by have := h1 h; omega, fun h => by have := h2 h; omega, by omega, by omega⟩
theorem RPutN_ok (n : Node) (hkd : n.fKind = 1 ∨ n.fKind = 2 ∨ n.fKind = 3) (hp : okP n.fPath = true) (hv : n.fValue.length ≤ 200) (hk : ∀ k ∈ n.fKids.1, k.length ≤ 32) :
    g_ref06_Put n = some (putP n) := by
  have h16 := kids_len n
  obtain ⟨_, _, hb⟩ := bodyP_le hp hv hk
  have hJ : Comes (step_ref06_Put n) (.J3 (bodyP n)) (putP n) := by
    refine Comes.stop ?_
    have := hd_le3 true (k := (bodyP n).length) (by omega)
    simp only [step_ref06_Put]
    rw [RHead_ok _ true (by omega), Option.bind_some, gO_pos (by omega)]
    rfl
  refine theC_eq ?_
  rcases hkd with h | h | h
  · refine Comes.next ?_ hJ
    have e1 := packS_le hp true
    have e2 := txt_le (s := packS n.fPath true) (by omega)
    have e3 := txt_le2 (s := n.fValue) (by omega)
    simp only [step_ref06_Put]
    rw [decide_eq_true h, cond_true, RPack_ok hp, Option.bind_some, text_ok (by omega), Option.bind_some, text_ok (by omega), Option.bind_some, gO_pos (by omega), Option.bind_some, decide_eq_false (by omega), cond_false, Option.bind_some, decide_eq_false (by omega), cond_false]
    unfold bodyP
    rw [if_pos h]
  · refine Comes.next ?_ hJ
    have e1 := packS_le hp false
    have e2 := txt_le (s := packS n.fPath false) (by omega)
    have e3 := hk _ (idx_mem n.fKids.1 (i := 0) (by omega))
    rw [show ((0 : Nat) : Int) = 0 from rfl] at e3
    have e4 := rfP_le e3
    simp only [step_ref06_Put]
    rw [decide_eq_false (by omega), cond_false, Option.bind_some, decide_eq_true h, cond_true, RPack_ok hp, Option.bind_some, text_ok (by omega), Option.bind_some, ref06_ok e3, Option.bind_some, gO_pos (by omega), Option.bind_some, decide_eq_false (by omega), cond_false]
    unfold bodyP
    rw [if_neg (by omega), if_pos h]
  · have hL : Comes (step_ref06_Put n) (.L4 ((n.fKids.1.take 0).flatMap rfP) ((0 : Nat) : Int)) (putP n) := by
      refine Comes.upto (fun i => C_ref06_Put.L4 ((n.fKids.1.take i).flatMap rfP) (i : Int)) 16 (fun i hi => ?_) (Comes.next ?_ hJ)
      · have e3 := hk _ (idx_mem n.fKids.1 (i := i) (by omega))
        have e4 := rfP_le e3
        have e5 := flat_le rfP 33 (n.fKids.1.take i) fun k hk' => rfP_le (hk k (List.mem_of_mem_take hk'))
        rw [List.length_take] at e5
        have e6 : min i n.fKids.1.length * 33 ≤ 16 * 33 := Nat.mul_le_mul_right _ (by omega)
        simp only [step_ref06_Put]
        rw [decide_eq_true (by omega), cond_true, gO_pos (by omega), ref06_ok e3, Option.bind_some, gO_pos (by omega), gO_pos (by unfold inI; omega), take_idx _ (by omega), List.flatMap_append, List.flatMap_singleton]
        rfl
      · have e5 := flat_le rfP 33 (n.fKids.1.take 16) fun k hk' => rfP_le (hk k (List.mem_of_mem_take hk'))
        rw [List.length_take] at e5
        simp only [step_ref06_Put]
        rw [decide_eq_false (by omega), cond_false, gO_pos (by simp only [List.length_singleton]; omega), List.take_of_length_le (by omega)]
        unfold bodyP
        rw [if_neg (by omega), if_neg (by omega)]
    refine Comes.next ?_ hL
    simp only [step_ref06_Put]
    rw [decide_eq_false (by omega), cond_false, Option.bind_some, decide_eq_false (by omega), cond_false, Option.bind_some, decide_eq_true h, cond_true]
    rfl
theorem RCommon_ok (a b : List UInt8) (ha : a.length ≤ 1000000) : g_ref02_Common a b = some ((common a b : Nat) : Int) := by
  have : ∀ k i : Nat, k + i = a.length → Comes (step_ref02_Common a b) (.L1 (i : Int)) ((i + common (a.drop i) (b.drop i) : Nat) : Int) := by
    intro k
    induction k with
    | zero =>
      intro i hi
      refine Comes.stop ?_
      simp only [step_ref02_Common]
      rw [decide_eq_false (by omega), cond_false, common_end (by omega)]
      rw [show i + 0 = a.length by omega]
    | succ k ih =>
      intro i hi
      by_cases hb : i < b.length
      · by_cases he : (a.getD i 0).toNat = (b.getD i 0).toNat
        · have := ih (i + 1) (by omega)
          refine Comes.next (c' := .L1 ((i + 1 : Nat) : Int)) ?_ (by rw [common_go (by omega) hb, if_pos he, show i + (common (a.drop (i + 1)) (b.drop (i + 1)) + 1) = i + 1 + common (a.drop (i + 1)) (b.drop (i + 1)) by omega]; exact this)
          simp only [step_ref02_Common]
          rw [decide_eq_true (by omega), cond_true, gO_pos (by omega), gO_pos (by omega), decide_eq_false (by omega), Bool.false_or]
          rw [show idx a (i : Int) = a.getD i 0 from idx_nat a i, show idx b (i : Int) = b.getD i 0 from idx_nat b i, he, decide_eq_true rfl, Bool.not_true, cond_false, gO_pos (by unfold inI; omega)]
          rfl
        · refine Comes.stop ?_
          rw [common_go (by omega) hb, if_neg he]
          simp only [step_ref02_Common]
          rw [decide_eq_true (by omega), cond_true, gO_pos (by omega), gO_pos (by omega)]
          rw [show idx a (i : Int) = a.getD i 0 from idx_nat a i, show idx b (i : Int) = b.getD i 0 from idx_nat b i, show decide (((a.getD i 0).toNat : Int) = ((b.getD i 0).toNat : Int)) = false from decide_eq_false (by omega), Bool.not_false, Bool.or_true, cond_true]
          rfl
      · refine Comes.stop ?_
        rw [common_end (by omega)]
        simp only [step_ref02_Common]
        rw [decide_eq_true (by omega), cond_true, decide_eq_true (p := (b.length : Int) ≤ (i : Int)) (by omega), gO_pos (by intro h; cases h), gO_pos (by intro h; cases h), Bool.true_or, cond_true]
        rfl
  have := this a.length 0 rfl
  rw [Nat.zero_add, List.drop_zero, List.drop_zero] at this
  exact theC_eq (Comes.next (by simp only [step_ref02_Common]; rfl) this)
theorem common_iff : ∀ (m : Nat) (a b : List UInt8), m ≤ common a b ↔ m ≤ a.length ∧ m ≤ b.length ∧ a.take m = b.take m
  | 0, a, b => by simp
  | m + 1, [], b => by simp [common]
  | m + 1, x :: a, [] => by simp [common]
  | m + 1, x :: a, y :: b => by
    have ih := common_iff m a b
    rw [common]
    by_cases h : x = y
    · rw [if_pos h]
      simp only [List.length_cons, List.take_succ_cons, h, List.cons.injEq, true_and, Nat.add_le_add_iff_right]
      exact ih
    · rw [if_neg h]
      simp [h]
theorem Low_ok (a b : Nat) : g_ref01_Low (a : Int) (b : Int) = some ((min a b : Nat) : Int) := by
  unfold g_ref01_Low
  by_cases h : a < b
  · rw [decide_eq_true (by omega), cond_true, Nat.min_eq_left (by omega)]
  · rw [decide_eq_false (by omega), cond_false, Nat.min_eq_right (by omega)]
theorem High_ok (a b : Nat) : g_ref01_High (a : Int) (b : Int) = some ((max a b : Nat) : Int) := by
  unfold g_ref01_High
  by_cases h : b < a
  · rw [decide_eq_true (by omega), cond_true, Nat.max_eq_left (by omega)]
  · rw [decide_eq_false (by omega), cond_false, Nat.max_eq_right (by omega)]
noncomputable def p0 (l : List In) : List UInt8 := (idx l (0 : Int)).fPath
noncomputable def comN (l : List In) : Nat → Nat
  | 0 => (p0 l).length
  | i + 1 => min (comN l i) (common (p0 l) (idx l ((i + 1 : Nat) : Int)).fPath)
noncomputable def comL (l : List In) : Nat := comN l (l.length - 1)
theorem comN_le (l : List In) : ∀ i : Nat, comN l i ≤ (p0 l).length ∧ ∀ j : Nat, 1 ≤ j → j ≤ i → comN l i ≤ common (p0 l) (idx l (j : Int)).fPath
  | 0 => ⟨Nat.le_refl _, fun j h1 h2 => by omega⟩
  | i + 1 => by
    obtain ⟨h1, h2⟩ := comN_le l i
    refine ⟨by rw [comN]; omega, fun j hj1 hj2 => ?_⟩
    rw [comN]
    by_cases h : j = i + 1
    · subst h; omega
    · have := h2 j hj1 (by omega); omega
theorem comN_max (l : List In) (m : Nat) (h0 : m ≤ (p0 l).length) : ∀ i : Nat, (∀ j : Nat, 1 ≤ j → j ≤ i → m ≤ common (p0 l) (idx l (j : Int)).fPath) → m ≤ comN l i
  | 0, _ => h0
  | i + 1, h => by
    have := comN_max l m h0 i fun j h1 h2 => h j h1 (by omega)
    have := h (i + 1) (by omega) (by omega)
    rw [comN]; omega
theorem idx_of_mem {α : Type} [Inhabited α] {l : List α} {x : α} (h : x ∈ l) : ∃ i : Nat, i < l.length ∧ idx l (i : Int) = x := by
  obtain ⟨i, hi, rfl⟩ := List.mem_iff_getElem.1 h
  exact ⟨i, hi, idx_get l hi⟩
theorem comL_take {l : List In} {x : In} (hx : x ∈ l) : comL l ≤ x.fPath.length ∧ x.fPath.take (comL l) = (p0 l).take (comL l) := by
  obtain ⟨i, hi, rfl⟩ := idx_of_mem hx
  obtain ⟨h1, h2⟩ := comN_le l (l.length - 1)
  cases i with
  | zero => exact ⟨h1, rfl⟩
  | succ i =>
    have := (common_iff _ _ _).1 (h2 (i + 1) (by omega) (by omega))
    exact ⟨this.2.1, this.2.2.symm⟩
theorem comL_max {l : List In} {m : Nat} (hl : l ≠ []) (h : ∀ x ∈ l, m ≤ x.fPath.length ∧ x.fPath.take m = (p0 l).take m) : m ≤ comL l := by
  have hp : 0 < l.length := List.length_pos_iff.2 hl
  have h0 : idx l (0 : Int) ∈ l := idx_mem l (i := 0) hp
  refine comN_max l m (h _ h0).1 _ fun j h1 h2 => (common_iff _ _ _).2 ?_
  have hj : idx l (j : Int) ∈ l := idx_mem l (by omega)
  exact ⟨(h _ h0).1, (h _ hj).1, (h _ hj).2.symm⟩
theorem RCom_ok (l : List In) (hl : l ≠ []) (hp : ∀ x ∈ l, x.fPath.length ≤ 1000) (hn : l.length ≤ 1000) : g_ref08_Common l = some ((comL l : Nat) : Int) := by
  have hpos : 0 < l.length := List.length_pos_iff.2 hl
  refine theC_eq (Comes.next (c' := .L1 ((comN l 0 : Nat) : Int) (((0 : Nat) + 1 : Int))) ?_ ?_)
  · simp only [step_ref08_Common]
    rw [gO_pos (by omega)]
    rfl
  · refine Comes.upto (fun i => C_ref08_Common.L1 ((comN l i : Nat) : Int) ((i : Int) + 1)) (l.length - 1) (fun i hi => ?_) (Comes.stop ?_)
    · have := hp _ (idx_mem l (i := 0) hpos)
      simp only [step_ref08_Common]
      rw [decide_eq_true (by omega), cond_true, gO_pos (by omega), gO_pos (by omega), show ((i : Int) + 1) = ((i + 1 : Nat) : Int) by omega, RCommon_ok _ _ (by exact Nat.le_trans this (by omega)), Option.bind_some, Low_ok, Option.bind_some, gO_pos (by unfold inI; omega)]
      rfl
    · simp only [step_ref08_Common]
      rw [decide_eq_false (by omega), cond_false]
      rfl
def rest (l : List In) (n : Nat) : List In := l.map fun x => ⟨x.fPath.drop n, x.fValue⟩
def beg (l : List In) (c : Nat) : List In := l.filter fun x => decide ((x.fPath.getD 0 0).toNat = c)
theorem rest_len (l : List In) (n : Nat) : (rest l n).length = l.length := by simp [rest]
theorem beg_len (l : List In) (c : Nat) : (beg l c).length ≤ l.length := List.length_filter_le _ _
theorem Rest_ok (l : List In) (n : Nat) (h : ∀ x ∈ l, n ≤ x.fPath.length) (hn : l.length ≤ 1000) : g_ref08_Rest l (n : Int) = some (rest l n) := by
  refine theC_eq (Comes.next (c' := .L1 (rest (l.take 0) n) ((0 : Nat) : Int)) (by simp only [step_ref08_Rest]; rfl) ?_)
  refine Comes.upto (fun i => C_ref08_Rest.L1 (rest (l.take i) n) (i : Int)) l.length (fun i hi => ?_) (Comes.stop ?_)
  · have e := rest_len (l.take i) n
    rw [List.length_take] at e
    have h1 := h _ (idx_mem l hi)
    simp only [step_ref08_Rest]
    rw [decide_eq_true (by omega), cond_true, gO_pos (by omega), gO_pos (by omega), gO_pos (by omega), gO_pos (by rw [e]; simp only [List.length_singleton]; omega), gO_pos (by unfold inI; omega), take_idx l hi, sub_suf]
    unfold rest
    rw [List.map_append]
    rfl
  · simp only [step_ref08_Rest]
    rw [decide_eq_false (by omega), cond_false, List.take_length]
theorem filt_take {α : Type} [Inhabited α] (p : α → Bool) (l : List α) {i : Nat} (hi : i < l.length) : (l.take (i + 1)).filter p = (l.take i).filter p ++ (if p (idx l (i : Int)) = true then [idx l (i : Int)] else []) := by
  rw [take_idx l hi, List.filter_append]
  congr 1
  cases h : p (idx l (i : Int)) <;> simp [h]
theorem Begin_ok (l : List In) (c : Nat) (h : ∀ x ∈ l, 0 < x.fPath.length) (hn : l.length ≤ 1000) : g_ref08_Begin l (c : Int) = some (beg l c) := by
  refine theC_eq (Comes.next (c' := .L1 (beg (l.take 0) c) ((0 : Nat) : Int)) (by simp only [step_ref08_Begin]; rfl) ?_)
  refine Comes.upto (fun i => C_ref08_Begin.L1 (beg (l.take i) c) (i : Int)) l.length (fun i hi => ?_) (Comes.stop ?_)
  · have e := beg_len (l.take i) c
    rw [List.length_take] at e
    have h1 := h _ (idx_mem l hi)
    have e2 := filt_take (fun x : In => decide ((x.fPath.getD 0 0).toNat = c)) l hi
    have e3 : (idx ((idx l (i : Int)).fPath) (0 : Int)).toNat = ((idx l (i : Int)).fPath.getD 0 0).toNat := rfl
    simp only [step_ref08_Begin]
    rw [decide_eq_true (by omega), cond_true, gO_pos (by omega), gO_pos (by omega), e3]
    show _ = some (Sum.inl (C_ref08_Begin.L1 ((l.take (i + 1)).filter _) _))
    rw [e2]
    by_cases hc : ((idx l (i : Int)).fPath.getD 0 0).toNat = c
    · rw [decide_eq_true (by omega), cond_true, gO_pos (by omega), gO_pos (by simp only [List.length_singleton]; omega), Option.bind_some, gO_pos (by unfold inI; omega), if_pos (by simpa using hc)]
      rfl
    · rw [decide_eq_false (by omega), cond_false, Option.bind_some, gO_pos (by unfold inI; omega), if_neg (by simpa using hc), List.append_nil]
      rfl
  · simp only [step_ref08_Begin]
    rw [decide_eq_false (by omega), cond_false, List.take_length]
end Go.Proofs.Ytfnlcnnoedmfiaa.K
