import Derived.Test.YthpgedneniekmaaAPPage5a
import Derived.Test.YthpgedneniekmaaAWLaw49
/- Package pindex: pages of rows, in plain words. -/
namespace Go.Proofs.Ythpgedneniekmaa.K
open Go
set_option linter.unusedVariables false
set_option linter.unusedSimpArgs false
abbrev LT (a b : Row) : Prop := ltR a b = true
theorem LT_trans {a b c : Row} (h : LT a b) (k : LT b c) : LT a c := by
  rw [LT, ltR_iff] at *; omega
theorem LT_ge {a b r : Row} (h : LT a b) (k : ltR r b = false) : LT a r := by
  rw [LT, ltR_iff] at h ⊢; rw [ltR_false] at k; omega
theorem LT_lt {r b x : Row} (h : LT r b) (k : b = x ∨ LT b x) : LT r x := by
  rcases k with rfl | k
  · exact h
  · exact LT_trans h k
abbrev fst (p : List Row) : Row := idx p (0 : Int)
theorem fst_mem {p : List Row} (h : p ≠ []) : fst p ∈ p := idx_mem p (i := 0) (List.length_pos_iff.2 h)
theorem fst_le {p : List Row} (hs : p.Pairwise LT) {x : Row} (hx : x ∈ p) : fst p = x ∨ LT (fst p) x := by
  cases p with
  | nil => cases hx
  | cons a q =>
    rcases List.mem_cons.1 hx with rfl | hx
    · exact .inl rfl
    · exact .inr ((List.pairwise_cons.1 hs).1 x hx)
structure OKP (P : List (List Row)) : Prop where
  ne : ∀ p ∈ P, p ≠ []
  le : ∀ p ∈ P, p.length ≤ 8
  ok : ∀ p ∈ P, ∀ r ∈ p, okRow r = true
  st : P.flatten.Pairwise LT
theorem OKP.page {P : List (List Row)} (h : OKP P) {p : List Row} (hp : p ∈ P) : p.Pairwise LT := by
  obtain ⟨A, B, rfl⟩ := List.append_of_mem hp
  have := h.st
  rw [List.flatten_append, List.flatten_cons] at this
  exact (List.pairwise_append.1 (List.pairwise_append.1 this).2.1).1
theorem OKP.may {P : List (List Row)} (h : OKP P) {p : List Row} (hp : p ∈ P) : mayB p = true := by
  unfold mayB
  rw [List.all_eq_true.2 (h.ok p hp), decide_eq_true (h.le p hp), rises_iff.2 (h.page hp)]; rfl
theorem split_at {P : List (List Row)} {n : Nat} (hn : n < P.length) : P = P.take n ++ idx P (n : Int) :: P.drop (n + 1) := by
  rw [← drop_idx P hn, List.take_append_drop]
theorem flat_at {P : List (List Row)} {n : Nat} (hn : n < P.length) : P.flatten = (P.take n).flatten ++ (idx P (n : Int) ++ (P.drop (n + 1)).flatten) := by
  conv => lhs; rw [split_at hn]
  rw [List.flatten_append, List.flatten_cons]
theorem OKP.lo {P : List (List Row)} (h : OKP P) {n : Nat} (hn : n < P.length) : ∀ x ∈ (P.take n).flatten, ∀ y ∈ idx P (n : Int), LT x y := by
  intro x hx y hy
  have := h.st
  rw [flat_at hn] at this
  exact (List.pairwise_append.1 this).2.2 x hx y (List.mem_append_left _ hy)
theorem OKP.fsts {P : List (List Row)} (h : OKP P) {i j : Nat} (hij : i < j) (hj : j < P.length) : LT (fst (idx P (i : Int))) (fst (idx P (j : Int))) := by
  have hi : i < P.length := by omega
  refine h.lo hj _ ?_ _ (fst_mem (h.ne _ (idx_mem P hj)))
  refine List.mem_flatten.2 ⟨idx P (i : Int), ?_, fst_mem (h.ne _ (idx_mem P hi))⟩
  rw [idx_get P hi]
  exact List.mem_take_iff_getElem.2 ⟨i, by omega, rfl⟩
def atK (P : List (List Row)) (r : Row) : Nat → Nat
  | 0 => 0
  | k + 1 => if ltR r (fst (idx P (k : Int))) = true then atK P r k else k
def atF (P : List (List Row)) (r : Row) : Nat := atK P r P.length
theorem atK_spec {P : List (List Row)} (h : OKP P) (r : Row) : ∀ k, k + 1 ≤ P.length → atK P r (k + 1) < k + 1 ∧ (∀ j, j < atK P r (k + 1) → ltR r (fst (idx P (j : Int))) = false) ∧ (atK P r (k + 1) = 0 ∨ ltR r (fst (idx P (atK P r (k + 1) : Int))) = false) ∧ ∀ j, atK P r (k + 1) < j → j < k + 1 → LT r (fst (idx P (j : Int)))
  | 0, _ => by
    have : atK P r 1 = 0 := by unfold atK; split <;> rfl
    rw [this]
    exact ⟨by omega, fun j hj => absurd hj (by omega), .inl rfl, fun j h1 h2 => absurd h2 (by omega)⟩
  | k + 1, hk => by
    obtain ⟨a1, a2, a3, a4⟩ := atK_spec h r k (by omega)
    by_cases hc : ltR r (fst (idx P ((k + 1 : Nat) : Int))) = true
    · have e : atK P r (k + 1 + 1) = atK P r (k + 1) := by rw [atK, if_pos hc]
      rw [e]
      refine ⟨by omega, a2, a3, fun j h1 h2 => ?_⟩
      rcases Nat.lt_succ_iff_lt_or_eq.1 h2 with h3 | h3
      · exact a4 j h1 h3
      · rw [h3]; exact hc
    · have e : atK P r (k + 1 + 1) = k + 1 := by rw [atK, if_neg hc]
      rw [e]
      have hf : ltR r (fst (idx P ((k + 1 : Nat) : Int))) = false := by simpa using hc
      refine ⟨by omega, fun j hj => ?_, .inr hf, fun j h1 h2 => absurd h2 (by omega)⟩
      have := h.fsts hj (by omega)
      rw [LT, ltR_iff] at this
      rw [ltR_false] at hf ⊢
      omega
theorem atF_spec {P : List (List Row)} (h : OKP P) (r : Row) (hP : P ≠ []) : atF P r < P.length ∧ (∀ j, j < atF P r → ltR r (fst (idx P (j : Int))) = false) ∧ (atF P r = 0 ∨ ltR r (fst (idx P (atF P r : Int))) = false) ∧ ∀ j, atF P r < j → j < P.length → LT r (fst (idx P (j : Int))) := by
  have hl := List.length_pos_iff.2 hP
  obtain ⟨k, hk⟩ : ∃ k, P.length = k + 1 := ⟨P.length - 1, by omega⟩
  have := atK_spec h r k (by omega)
  unfold atF
  rw [hk]
  exact this
theorem at_lo {P : List (List Row)} (h : OKP P) (r : Row) (hP : P ≠ []) : ∀ x ∈ (P.take (atF P r)).flatten, LT x r := by
  obtain ⟨a1, a2, a3, a4⟩ := atF_spec h r hP
  intro x hx
  rcases a3 with h0 | h0
  · rw [h0] at hx; simp at hx
  · exact LT_ge (h.lo a1 x hx _ (fst_mem (h.ne _ (idx_mem P a1)))) h0
theorem at_hi {P : List (List Row)} (h : OKP P) (r : Row) (hP : P ≠ []) : ∀ x ∈ (P.drop (atF P r + 1)).flatten, LT r x := by
  obtain ⟨a1, a2, a3, a4⟩ := atF_spec h r hP
  intro x hx
  obtain ⟨p, hp, hxp⟩ := List.mem_flatten.1 hx
  obtain ⟨j, hj, e⟩ := List.mem_iff_getElem.1 hp
  rw [List.length_drop] at hj
  rw [List.getElem_drop] at e
  have hj2 : atF P r + 1 + j < P.length := by omega
  have h4 := a4 (atF P r + 1 + j) (by omega) hj2
  rw [idx_get P hj2, e] at h4
  have hpP : p ∈ P := List.mem_of_mem_drop hp
  exact LT_lt h4 (fst_le (h.page hpP) hxp)
theorem there_mem {l : List Row} (hs : l.Pairwise LT) (r : Row) : there l r = true ↔ ∃ x ∈ l, kN x = kN r ∧ x.fEpoch = r.fEpoch := by
  have hr : rises l = true := rises_iff.2 hs
  constructor
  · intro h
    obtain ⟨h1, h2, h3⟩ := there_iff.1 h
    exact ⟨_, idx_mem l h1, h2, h3⟩
  · rintro ⟨x, hx, h1, h2⟩
    obtain ⟨i, hi, rfl⟩ := List.mem_iff_getElem.1 hx
    rw [← idx_get l hi] at h1 h2
    have hp : pos l r = i := by
      rcases Nat.lt_trichotomy (pos l r) i with h | h | h
      · have a := pos_at l r (by omega)
        have b := rises_lt' hr h hi
        rw [ltR_false] at a; rw [ltR_iff] at b; omega
      · exact h
      · have a := pos_before l r h
        rw [ltR_iff] at a; omega
    exact there_iff.2 ⟨by omega, by rw [hp]; exact h1, by rw [hp]; exact h2⟩
theorem mem_page {P : List (List Row)} (h : OKP P) (r : Row) (hP : P ≠ []) {x : Row} (hx : x ∈ P.flatten) (h1 : kN x = kN r) (h2 : x.fEpoch = r.fEpoch) : x ∈ idx P (atF P r : Int) := by
  have a1 := (atF_spec h r hP).1
  rw [flat_at a1] at hx
  rcases List.mem_append.1 hx with hx | hx
  · have := at_lo h r hP x hx
    rw [LT, ltR_iff] at this; omega
  · rcases List.mem_append.1 hx with hx | hx
    · exact hx
    · have := at_hi h r hP x hx
      rw [LT, ltR_iff] at this; omega
theorem page_mem {P : List (List Row)} {n : Nat} (hn : n < P.length) {x : Row} (hx : x ∈ idx P (n : Int)) : x ∈ P.flatten := List.mem_flatten.2 ⟨_, idx_mem P hn, hx⟩
theorem there_flat {P : List (List Row)} (h : OKP P) (r : Row) (hP : P ≠ []) : there P.flatten r = there (idx P (atF P r : Int)) r := by
  have a1 := (atF_spec h r hP).1
  rw [Bool.eq_iff_iff, there_mem h.st, there_mem (h.page (idx_mem P a1))]
  constructor
  · rintro ⟨x, hx, h1, h2⟩
    exact ⟨x, mem_page h r hP hx h1 h2, h1, h2⟩
  · rintro ⟨x, hx, h1, h2⟩
    exact ⟨x, page_mem a1 hx, h1, h2⟩
def splt (l : List Row) : List (List Row) := if 8 < l.length then [l.take 5, l.drop 5] else [l]
theorem splt_flat (l : List Row) : (splt l).flatten = l := by
  unfold splt
  split
  · simp
  · simp
def putP (P : List (List Row)) (r : Row) : List (List Row) := if P.length = 0 then [[r]] else P.take (atF P r) ++ (splt (insR (idx P (atF P r : Int)) r) ++ P.drop (atF P r + 1))
theorem ins_mem {l : List Row} {r x : Row} (h : x ∈ insR l r) : x = r ∨ x ∈ l := by
  unfold insR at h
  split at h
  · exact .inr h
  · rcases List.mem_append.1 h with h | h
    · exact .inr (List.mem_of_mem_take h)
    · rcases List.mem_cons.1 h with h | h
      · exact .inl h
      · exact .inr (List.mem_of_mem_drop h)
theorem ins_ne {l : List Row} (r : Row) (h : l ≠ []) : insR l r ≠ [] := by
  unfold insR
  split
  · exact h
  · simp
theorem put_flat {P : List (List Row)} (h : OKP P) (r : Row) (hP : P ≠ []) : (putP P r).flatten = (P.take (atF P r)).flatten ++ (insR (idx P (atF P r : Int)) r ++ (P.drop (atF P r + 1)).flatten) := by
  have hl := List.length_pos_iff.2 hP
  unfold putP
  rw [if_neg (by omega), List.flatten_append, List.flatten_append, splt_flat]
theorem put_len {P : List (List Row)} (h : OKP P) (r : Row) : (putP P r).flatten.length ≤ P.flatten.length + 1 := by
  by_cases hP : P = []
  · subst hP; simp [putP]
  · have a1 := (atF_spec h r hP).1
    have := ins_len (idx P (atF P r : Int)) r
    rw [put_flat h r hP, flat_at a1]
    simp only [List.length_append]
    omega
theorem put_ok {P : List (List Row)} (h : OKP P) {r : Row} (hr : okRow r = true) : OKP (putP P r) := by
  by_cases hP : P = []
  · subst hP
    refine ⟨?_, ?_, ?_, ?_⟩
    · intro p hp; rw [List.mem_singleton.1 hp]; simp
    · intro p hp; rw [List.mem_singleton.1 hp]; simp
    · intro p hp x hx; rw [List.mem_singleton.1 hp] at hx; rw [List.mem_singleton.1 hx]; exact hr
    · simp [putP]
  · have a1 := (atF_spec h r hP).1
    have hl := List.length_pos_iff.2 hP
    have hpm := idx_mem P a1
    have hin : ∀ p ∈ splt (insR (idx P (atF P r : Int)) r), p ≠ [] ∧ p.length ≤ 8 ∧ ∀ x ∈ p, okRow x = true := by
      intro p hp
      have h1 := ins_len (idx P (atF P r : Int)) r
      have h2 := h.le _ hpm
      have h3 : ∀ x ∈ insR (idx P (atF P r : Int)) r, okRow x = true := fun x hx => by
        rcases ins_mem hx with rfl | hx
        · exact hr
        · exact h.ok _ hpm x hx
      unfold splt at hp
      split at hp
      · rename_i h9
        rcases List.mem_cons.1 hp with rfl | hp
        · refine ⟨?_, by rw [List.length_take]; omega, fun x hx => h3 x (List.mem_of_mem_take hx)⟩
          intro e
          have := congrArg List.length e
          rw [List.length_take, List.length_nil] at this
          omega
        · rw [List.mem_singleton.1 hp]
          refine ⟨?_, by rw [List.length_drop]; omega, fun x hx => h3 x (List.mem_of_mem_drop hx)⟩
          intro e
          have := congrArg List.length e
          rw [List.length_drop, List.length_nil] at this
          omega
      · rw [List.mem_singleton.1 hp]
        exact ⟨ins_ne r (h.ne _ hpm), by omega, h3⟩
    have mem : ∀ p ∈ putP P r, p ∈ P ∨ p ∈ splt (insR (idx P (atF P r : Int)) r) := by
      intro p hp
      unfold putP at hp
      rw [if_neg (by omega)] at hp
      rcases List.mem_append.1 hp with hp | hp
      · exact .inl (List.mem_of_mem_take hp)
      · rcases List.mem_append.1 hp with hp | hp
        · exact .inr hp
        · exact .inl (List.mem_of_mem_drop hp)
    refine ⟨fun p hp => (mem p hp).elim (h.ne p) fun k => (hin p k).1, fun p hp => (mem p hp).elim (h.le p) fun k => (hin p k).2.1, fun p hp => (mem p hp).elim (h.ok p) fun k => (hin p k).2.2, ?_⟩
    rw [put_flat h r hP]
    have hs := h.st
    rw [flat_at a1] at hs
    have s1 := List.pairwise_append.1 hs
    have s2 := List.pairwise_append.1 s1.2.1
    refine List.pairwise_append.2 ⟨s1.1, List.pairwise_append.2 ⟨rises_iff.1 (ins_rises (rises_iff.2 (h.page hpm)) r), s2.2.1, fun x hx y hy => ?_⟩, fun x hx y hy => ?_⟩
    · rcases ins_mem hx with rfl | hx
      · exact at_hi h x hP y hy
      · exact s2.2.2 x hx y hy
    · rcases List.mem_append.1 hy with hy | hy
      · rcases ins_mem hy with rfl | hy
        · exact at_lo h y hP x hx
        · exact s1.2.2 x hx y (List.mem_append_left _ hy)
      · exact s1.2.2 x hx y (List.mem_append_right _ hy)
def remR (l : List Row) (r : Row) : List Row := l.take (pos l r) ++ l.drop (pos l r + 1)
def mrg (Q : List (List Row)) (k : Nat) : List (List Row) := Q.take k ++ (idx Q (k : Int) ++ idx Q ((k + 1 : Nat) : Int)) :: Q.drop (k + 2)
def joinP (Q : List (List Row)) (n : Nat) : List (List Row) :=
  if n + 1 < Q.length ∧ (idx Q (n : Int)).length + (idx Q ((n + 1 : Nat) : Int)).length ≤ 8 then mrg Q n
  else if 0 < n ∧ (idx Q ((n - 1 : Nat) : Int)).length + (idx Q (n : Int)).length ≤ 8 then mrg Q (n - 1) else Q
def dropP (P : List (List Row)) (r : Row) : List (List Row) :=
  if (remR (idx P (atF P r : Int)) r).length = 0 then P.take (atF P r) ++ P.drop (atF P r + 1)
  else joinP (P.take (atF P r) ++ remR (idx P (atF P r : Int)) r :: P.drop (atF P r + 1)) (atF P r)
theorem rem_sub (l : List Row) (r : Row) : (remR l r).Sublist l := by
  unfold remR
  conv => rhs; rw [← List.take_append_drop (pos l r) l]
  refine List.Sublist.append (List.Sublist.refl _) ?_
  rw [show l.drop (pos l r + 1) = (l.drop (pos l r)).drop 1 by rw [List.drop_drop]]
  exact List.drop_sublist _ _
theorem mrg_flat {Q : List (List Row)} {k : Nat} (hk : k + 1 < Q.length) : (mrg Q k).flatten = Q.flatten := by
  conv => rhs; rw [flat_at (show k < Q.length by omega), drop_idx Q hk]
  unfold mrg
  rw [List.flatten_append, List.flatten_cons, List.flatten_cons]
  simp only [List.append_assoc]
theorem mrg_ok {Q : List (List Row)} (h : OKP Q) {k : Nat} (hk : k + 1 < Q.length) (h8 : (idx Q (k : Int)).length + (idx Q ((k + 1 : Nat) : Int)).length ≤ 8) : OKP (mrg Q k) := by
  have m1 := idx_mem Q (show k < Q.length by omega)
  have m2 := idx_mem Q hk
  have mem : ∀ p ∈ mrg Q k, p ∈ Q ∨ p = idx Q (k : Int) ++ idx Q ((k + 1 : Nat) : Int) := by
    intro p hp
    unfold mrg at hp
    rcases List.mem_append.1 hp with hp | hp
    · exact .inl (List.mem_of_mem_take hp)
    · rcases List.mem_cons.1 hp with hp | hp
      · exact .inr hp
      · exact .inl (List.mem_of_mem_drop hp)
  refine ⟨fun p hp => ?_, fun p hp => ?_, fun p hp => ?_, by rw [mrg_flat hk]; exact h.st⟩
  · rcases mem p hp with hp | rfl
    · exact h.ne p hp
    · simp [h.ne _ m1]
  · rcases mem p hp with hp | rfl
    · exact h.le p hp
    · rw [List.length_append]; exact h8
  · rcases mem p hp with hp | rfl
    · exact h.ok p hp
    · intro x hx
      rcases List.mem_append.1 hx with hx | hx
      · exact h.ok _ m1 x hx
      · exact h.ok _ m2 x hx
theorem join_ok {Q : List (List Row)} (h : OKP Q) {n : Nat} (hn : n < Q.length) : OKP (joinP Q n) ∧ (joinP Q n).flatten = Q.flatten := by
  unfold joinP
  split
  · rename_i hc
    exact ⟨mrg_ok h hc.1 hc.2, mrg_flat hc.1⟩
  · split
    · rename_i hc
      have e : n - 1 + 1 = n := by omega
      have h1 : n - 1 + 1 < Q.length := by omega
      exact ⟨mrg_ok h h1 (by rw [e]; exact hc.2), mrg_flat h1⟩
    · exact ⟨h, rfl⟩
theorem cut_ok {P : List (List Row)} (h : OKP P) {n : Nat} (hn : n < P.length) {q : List Row} (hq : q.Sublist (idx P (n : Int))) : (q ≠ [] → OKP (P.take n ++ q :: P.drop (n + 1))) ∧ OKP (P.take n ++ P.drop (n + 1)) := by
  have hpm := idx_mem P hn
  have s0 : ((P.take n).flatten ++ (q ++ (P.drop (n + 1)).flatten)).Sublist P.flatten := by
    rw [flat_at hn]
    exact List.Sublist.append (List.Sublist.refl _) (List.Sublist.append hq (List.Sublist.refl _))
  have s1 : ((P.take n).flatten ++ (P.drop (n + 1)).flatten).Sublist P.flatten := by
    refine List.Sublist.trans ?_ s0
    exact List.Sublist.append (List.Sublist.refl _) (List.sublist_append_right _ _)
  constructor
  · intro hne
    have mem : ∀ p ∈ P.take n ++ q :: P.drop (n + 1), p ∈ P ∨ p = q := by
      intro p hp
      rcases List.mem_append.1 hp with hp | hp
      · exact .inl (List.mem_of_mem_take hp)
      · rcases List.mem_cons.1 hp with hp | hp
        · exact .inr hp
        · exact .inl (List.mem_of_mem_drop hp)
    refine ⟨fun p hp => ?_, fun p hp => ?_, fun p hp => ?_, ?_⟩
    · rcases mem p hp with hp | rfl
      · exact h.ne p hp
      · exact hne
    · rcases mem p hp with hp | rfl
      · exact h.le p hp
      · have := hq.length_le; have := h.le _ hpm; omega
    · rcases mem p hp with hp | rfl
      · exact h.ok p hp
      · exact fun x hx => h.ok _ hpm x (hq.subset hx)
    · rw [List.flatten_append, List.flatten_cons]
      exact h.st.sublist s0
  · have mem : ∀ p ∈ P.take n ++ P.drop (n + 1), p ∈ P := by
      intro p hp
      rcases List.mem_append.1 hp with hp | hp
      · exact List.mem_of_mem_take hp
      · exact List.mem_of_mem_drop hp
    exact ⟨fun p hp => h.ne p (mem p hp), fun p hp => h.le p (mem p hp), fun p hp => h.ok p (mem p hp), by rw [List.flatten_append]; exact h.st.sublist s1⟩
theorem drop_ok {P : List (List Row)} (h : OKP P) (r : Row) (hP : P ≠ []) : OKP (dropP P r) ∧ (dropP P r).flatten.length ≤ P.flatten.length := by
  have a1 := (atF_spec h r hP).1
  have hs := rem_sub (idx P (atF P r : Int)) r
  obtain ⟨c1, c2⟩ := cut_ok h a1 hs
  have fl := congrArg List.length (flat_at a1)
  simp only [List.length_append] at fl
  unfold dropP
  split
  · refine ⟨c2, ?_⟩
    rw [List.flatten_append, List.length_append]; omega
  · rename_i hne
    have hne : remR (idx P (atF P r : Int)) r ≠ [] := fun e => hne (by rw [e]; rfl)
    obtain ⟨j1, j2⟩ := join_ok (c1 hne) (n := atF P r) (by simp; omega)
    refine ⟨j1, ?_⟩
    have := hs.length_le
    rw [j2, List.flatten_append, List.flatten_cons, List.length_append, List.length_append]; omega
theorem pages_le {P : List (List Row)} (h : ∀ p ∈ P, p ≠ []) : P.length ≤ P.flatten.length := by
  induction P with
  | nil => simp
  | cons p Q ih =>
    have h1 := ih fun q hq => h q (List.mem_cons_of_mem _ hq)
    have h2 := List.length_pos_iff.2 (h p (List.mem_cons_self ..))
    rw [List.flatten_cons, List.length_append, List.length_cons]; omega
end Go.Proofs.Ythpgedneniekmaa.K
