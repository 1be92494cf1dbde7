import Derived.Test.YthpgedneniekmaaAPPage2
/- Package page and the reference of layer 47: texts laid and read. -/
namespace Go.Proofs.Ythpgedneniekmaa.K
open Go
set_option linter.unusedVariables false
set_option linter.unusedSimpArgs false
def rowB (r : Row) : List UInt8 := r.fSum.1 ++ (leB r.fEpoch.toNat 4 ++ (leB r.fBody.length 4 ++ r.fBody))
def putL (l : List Row) : List UInt8 := leB l.length 1 ++ l.flatMap rowB
theorem okRow_spec {r : Row} (h : okRow r = true) : 0 ≤ r.fEpoch ∧ r.fEpoch ≤ 1048576 ∧ r.fBody.length ≤ 70000 := by
  simp only [okRow, Bool.not_eq_true', Bool.or_eq_false_iff, decide_eq_false_iff_not] at h
  obtain ⟨⟨h1, h2⟩, h3⟩ := h
  omega
theorem rowB_len (r : Row) : (rowB r).length = 40 + r.fBody.length := by
  simp only [rowB, List.length_append, r.fSum.2, leB_len]; omega
theorem flat_len : ∀ l : List Row, (∀ r ∈ l, okRow r = true) → (l.flatMap rowB).length ≤ l.length * 70040
  | [], _ => by simp
  | r :: l, h => by
    have h1 := flat_len l (fun x hx => h x (List.mem_cons_of_mem _ hx))
    have h2 := (okRow_spec (h r (List.mem_cons_self ..))).2.2
    rw [List.flatMap_cons, List.length_append, rowB_len, List.length_cons]
    omega
theorem may_spec {l : List Row} (h : mayB l = true) : (∀ r ∈ l, okRow r = true) ∧ l.length ≤ 8 ∧ rises l = true := by
  simp only [mayB, Bool.and_eq_true, List.all_eq_true, decide_eq_true_eq] at h
  exact ⟨h.1.1, h.1.2, h.2⟩
theorem ofInt_ep {r : Row} (h : okRow r = true) : (BitVec.ofInt 64 r.fEpoch).toNat = r.fEpoch.toNat := by
  have h1 := okRow_spec h
  rw [show r.fEpoch = ((r.fEpoch.toNat : Nat) : Int) by omega, ofInt_nat, Int.toNat_natCast, Nat.mod_eq_of_lt (by omega)]
theorem flat_take (l : List Row) {i : Nat} (h : i < l.length) : (l.take (i + 1)).flatMap rowB = (l.take i).flatMap rowB ++ rowB (idx l (i : Int)) := by
  rw [take_idx l h, List.flatMap_append]; simp
theorem flat_take_len {l : List Row} (h : mayB l = true) (i : Nat) : ((l.take i).flatMap rowB).length ≤ 560320 := by
  obtain ⟨h1, h2, _⟩ := may_spec h
  have := flat_len (l.take i) (fun r hr => h1 r (List.mem_of_mem_take hr))
  have h3 : (l.take i).length ≤ 8 := by rw [List.length_take]; omega
  exact Nat.le_trans this (Nat.le_trans (Nat.mul_le_mul_right 70040 h3) (Nat.le_of_ble_eq_true rfl))
theorem Put_may {l : List Row} (h : mayB l = true) : g_page_Put l = some (putL l, 0) := by
  obtain ⟨h1, h2, _⟩ := may_spec h
  refine theC_eq (.next (c' := .L1 (leB l.length 1) 0) ?_ ?_)
  · simp only [step_page_Put]
    rw [Check_ok l (by omega), h, cond_true, Option.bind_some, decide_eq_true rfl, Bool.not_true, cond_false, show (1 : Int) = ((1 : Nat) : Int) from rfl, Num_ok _ 1 (by omega), ofInt_nat, Nat.mod_eq_of_lt (by omega)]
    rfl
  · have := Comes.upto (step := step_page_Put l) (r := (putL l, 0)) (fun i => .L1 (leB l.length 1 ++ (l.take i).flatMap rowB) (i : Int)) l.length (fun i hi => by
      have hr := h1 _ (idx_mem l hi)
      have hs := okRow_spec hr
      have hf := flat_take_len h i
      simp only [step_page_Put]
      rw [decide_eq_true (by omega), cond_true, gO_pos (by omega), show (4 : Int) = ((4 : Nat) : Int) from rfl, Num_ok _ 4 (by omega), Option.bind_some, gO_pos (by rw [(idx l (i : Int)).fSum.2, leB_len]; omega), Texts_ok _ (by omega), Option.bind_some,
        gO_pos (by simp only [List.length_append, (idx l (i : Int)).fSum.2, leB_len]; omega), gO_pos (by simp only [List.length_append, (idx l (i : Int)).fSum.2, leB_len]; omega), gO_pos (by unfold inI; omega), ofInt_ep hr, flat_take l hi]
      simp only [rowB, List.append_assoc]
      rfl) (.stop (by
      simp only [step_page_Put]
      rw [decide_eq_false (by omega), cond_false, List.take_of_length_le (Nat.le_refl _)]; rfl))
    simpa using this
theorem Put_not {l : List Row} (hl : l.length ≤ 9223372036854775807) (h : mayB l = false) : g_page_Put l = some ([], 2) := by
  have hc := Check_ok l hl
  rw [h, cond_false] at hc
  refine theC_eq (.stop ?_)
  simp only [step_page_Put]
  rw [hc, Option.bind_some, decide_eq_false (by omega), Bool.not_false, cond_true]
def takeC (n : Nat) (c : Cut) : List UInt8 × Cut := if c.fe ≠ 0 then ([], c) else if c.fs.length < n then ([], ⟨[], 5⟩) else (c.fs.take n, ⟨c.fs.drop n, c.fe⟩)
theorem Take_ok (n : Nat) (c : Cut) : g_wide_Cut_Take (n : Int) c = some (takeC n c) := by
  unfold g_wide_Cut_Take takeC
  by_cases h : c.fe = 0
  · rw [decide_eq_true h, Bool.not_true, cond_false, if_neg (by simp [h]), decide_eq_false (by omega), Bool.false_or]
    by_cases h2 : c.fs.length < n
    · rw [decide_eq_true (by omega), cond_true, if_pos h2]
    · rw [decide_eq_false (by omega), cond_false, if_neg h2, gO_pos (by omega), gO_pos (by omega), sub_pre, sub_suf]
  · rw [decide_eq_false h, Bool.not_false, cond_true, if_pos h]
structure CutOK (N : Nat) (c : Cut) : Prop where
  len : c.fs.length ≤ N
  err : c.fe = 0 ∨ c.fe = 5
theorem takeC_ok {N n : Nat} {c : Cut} (h : CutOK N c) : CutOK N (takeC n c).2 ∧ (takeC n c).1.length ≤ N ∧ (takeC n c).1.length ≤ n := by
  unfold takeC
  have := h.len
  split
  · exact ⟨h, by simp, by simp⟩
  · split
    · exact ⟨⟨by simp, .inr rfl⟩, by simp, by simp⟩
    · exact ⟨⟨by simp; omega, h.err⟩, by simp; omega, by simp; omega⟩
def numC (w : Nat) (c : Cut) : BitVec 64 × Cut := (BitVec.ofNat 64 (leV ((takeC w c).1.take 8)), (takeC w c).2)
theorem CNum_ok {N : Nat} (w : Nat) (c : Cut) (hw : 1 ≤ w ∧ w ≤ 8) (h : CutOK N c) (hN : N ≤ 9223372036854775807) : g_wide_Cut_Num (w : Int) c = some (numC w c) := by
  unfold g_wide_Cut_Num
  rw [decide_eq_false (by omega), decide_eq_false (by omega), Bool.or_false, cond_false, Option.bind_some, Take_ok, Option.bind_some]
  have := (takeC_ok (n := w) h).2.1
  rw [Val_ok _ (by omega), Option.bind_some]; rfl
theorem numC_lt {N : Nat} {w : Nat} {c : Cut} (hw : w ≤ 7) (h : CutOK N c) : (numC w c).1.toNat < 256 ^ w := by
  have h2 := (takeC_ok (n := w) h).2.2
  have h1 := leV_lt ((takeC w c).1.take 8)
  have h3 : leV ((takeC w c).1.take 8) < 256 ^ w := Nat.lt_of_lt_of_le h1 (Nat.pow_le_pow_right (by omega) (by rw [List.length_take]; omega))
  have h4 : 256 ^ w ≤ 256 ^ 7 := Nat.pow_le_pow_right (by omega) hw
  show (BitVec.ofNat 64 (leV ((takeC w c).1.take 8))).toNat < _
  rw [BitVec.toNat_ofNat]
  exact Nat.lt_of_le_of_lt (Nat.mod_le _ _) h3
def textC (c : Cut) : List UInt8 × Cut := takeC (numC 4 c).1.toNat (numC 4 c).2
theorem CText_ok {N : Nat} (c : Cut) (h : CutOK N c) (hN : N ≤ 9223372036854775807) : g_wide_Cut_Text c = some (textC c) := by
  unfold g_wide_Cut_Text
  have := numC_lt (w := 4) (by omega) h
  rw [show (4 : Int) = ((4 : Nat) : Int) from rfl, CNum_ok 4 c (by omega) h hN, Option.bind_some]
  rw [gO_pos (inI_nat (by omega)), Take_ok, Option.bind_some]; rfl
def getR (c : Cut) : Row × Cut :=
  (⟨(Arr.rep 32 0).over (takeC 32 c).1, ((numC 4 (takeC 32 c).2).1.toNat : Int), (textC (numC 4 (takeC 32 c).2).2).1⟩, (textC (numC 4 (takeC 32 c).2).2).2)
theorem getR_ok {N : Nat} {c : Cut} (h : CutOK N c) : CutOK N (getR c).2 := (takeC_ok (takeC_ok (takeC_ok (takeC_ok h).1).1).1).1
theorem Get1_ok {N : Nat} (c : Cut) (h : CutOK N c) (hN : N ≤ 9223372036854775807) : g_page_Get_1 c = some (getR c) := by
  unfold g_page_Get_1
  have h1 := takeC_ok (n := 32) h
  have h2 := numC_lt (w := 4) (by omega) h1.1
  have h3 : CutOK N (numC 4 (takeC 32 c).2).2 := (takeC_ok (n := 4) h1.1).1
  rw [show (32 : Int) = ((32 : Nat) : Int) from rfl, Take_ok, Option.bind_some]
  rw [gO_pos h1.2.2, show (4 : Int) = ((4 : Nat) : Int) from rfl, CNum_ok 4 _ (by omega) h1.1 hN, Option.bind_some]
  rw [gO_pos (inI_nat (by omega)), CText_ok _ h3 hN, Option.bind_some]
  rfl
theorem takeC_app (a r : List UInt8) (n : Nat) (h : a.length = n) : takeC n ⟨a ++ r, 0⟩ = (a, ⟨r, 0⟩) := by
  subst h
  unfold takeC
  rw [if_neg (by simp), if_neg (by simp)]
  simp
theorem numC_app (n w : Nat) (r : List UInt8) (hw : w ≤ 7) (hn : n < 256 ^ w) : numC w ⟨leB n w ++ r, 0⟩ = (BitVec.ofNat 64 n, ⟨r, 0⟩) := by
  unfold numC
  rw [takeC_app _ _ _ (leB_len n w), List.take_of_length_le (by rw [leB_len]; omega), leV_leB, Nat.mod_eq_of_lt hn]
theorem getR_app (r : Row) (t : List UInt8) (h : okRow r = true) : getR ⟨rowB r ++ t, 0⟩ = (r, ⟨t, 0⟩) := by
  have hs := okRow_spec h
  have e1 : takeC 32 ⟨rowB r ++ t, 0⟩ = (r.fSum.1, ⟨leB r.fEpoch.toNat 4 ++ (leB r.fBody.length 4 ++ (r.fBody ++ t)), 0⟩) := by
    have := takeC_app r.fSum.1 (leB r.fEpoch.toNat 4 ++ (leB r.fBody.length 4 ++ (r.fBody ++ t))) 32 r.fSum.2
    simpa [rowB, List.append_assoc] using this
  have e2 := numC_app r.fEpoch.toNat 4 (leB r.fBody.length 4 ++ (r.fBody ++ t)) (by omega) (by omega)
  have e3 : textC ⟨leB r.fBody.length 4 ++ (r.fBody ++ t), 0⟩ = (r.fBody, ⟨t, 0⟩) := by
    unfold textC
    rw [numC_app r.fBody.length 4 (r.fBody ++ t) (by omega) (by omega)]
    rw [BitVec.toNat_ofNat, Nat.mod_eq_of_lt (by omega)]
    exact takeC_app _ _ _ rfl
  unfold getR
  rw [e1]
  simp only [e2, e3]
  congr 1
  have e4 : ((BitVec.ofNat 64 r.fEpoch.toNat).toNat : Int) = r.fEpoch := by rw [BitVec.toNat_ofNat, Nat.mod_eq_of_lt (by omega)]; omega
  have e5 : (Arr.rep 32 (0 : UInt8)).over r.fSum.1 = r.fSum := by
    apply Subtype.ext
    rw [Arr.over_le (Nat.le_of_eq r.fSum.2)]
    rw [List.drop_eq_nil_of_le (by rw [r.fSum.2, (Arr.rep 32 (0 : UInt8)).2]; exact Nat.le_refl _), List.append_nil]
  rw [e4, e5]
def getsC : Nat → Cut → List Row × Cut
  | 0, c => ([], c)
  | n + 1, c => ((getsC n c).1 ++ [(getR (getsC n c).2).1], (getR (getsC n c).2).2)
theorem getsC_ok {N : Nat} {c : Cut} (h : CutOK N c) : ∀ n, CutOK N (getsC n c).2 ∧ (getsC n c).1.length = n
  | 0 => ⟨h, rfl⟩
  | n + 1 => ⟨getR_ok (getsC_ok h n).1, by simp [getsC, (getsC_ok h n).2]⟩
theorem getsC_app (l : List Row) (t : List UInt8) (h : ∀ r ∈ l, okRow r = true) : ∀ n, n ≤ l.length → getsC n ⟨l.flatMap rowB ++ t, 0⟩ = (l.take n, ⟨(l.drop n).flatMap rowB ++ t, 0⟩)
  | 0, _ => by simp [getsC]
  | n + 1, hn => by
    rw [getsC, getsC_app l t h n (by omega)]
    simp only
    rw [drop_idx l (by omega), List.flatMap_cons, List.append_assoc, getR_app _ _ (h _ (idx_mem l (by omega))), take_idx l (by omega)]
def fstN (s : List UInt8) : Nat := (numC 1 ⟨s, 0⟩).1.toNat
def getP (s : List UInt8) : List Row × Cut := getsC (fstN s) (numC 1 ⟨s, 0⟩).2
theorem fstN_lt (s : List UInt8) : fstN s < 256 := numC_lt (N := s.length) (w := 1) (by omega) ⟨Nat.le_refl _, .inl rfl⟩
theorem Get_run (s : List UInt8) (hs : s.length ≤ 9223372036854775807) {r : List Row × Int} (hf : Comes (step_page_Get s) (.L1 (getP s).1 (numC 1 ⟨s, 0⟩).1 (BitVec.ofNat 64 (fstN s)) (getP s).2.fs (getP s).2.fe) r) : g_page_Get s = some r := by
  have h0 : CutOK s.length ⟨s, 0⟩ := ⟨Nat.le_refl _, .inl rfl⟩
  have h1 : CutOK s.length (numC 1 ⟨s, 0⟩).2 := (takeC_ok (n := 1) h0).1
  have hlt := fstN_lt s
  refine theC_eq (.next (c' := .L1 [] (numC 1 ⟨s, 0⟩).1 0 (numC 1 ⟨s, 0⟩).2.fs (numC 1 ⟨s, 0⟩).2.fe) ?_ ?_)
  · simp only [step_page_Get, g_wide_On, Option.bind_some]
    rw [show (1 : Int) = ((1 : Nat) : Int) from rfl, CNum_ok 1 _ (by omega) h0 hs]; rfl
  · have := Comes.upto (step := step_page_Get s) (r := r) (fun i => .L1 (getsC i (numC 1 ⟨s, 0⟩).2).1 (numC 1 ⟨s, 0⟩).1 (BitVec.ofNat 64 i) (getsC i (numC 1 ⟨s, 0⟩).2).2.fs (getsC i (numC 1 ⟨s, 0⟩).2).2.fe) (fstN s) (fun i hi => by
      have h2 := getsC_ok h1 i
      have e : (BitVec.ofNat 64 i).toNat = i := by rw [BitVec.toNat_ofNat, Nat.mod_eq_of_lt (by omega)]
      simp only [step_page_Get]
      rw [e, decide_eq_true (by show (i : Int) < (fstN s : Int); omega), cond_true, Get1_ok _ h2.1 hs, Option.bind_some]
      rw [gO_pos (by rw [h2.2]; simp; omega)]
      have e2 : BitVec.ofNat 64 i + (1 : BitVec 64) = BitVec.ofNat 64 (i + 1) := by
        apply BitVec.eq_of_toNat_eq
        rw [BitVec.toNat_add, BitVec.toNat_ofNat, BitVec.toNat_ofNat]; simp
      rw [e2]
      rfl) hf
    exact this
theorem Get_end (s : List UInt8) (hs : s.length ≤ 9223372036854775807) : ∃ l e, g_page_Get s = some (l, e) ∧ ((e ≠ 0 ∧ l = [] ∧ (e = 5 ∨ e = 6)) ∨ (e = 0 ∧ mayB l = true ∧ putL l = s)) := by
  have h0 : CutOK s.length ⟨s, 0⟩ := ⟨Nat.le_refl _, .inl rfl⟩
  have h1 : CutOK s.length (numC 1 ⟨s, 0⟩).2 := (takeC_ok (n := 1) h0).1
  have hlt := fstN_lt s
  have h2 := getsC_ok h1 (fstN s)
  have e : (BitVec.ofNat 64 (fstN s)).toNat = fstN s := by rw [BitVec.toNat_ofNat, Nat.mod_eq_of_lt (by omega)]
  have fin : ∀ r, step_page_Get s (.L1 (getP s).1 (numC 1 ⟨s, 0⟩).1 (BitVec.ofNat 64 (fstN s)) (getP s).2.fs (getP s).2.fe) = some (.inr r) → g_page_Get s = some r := fun r h => Get_run s hs (.stop h)
  have go : ∀ x : Option (C_page_Get ⊕ (List Row × Int)), (bif (!decide ((getP s).2.fe = 0)) then some (.inr ([], (getP s).2.fe)) else (g_page_Put (getP s).1).bind fun x => bif (!decide (x.2 = 0) || !(x.1 == s)) then some (.inr ([], 6)) else some (.inr ((getP s).1, 0))) = x → step_page_Get s (.L1 (getP s).1 (numC 1 ⟨s, 0⟩).1 (BitVec.ofNat 64 (fstN s)) (getP s).2.fs (getP s).2.fe) = x := by
    rintro x rfl
    simp only [step_page_Get]
    rw [e, decide_eq_false (by show ¬ (fstN s : Int) < (fstN s : Int); omega), cond_false]
    rfl
  rcases h2.1.err with h5 | h5
  · have h5 : (getP s).2.fe = 0 := h5
    cases hm : mayB (getP s).1 with
    | false =>
      exact ⟨[], 6, fin _ (go _ (by rw [decide_eq_true h5, Put_not (by rw [show (getP s).1.length = _ from h2.2]; omega) hm]; rfl)), .inl ⟨by omega, rfl, .inr rfl⟩⟩
    | true =>
      cases hp : putL (getP s).1 == s with
      | false => exact ⟨[], 6, fin _ (go _ (by rw [decide_eq_true h5, Put_may hm]; simp [hp])), .inl ⟨by omega, rfl, .inr rfl⟩⟩
      | true => exact ⟨(getP s).1, 0, fin _ (go _ (by rw [decide_eq_true h5, Put_may hm]; simp [hp])), .inr ⟨rfl, hm, by simpa using hp⟩⟩
  · have h5 : (getP s).2.fe = 5 := h5
    exact ⟨[], 5, fin _ (go _ (by rw [decide_eq_false (by omega), h5]; rfl)), .inl ⟨by omega, rfl, .inl rfl⟩⟩
theorem Get_put {l : List Row} (h : mayB l = true) : g_page_Get (putL l) = some (l, 0) := by
  obtain ⟨h1, h2, _⟩ := may_spec h
  have hb := flat_take_len h l.length
  rw [List.take_of_length_le (Nat.le_refl _)] at hb
  have e0 : numC 1 ⟨putL l, 0⟩ = (BitVec.ofNat 64 l.length, ⟨l.flatMap rowB, 0⟩) := numC_app l.length 1 _ (by omega) (by omega)
  have e1 : fstN (putL l) = l.length := by unfold fstN; rw [e0, BitVec.toNat_ofNat, Nat.mod_eq_of_lt (by omega)]
  have e2 : getP (putL l) = (l, ⟨[], 0⟩) := by
    unfold getP
    rw [e0, e1]
    have := getsC_app l [] h1 l.length (Nat.le_refl _)
    simpa using this
  refine Get_run _ (by simp only [putL, List.length_append, leB_len]; omega) (.stop ?_)
  rw [e0, e1, e2]
  simp only [step_page_Get]
  rw [decide_eq_false (by omega), cond_false]
  simp [g_wide_Cut_Err, Put_may h]
end Go.Proofs.Ythpgedneniekmaa.K
