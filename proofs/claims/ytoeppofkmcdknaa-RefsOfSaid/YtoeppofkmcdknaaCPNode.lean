import Derived.Test.YtoeppofkmcdknaaCPNib6
/- Items and packed paths: what layer 6 needs of them. -/
namespace Go.Proofs.Ytoeppofkmcdknaa.K
open Go
set_option linter.unusedVariables false
set_option linter.unusedSimpArgs false
theorem RT.mono : ∀ {n m : Nat} {x : Item}, RT n x → n ≤ m → RT m x
  | n + 1, m + 1, x, h, hm => ⟨h.1, h.2.1, fun y hy => RT.mono (h.2.2 y hy) (by omega)⟩
  | n + 1, 0, x, h, hm => by omega
theorem ienc_pos (x : Item) : 1 ≤ (ienc x).length := List.length_pos_iff.2 (ienc_ne x)
theorem iencs_mem : ∀ (l : List Item) (y : Item), y ∈ l → (ienc y).length ≤ (iencs l).length
  | x :: r, y, h => by
    simp only [iencs, List.length_append]
    rcases List.mem_cons.1 h with rfl | h
    · omega
    · have := iencs_mem r y h; omega
theorem iencs_len : ∀ l : List Item, l.length ≤ (iencs l).length
  | [] => Nat.le_refl _
  | x :: r => by have := iencs_len r; have := ienc_pos x; simp only [iencs, List.length_append, List.length_cons]; omega
theorem iencs_app : ∀ a b : List Item, iencs (a ++ b) = iencs a ++ iencs b
  | [], b => by simp [iencs]
  | x :: r, b => by simp only [List.cons_append, iencs, iencs_app r b, List.append_assoc]
theorem ienc_list (l : List Item) : ienc ⟨true, [], l⟩ = hd true (iencs l).length ++ iencs l := by rw [ienc_eq]; simp
theorem ienc_L {x : Item} (h : x.fList = true) : ienc x = hd true (iencs x.fL).length ++ iencs x.fL := by rw [ienc_eq, if_neg (by simp [h])]
theorem hd_pos (l : Bool) (k : Nat) : 1 ≤ (hd l k).length := List.length_pos_iff.2 (hd_ne l k)
theorem ienc_kid {x y : Item} (h : x.fList = true) (hy : y ∈ x.fL) : (ienc y).length < (ienc x).length := by
  rw [ienc_L h, List.length_append]
  have := iencs_mem _ _ hy; have := hd_pos true (iencs x.fL).length; omega
theorem fS_len (x : Item) (h : x.fList = false) : x.fS.length ≤ (ienc x).length := by
  rw [ienc_eq, if_pos h]
  split
  · exact Nat.le_refl _
  · simp
theorem icnts_le : ∀ l : List Item, (∀ y ∈ l, icnt y ≤ (ienc y).length) → icnts l ≤ (iencs l).length
  | [], _ => Nat.le_refl _
  | x :: r, h => by
    have := icnts_le r fun y hy => h y (List.mem_cons_of_mem _ hy)
    have := h x (List.mem_cons_self ..)
    simp only [icnts, iencs, List.length_append]; omega
theorem icnt_le : ∀ (n : Nat) (x : Item), RT n x → icnt x ≤ (ienc x).length
  | n + 1, x, h => by
    rw [icnt_eq]
    cases hx : x.fList with
    | false => rw [h.1 hx]; exact ienc_pos x
    | true =>
      rw [ienc_L hx, List.length_append]
      have := icnts_le x.fL fun y hy => icnt_le n y (h.2.2 y hy)
      have := hd_pos true (iencs x.fL).length; omega
theorem RT_len : ∀ (n : Nat) (x : Item), RT n x → RT (ienc x).length x
  | n + 1, x, h => by
    obtain ⟨j, hj⟩ : ∃ j, (ienc x).length = j + 1 := ⟨(ienc x).length - 1, by have := ienc_pos x; omega⟩
    rw [hj]
    refine ⟨h.1, h.2.1, fun y hy => ?_⟩
    cases hx : x.fList with
    | false => rw [h.1 hx] at hy; cases hy
    | true =>
      have := ienc_kid hx hy
      exact (RT_len n y (h.2.2 y hy)).mono (by omega)
theorem OKn_of : ∀ (n : Nat) (x : Item), RT n x → (ienc x).length ≤ 2 ^ 32 → OKn n x
  | n + 1, x, h, hl => by
    cases hx : x.fList with
    | false =>
      have := fS_len x hx
      refine ⟨by rw [h.1 hx]; simp, by omega, fun y hy => ?_⟩
      rw [h.1 hx] at hy; cases hy
    | true =>
      have := iencs_len x.fL
      have e := ienc_L hx
      have : (iencs x.fL).length ≤ (ienc x).length := by rw [e, List.length_append]; omega
      refine ⟨by omega, by rw [h.2.1 hx]; simp, fun y hy => OKn_of n y (h.2.2 y hy) (by have := ienc_kid hx hy; omega)⟩
theorem Put_small {n : Nat} {x : Item} (h : RT n x) (hn : n ≤ 65) (hl : (ienc x).length ≤ 4096) : g_rlp_Put x = some (ienc x, 0) :=
  Put_ok x (OKn_of n x h (by omega)) h hn (by omega) (by have := icnt_le n x h; omega)
theorem Whole_small {n : Nat} {x : Item} (h : RT n x) (hn : n ≤ 65) (hl : (ienc x).length ≤ 4096) : g_rlp_Whole (ienc x) = some (x, 0) :=
  Whole_ok x h hn (by omega) (by have := icnt_le n x h; omega)
theorem ienc_inj {n m : Nat} {x y : Item} (h : RT n x) (k : RT m y) (hn : n ≤ 65) (hm : m ≤ 65) (hl : (ienc x).length ≤ 4096) (e : ienc x = ienc y) : x = y := by
  have h1 := Whole_small h hn hl
  have h2 := Whole_small k hm (by rw [← e]; exact hl)
  rw [e, h2] at h1
  simp only [Option.some.injEq, Prod.mk.injEq, and_true] at h1
  exact h1.symm
theorem Whole_any (s : List UInt8) (hl : s.length ≤ 4000) :
    (∃ x, RT 65 x ∧ ienc x = s ∧ g_rlp_Whole s = some (x, 0) ∧ ∃ a, g_ref05_Read s 0 4096 = some (x, (s.length : Int), a, 0)) ∨
    (∃ e, e ≠ 0 ∧ g_rlp_Whole s = some (noI, e) ∧ ∃ y k a f, g_ref05_Read s 0 4096 = some (y, k, a, f) ∧ ((!decide (f = 0)) || (!decide (k = (s.length : Int)))) = true) := by
  rcases Get_Read s (by omega) with ⟨x, k, a, h1, h2, h3, h4, h5, h6⟩ | ⟨e, he, h1, h2⟩
  · by_cases hk : k = s.length
    · refine .inl ⟨x, h2, by rw [h3, hk, List.take_length], ?_, a, by rw [h6, hk]⟩
      unfold g_rlp_Whole
      rw [h5, Option.bind_some, hk]
      simp
    · refine .inr ⟨6, by decide, ?_, x, (k : Int), a, 0, h6, ?_⟩
      · unfold g_rlp_Whole
        rw [h5, Option.bind_some, show (!decide ((0 : Int) = 0)) = false from rfl, cond_false, decide_eq_false (by show ¬ ((k : Int) = (s.length : Int)); omega)]
        rfl
      · rw [decide_eq_false (by omega : ¬ ((k : Int) = (s.length : Int)))]; rfl
  · refine .inr ⟨e, he, ?_, noI, 0, 0, e, h2, by rw [decide_eq_false he]; rfl⟩
    unfold g_rlp_Whole
    rw [h1, Option.bind_some, decide_eq_false he]
    rfl
theorem RPut_L1 (f : Item → Option (List UInt8)) (x : Item) (hf : ∀ y ∈ x.fL, f y = some (ienc y)) (hl : (iencs x.fL).length ≤ 2 ^ 32) : ∀ (k i : Nat) (acc : List UInt8), k + i = x.fL.length → acc ++ iencs (x.fL.drop i) = iencs x.fL →
    Comes (step_ref05_Put f x) (.L1 acc (i : Int)) (hd true (iencs x.fL).length ++ iencs x.fL) := by
  have hll := iencs_len x.fL
  intro k
  induction k with
  | zero =>
    intro i acc h1 h2
    have e : acc = iencs x.fL := by rw [← h2, List.drop_eq_nil_of_le (by omega)]; simp [iencs]
    subst e
    have := hd_le true (k := (iencs x.fL).length) hl
    refine Comes.stop ?_
    simp only [step_ref05_Put]
    rw [decide_eq_false (by omega), cond_false, RHead_ok _ true (by omega), Option.bind_some, gO_pos (by omega)]
  | succ k ih =>
    intro i acc h1 h2
    have hi : i < x.fL.length := by omega
    rw [drop_idx x.fL hi] at h2
    simp only [iencs] at h2
    have hal : acc.length + (ienc (idx x.fL (i : Int))).length ≤ 2 ^ 32 := by
      have := congrArg List.length h2
      simp only [List.length_append] at this
      omega
    refine Comes.next ?_ (ih (i + 1) (acc ++ ienc (idx x.fL (i : Int))) (by omega) (by rw [List.append_assoc]; exact h2))
    simp only [step_ref05_Put]
    rw [decide_eq_true (by omega), cond_true, gO_pos (by omega), hf _ (idx_mem x.fL hi), Option.bind_some, gO_pos (by omega), gO_pos (by unfold inI; omega)]
    rfl
theorem RPut_rec : ∀ (n m : Nat) (x : Item), RT n x → n ≤ m → (ienc x).length ≤ 2 ^ 32 → rec_ref05_Put m x = some (ienc x)
  | n + 1, m + 1, x, h, hm, hl => by
    show gs_ref05_Put (rec_ref05_Put m) x = _
    refine theC_eq ?_
    cases hx : x.fList with
    | true =>
      have e := ienc_L hx
      have h2 : (iencs x.fL).length ≤ 2 ^ 32 := by rw [e, List.length_append] at hl; omega
      rw [e]
      refine Comes.next (c' := .L1 [] 0) ?_ (RPut_L1 _ x (fun y hy => RPut_rec n m y (h.2.2 y hy) (by omega) (by have := ienc_kid hx hy; omega)) h2 x.fL.length 0 [] (by omega) rfl)
      simp only [step_ref05_Put]
      rw [hx]; rfl
    | false =>
      have hfl := fS_len x hx
      refine Comes.stop ?_
      simp only [step_ref05_Put]
      rw [hx, Bool.not_false, cond_true, gO_pos (fun h => by have := of_decide_eq_true h; omega), ienc_eq, if_pos hx]
      by_cases h1 : x.fS.length = 1 ∧ (x.fS.getD 0 0).toNat < 128
      · have h1' : (idx x.fS (0 : Int)).toNat < 128 := h1.2
        rw [if_pos h1, decide_eq_true (by omega), decide_eq_true (by omega)]
        rfl
      · rw [if_neg h1]
        have e : (decide ((x.fS.length : Int) = 1) && decide (((idx x.fS (0 : Int)).toNat : Int) ≤ 127)) = false := by
          rw [Bool.and_eq_false_iff, decide_eq_false_iff_not, decide_eq_false_iff_not]
          have hg : idx x.fS (0 : Int) = x.fS.getD 0 0 := rfl
          rw [hg]; omega
        have := hd_le false (k := x.fS.length) (by omega)
        rw [e, cond_false, RHead_ok _ false (by omega), Option.bind_some, gO_pos (by omega)]
theorem RPut_ok {n : Nat} {x : Item} (h : RT n x) (hl : (ienc x).length ≤ 2 ^ 32) : g_ref05_Put x = some (ienc x) := theR_eq n fun m hm => RPut_rec n m x h hm hl
theorem path_ok (s : List UInt8) (hs : s.length ≤ 1000000) : ∃ p leaf ok, g_ref06_path s = some (p, leaf, ok) ∧ ((ok = true ∧ unpE s = 0 ∧ p = unpP s ∧ leaf = unpL s) ∨ (ok = false ∧ unpE s ≠ 0)) := by
  cases s with
  | nil => exact ⟨[], false, false, theC_eq (Comes.stop (by simp only [step_ref06_path]; rw [gO_pos (fun h => by simp at h)]; rfl)), .inr ⟨rfl, by decide⟩⟩
  | cons c r =>
    have hc := c.toNat_lt
    have i0 : idx (c :: r) (0 : Int) = c := rfl
    have hL : (c :: r).length = r.length + 1 := rfl
    by_cases h64 : 64 ≤ c.toNat
    · refine ⟨[], false, false, theC_eq (Comes.stop ?_), .inr ⟨rfl, ?_⟩⟩
      · simp only [step_ref06_path]
        rw [gO_pos (fun _ => by omega), i0, decide_eq_true (by omega), Bool.or_true, cond_true]
      · have : unpBad c (r.length + 1) = true := (unpBad_iff _ _).2 (by omega)
        simp only [unpE, this, if_true]; decide
    · -- the first nibble
      have m2 : decide (((c / 16 % 2).toNat : Int) = 1) = decide (c.toNat / 16 % 2 = 1) := by
        rw [Bool.eq_iff_iff]; simp only [decide_eq_true_eq]
        rw [UInt8.toNat_mod, div16_nat, show (2 : UInt8).toNat = 2 from rfl]; omega
      let q : List UInt8 := if c.toNat / 16 % 2 = 1 then [c % 16] else []
      have hq1 : q.length ≤ 1 := by show (if c.toNat / 16 % 2 = 1 then [c % 16] else []).length ≤ 1; split <;> simp
      have hqr : right q = true := by
        have : (c % 16).toNat < 16 := by rw [mod16_nat]; omega
        show right (if c.toNat / 16 % 2 = 1 then [c % 16] else []) = true
        split
        · simp only [right, List.any_cons, List.any_nil]; rw [decide_eq_false (by omega)]; rfl
        · rfl
      let n := min r.length 39
      let p := q ++ pathL (r.take n)
      have hleaf : decide ((32 : Int) ≤ (c.toNat : Int)) = decide (2 ≤ c.toNat / 16) := by
        rw [Bool.eq_iff_iff]; simp only [decide_eq_true_eq]; omega
      have hpr : right p = true := by
        have a := hqr
        have b := right_pathL (r.take n)
        simp only [right, Bool.not_eq_true'] at a b ⊢
        show (q ++ pathL (r.take n)).any _ = false
        rw [List.any_append, a, b]; rfl
      have hpl : p.length = q.length + 2 * n := by
        show (q ++ pathL (r.take n)).length = _
        rw [List.length_append, pathL_len, List.length_take]; omega
      have key : ∀ ok, (bif (decide ((p.length : Int) ≤ 64) == true) then g_ref02_Pack p (decide (2 ≤ c.toNat / 16)) else some default).bind (fun x => some (decide ((p.length : Int) ≤ 64) && (x == (c :: r)))) = some ok → g_ref06_path (c :: r) = some (p, decide (2 ≤ c.toNat / 16), ok) := by
        intro ok hok
        refine theC_eq (Comes.next (c' := .L2 q 1) ?_ ?_)
        · simp only [step_ref06_path]
          rw [gO_pos (fun _ => by omega), i0, decide_eq_false (by omega), show ((c :: r) == ([] : List UInt8)) = false from rfl, Bool.or_self, cond_false, gO_pos (by omega), m2]
          by_cases h : c.toNat / 16 % 2 = 1
          · have eq : q = [c % 16] := if_pos h
            rw [decide_eq_true h, cond_true, gO_pos (by omega), gO_pos (by simp), eq]
            rfl
          · have eq : q = [] := if_neg h
            rw [decide_eq_false h, cond_false, eq]
            rfl
        · have := Comes.upto (step := step_ref06_path (c :: r)) (fun i => .L2 (q ++ pathL (r.take i)) ((i + 1 : Nat) : Int)) n (r := (p, decide (2 ≤ c.toNat / 16), ok)) (by
            intro i hi
            have hi' : i < r.length := by omega
            have hl : (q ++ pathL (r.take i)).length ≤ 1 + 2 * i := by rw [List.length_append, pathL_len, List.length_take]; omega
            have ii : idx (c :: r) ((i + 1 : Nat) : Int) = r.getD i 0 := by rw [idx_nat]; rfl
            simp only [step_ref06_path]
            rw [decide_eq_true (by omega : ((i + 1 : Nat) : Int) < (((c :: r).length : Nat) : Int)), decide_eq_true (by omega), Bool.and_self, cond_true, gO_pos (by omega), gO_pos (by omega), ii, gO_pos (by simp only [List.length_cons, List.length_nil]; omega), gO_pos (by unfold inI; omega), pathL_take hi', List.append_assoc]
            rfl) (by
            refine Comes.stop ?_
            simp only [step_ref06_path]
            have e1 : (decide (((n + 1 : Nat) : Int) < (((c :: r).length : Nat) : Int)) && decide (((n + 1 : Nat) : Int) < 40)) = false := by
              rw [Bool.and_eq_false_iff, decide_eq_false_iff_not, decide_eq_false_iff_not]
              omega
            rw [e1, cond_false, gO_pos (by omega), i0, hleaf]
            show Option.bind (bif (decide ((p.length : Int) ≤ 64) == true) then g_ref02_Pack p (decide (2 ≤ c.toNat / 16)) else some default) _ = _
            cases hx : (bif (decide ((p.length : Int) ≤ 64) == true) then g_ref02_Pack p (decide (2 ≤ c.toNat / 16)) else some default) with
            | none => rw [hx] at hok; cases hok
            | some z =>
              rw [hx, Option.bind_some] at hok
              rw [Option.bind_some, ← Option.some.inj hok])
          have e0 : q ++ pathL (r.take 0) = q := by simp [pathL]
          rw [e0] at this
          exact this
      by_cases h65 : p.length ≤ 64
      · have hok : okP p = true := okP_yes hpr h65
        have hp := RPack_ok hok (decide (2 ≤ c.toNat / 16))
        refine ⟨p, decide (2 ≤ c.toNat / 16), packS p (decide (2 ≤ c.toNat / 16)) == (c :: r), key _ ?_, ?_⟩
        · rw [decide_eq_true (by omega : (p.length : Int) ≤ 64), show (true == true) = true from rfl, cond_true, hp, Option.bind_some, Bool.true_and]
        · cases hh : (packS p (decide (2 ≤ c.toNat / 16)) == (c :: r)) with
          | true =>
            have e : packS p (decide (2 ≤ c.toNat / 16)) = c :: r := by simpa using hh
            have := unp_pack hok (decide (2 ≤ c.toNat / 16))
            rw [e] at this
            exact .inl ⟨rfl, this.2.2, this.1.symm, this.2.1.symm⟩
          | false =>
            refine .inr ⟨rfl, fun hE => ?_⟩
            have hb : unpBad c (r.length + 1) = false := by
              cases hb : unpBad c (r.length + 1) with
              | false => rfl
              | true => simp only [unpE, hb, if_true] at hE; exact absurd hE (by decide)
            have hg := unp_is_good hb
            have hb2 : ¬ (unpBad c (r.length + 1) = true) := by rw [hb]; simp
            have hb3 := mt (unpBad_iff c (r.length + 1)).2 hb2
            have hn : r.take n = r := List.take_of_length_le (by show r.length ≤ min r.length 39; omega)
            have ep : unpP (c :: r) = p := by
              simp only [unpP, hb, Bool.false_eq_true, if_false, pathL]
              show _ = q ++ pathL (r.take n)
              rw [hn]
              by_cases h : c.toNat / 16 % 2 = 1
              · rw [show q = [c % 16] from if_pos h, h]; rfl
              · rw [show q = [] from if_neg h, show c.toNat / 16 % 2 = 0 by omega]; rfl
            have el : unpL (c :: r) = decide (2 ≤ c.toNat / 16) := by simp only [unpL, hb, Bool.false_eq_true, if_false]
            rw [ep, el] at hg
            rw [hg.2.2.2] at hh
            simp at hh
      · refine ⟨p, decide (2 ≤ c.toNat / 16), false, key _ ?_, .inr ⟨rfl, fun hE => ?_⟩⟩
        · rw [decide_eq_false (by omega : ¬ ((p.length : Int) ≤ 64)), show (false == true) = false from rfl, cond_false, Option.bind_some, Bool.false_and]
        · have hb : unpBad c (r.length + 1) = false := by
            cases hb : unpBad c (r.length + 1) with
            | false => rfl
            | true => simp only [unpE, hb, if_true] at hE; exact absurd hE (by decide)
          have hb3 := mt (unpBad_iff c (r.length + 1)).2 (by rw [hb]; simp)
          apply h65
          rw [hpl]
          by_cases h : c.toNat / 16 % 2 = 1
          · rw [show q = [c % 16] from if_pos h]; simp only [List.length_singleton]; omega
          · rw [show q = [] from if_neg h]; simp only [List.length_nil]; omega
end Go.Proofs.Ytoeppofkmcdknaa.K
