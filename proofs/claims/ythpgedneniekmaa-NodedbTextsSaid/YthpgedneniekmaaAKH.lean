import Derived.Test.YthpgedneniekmaaAKG
/- Calls by laws that touch owned blocks, as operations of a drawn region. -/
namespace Go.Proofs.Ythpgedneniekmaa.K
open Go Go.RowKit
set_option linter.unusedVariables false
set_option linter.unusedSimpArgs false
set_option linter.unusedSectionVars false
variable {P : Program}
theorem atHS_get' {f : Nat → Nat} {H : HM} : ∀ (M : List HO) (j k : Nat) (x : HO), AtHS f H M j → M[k]? = some x → H (f (j + k)) = some (x.re f)
  | [], _, _, _, _, h => by simp at h
  | y :: r, j, 0, x, h, e => by simp only [List.getElem?_cons_zero, Option.some.injEq] at e; subst e; exact h.1
  | y :: r, j, k + 1, x, h, e => by
    have := atHS_get' r (j + 1) k x h.2 (by simpa using e)
    rwa [show j + 1 + k = j + (k + 1) by omega] at this
theorem atHR_res {f : Nat → Nat} {H Hr : HM} : ∀ (M : List HO) (j : Nat), (∀ k, k < M.length → Hr (f (j + k)) = H (f (j + k))) → AtHS f H M j → AtHS f Hr M j
  | [], _, _, _ => trivial
  | y :: r, j, hh, h => ⟨by have := hh 0 (by simp); rw [Nat.add_zero] at this; rw [this]; exact h.1, atHR_res r (j + 1) (fun k hk => by have := hh (k + 1) (by simpa using hk); rwa [show j + (k + 1) = j + 1 + k by omega] at this) h.2⟩
theorem idsLts_get {n : Nat} : ∀ (M : List HO) (k : Nat) (x : HO), HO.idsLts n M = true → M[k]? = some x → x.idsLt n = true
  | [], _, _, _, h => by simp at h
  | y :: r, 0, x, h, e => by
    simp only [List.getElem?_cons_zero, Option.some.injEq] at e; subst e
    simp only [HO.idsLts, Bool.and_eq_true] at h; exact h.1
  | y :: r, k + 1, x, h, e => by
    simp only [HO.idsLts, Bool.and_eq_true] at h
    exact idsLts_get r k x h.2 (by simpa using e)
theorem putsR_congr {f : Nat → Nat} {H Hr : HM} {i : Nat} (h : H i = Hr i) : ∀ (M : List HO) (k : Nat), putsR f M k H i = putsR f M k Hr i
  | [], _ => h
  | x :: r, k => by
    simp only [putsR, putH]
    split
    · rfl
    · exact putsR_congr h r (k + 1)
theorem frame_local {H : HM} {nx : Nat} {f : Nat} {args : List PV} {M M' : List HO} {p : PV} (F : List Nat) (hS : Spec P f args (tabH M) M.length (postX (.ret p) (tabH M') M'.length))
    (hF : F.length = M.length) (hd : F.Nodup) (hH : AtHS (fOf F nx) H M 0) (hle : M.length ≤ M'.length) (hFl : ∀ i ∈ F, i < nx) (hb : HO.idsLts nx (M.map (HO.re (fOf F nx))) = true) (hab : PV.idsLts nx (PV.res (fOf F nx) args) = true) (hn : ∀ i, nx ≤ i → H i = none)
    {m : Mem} {ρ : Ren} {w : World} {vs : List Value} (V : ValidOn (· ∈ F) m ρ w H) (hf : ∀ i, nx ≤ i → i < nx + (M'.length - M.length) → ρ i = none) (hr : RepP m ρ (PV.res (fOf F nx) args) vs) :
    Calls P f ⟨vs⟩ w fun e w' => ∃ m' ρ', Done (· ∈ F) nx (nx + (M'.length - M.length)) m ρ w H m' ρ' w' (putsR (fIn F M.length nx) M' 0 H) ∧ ∃ v, e = .returned v ∧ Rep m' ρ' (p.re (fIn F M.length nx)) v := by
  let ρr : Ren := fun i => if i < nx then ρ i else none
  let Hr : HM := fun i => if i ∈ F then H i else none
  have hrl : ∀ i, i < nx → ρr i = ρ i := fun i hi => by show (if _ then _ else _) = _; rw [if_pos hi]
  have hrn : ∀ i, nx ≤ i → ρr i = none := fun i hi => by show (if _ then _ else _) = _; rw [if_neg (by omega)]
  have hHr : ∀ i, i ∈ F → Hr i = H i := fun i hi => by show (if _ then _ else _) = _; rw [if_pos hi]
  have hHn : ∀ i, Hr i ≠ none → i ∈ F := fun i hi => by
    by_cases h : i ∈ F
    · exact h
    · exact absurd (show (if _ then _ else _) = _ by rw [if_neg h]) hi
  have hfk : ∀ k, k < M.length → fOf F nx k ∈ F := by
    intro k hk
    unfold fOf
    rw [List.getD_eq_getElem?_getD, List.getElem?_eq_getElem (by omega)]
    exact List.getElem_mem _
  have hpos : ∀ i ∈ F, ∃ k, k < M.length ∧ fOf F nx k = i := by
    intro i hi
    obtain ⟨k, hk, e⟩ := List.mem_iff_getElem.1 hi
    refine ⟨k, by omega, ?_⟩
    unfold fOf
    rw [List.getD_eq_getElem?_getD, List.getElem?_eq_getElem hk]; exact e
  have hHR : AtHS (fOf F nx) Hr M 0 := atHR_res M 0 (fun k hk => by rw [Nat.zero_add]; exact hHr _ (hfk k hk)) hH
  have ent : ∀ i ∈ F, ∀ o, H i = some o → EntryOK m ρr w i o := by
    intro i hi o ho
    obtain ⟨k, hk, rfl⟩ := hpos i hi
    have h1 := atHS_get' M 0 k M[k] hH (List.getElem?_eq_getElem hk)
    rw [Nat.zero_add, ho] at h1
    cases h1
    have hbel : (HO.re (fOf F nx) M[k]).idsLt nx = true := idsLts_get _ k _ hb (by rw [List.getElem?_map, List.getElem?_eq_getElem hk]; rfl)
    have hE := V.entry _ _ hi ho
    generalize HO.re (fOf F nx) M[k] = o at *
    have hl := hrl _ (hFl _ hi)
    cases o with
    | var l =>
      simp only [EntryOK] at hE ⊢
      rcases hE with ⟨e0, e⟩ | ⟨b, c, vs, tail, t, e1, e2, e3, e4⟩
      · exact .inl ⟨e0, by rw [hl]; exact e⟩
      exact .inr ⟨b, c, vs, tail, t, by rw [hl]; exact e1, e2, RepP.idsLt hrl l vs hbel e3, e4⟩
    | spare sz n =>
      simp only [EntryOK] at hE ⊢
      rw [hl]; exact hE
    | dead => exact hE.elim
    | wsp sz l =>
      simp only [EntryOK] at hE ⊢
      rcases hE with ⟨e0, e⟩ | ⟨b, c, vs, tail, t, e1, e2, e3, e4⟩
      · exact .inl ⟨e0, by rw [hl]; exact e⟩
      exact .inr ⟨b, c, vs, tail, t, by rw [hl]; exact e1, e2, RepP.idsLt hrl l vs hbel e3, e4⟩
  have Vr : ValidOn (fun _ => True) m ρr w Hr := by
    refine ⟨V.mem, fun i o _ ho => ?_, fun i j b c c' _ _ hi hj hri hrj => ?_⟩
    · have hi := hHn i (by rw [ho]; simp)
      exact ent i hi o (by rw [← hHr i hi]; exact ho)
    · have h1 := hHn i hi
      have h2 := hHn j hj
      rw [hrl i (hFl i h1)] at hri
      rw [hrl j (hFl j h2)] at hrj
      exact V.apart i j b c c' h1 h2 (by rw [← hHr i h1]; exact hi) (by rw [← hHr j h2]; exact hj) hri hrj
  have hnr : ∀ i, nx ≤ i → Hr i = none := fun i hi => by
    by_cases h : i ∈ F
    · have := hFl i h; omega
    · show (if _ then _ else _) = _; rw [if_neg h]
  refine (frame_call F hS hF hd hHR hle m ρr w vs Vr hnr hrn (RepP.idsLt hrl _ _ hab hr)).mono ?_
  rintro e w' ⟨m', ρ', V', hn', hρ', hA, v, rfl, hv⟩
  let nx' := nx + (M'.length - M.length)
  let ρ2 : Ren := fun i => if i < nx' then ρ' i else ρ i
  have h2l : ∀ i, i < nx' → ρ2 i = ρ' i := fun i hi => by show (if _ then _ else _) = _; rw [if_pos hi]
  have h2g : ∀ i, nx' ≤ i → ρ2 i = ρ i := fun i hi => by show (if _ then _ else _) = _; rw [if_neg (by omega)]
  have hle2 : ρ'.le ρ2 := fun i x hx => by
    rcases Nat.lt_or_ge i nx' with h | h
    · rw [h2l i h]; exact hx
    · rw [hρ' i h] at hx; cases hx
  have hnx : nx ≤ nx' := Nat.le_add_right _ _
  have hold : ∀ i, i < nx → ρ2 i = ρ i := fun i hi => by rw [h2l i (by omega), hA.old i hi, hrl i hi]
  have hsame : ∀ i, (i ∈ F ∨ (nx ≤ i ∧ i < nx')) → putsR (fIn F M.length nx) M' 0 H i = putsR (fIn F M.length nx) M' 0 Hr i := by
    intro i hi
    refine putsR_congr ?_ M' 0
    rcases hi with hi | hi
    · exact (hHr i hi).symm
    · rw [hn i hi.1, hnr i hi.1]
  have hlt : ∀ i, (i ∈ F ∨ (nx ≤ i ∧ i < nx')) → i < nx' := fun i hi => hi.elim (fun h => by have := hFl i h; omega) (fun h => h.2)
  have blk : ∀ b, Blk ρr Hr (fun _ => True) b → Blk ρ H (· ∈ F) b := by
    rintro b ⟨i, c, _, hl, hri⟩
    have hi := hHn i hl
    exact ⟨i, c, hi, by rw [← hHr i hi]; exact hl, by rw [← hrl i (hFl i hi)]; exact hri⟩
  refine ⟨m', ρ2, ⟨hA.ext.mono blk, fun i x hx => ?_, fun i => ?_, ⟨V'.mem, fun i o hi ho => ?_, fun i j b c c' hi hj hli hlj hri hrj => ?_⟩, ?_⟩, v, rfl, hv.mono (Mem.le_refl _) hle2⟩
  · rcases Nat.lt_or_ge i nx with h | h
    · rw [hold i h]; exact hx
    · rcases Nat.lt_or_ge i nx' with h' | h'
      · rw [hf i h h'] at hx; cases hx
      · rw [h2g i h']; exact hx
  · rcases Nat.lt_or_ge i nx with h | h
    · exact .inl (hold i h)
    · rcases Nat.lt_or_ge i nx' with h' | h'
      · exact .inr ⟨h, h'⟩
      · exact .inl (h2g i h')
  · rw [hsame i hi] at ho
    exact (V'.entry i o trivial ho).move (Mem.le_refl _) hle2 (h2l i (hlt i hi)) (fun _ _ _ => rfl) (fun _ _ _ _ _ h => h)
  · rw [hsame i hi] at hli
    rw [hsame j hj] at hlj
    rw [h2l i (hlt i hi)] at hri
    rw [h2l j (hlt j hj)] at hrj
    exact V'.apart i j b c c' trivial trivial hli hlj hri hrj
  · rintro b ⟨i, c, hi, hl, hri⟩
    rw [hsame i hi] at hl
    rw [h2l i (hlt i hi)] at hri
    exact (hA.place b ⟨i, c, trivial, hl, hri⟩).imp (blk b) id
section
variable {o : Oper} {S : Nat → PV} {H : HM} {nx : Nat} {df : List (Nat × List PV)} {k : PV → HM → Nat → List Nat → List Nat → Prop}
theorem putsR_at {f : Nat → Nat} {H : HM} {i : Nat} : ∀ (M : List HO) (k : Nat), (∀ j, j < M.length → i ≠ f (k + j)) → putsR f M k H i = H i
  | [], _, _ => rfl
  | x :: r, k, h => by
    have h0 : i ≠ f k := by have := h 0 (by simp); rwa [Nat.add_zero] at this
    simp only [putsR, putH, h0, if_false]
    exact putsR_at r (k + 1) fun j hj => by have := h (j + 1) (by simpa using hj); rwa [show k + (j + 1) = k + 1 + j by omega] at this
theorem frame_facts {M M' : List HO} {F : List Nat} (hF : F.length = M.length) (hle : M.length ≤ M'.length) (hn : ∀ i, nx ≤ i → H i = none) (hFl : ∀ i ∈ F, i < nx) :
    (∀ i, i ∉ F → i < nx → putsR (fIn F M.length nx) M' 0 H i = H i) ∧ ∀ i, nx + (M'.length - M.length) ≤ i → putsR (fIn F M.length nx) M' 0 H i = none := by
  have fin : ∀ j, j < M.length → fIn F M.length nx j ∈ F := by
    intro j hj
    unfold fIn
    rw [if_pos hj, List.getD_eq_getElem?_getD, List.getElem?_eq_getElem (by omega)]
    exact List.getElem_mem _
  have fout : ∀ j, ¬ j < M.length → fIn F M.length nx j = nx + (j - M.length) := fun j hj => by unfold fIn; rw [if_neg hj]
  refine ⟨fun i hi hlt => putsR_at M' 0 fun j hj e => ?_, fun i hi => ?_⟩
  · rw [Nat.zero_add] at e
    by_cases h : j < M.length
    · exact hi (e ▸ fin j h)
    · rw [fout j h] at e; omega
  · rw [putsR_at M' 0 fun j hj e => ?_, hn i (by omega)]
    rw [Nat.zero_add] at e
    by_cases h : j < M.length
    · have := hFl _ (fin j h); omega
    · rw [fout j h] at e; omega
theorem so_frame {c : Call} {f : Nat} {args : List PV} {M M' : List HO} {p q : PV} {H2 : HM} {nx2 : Nat} (F : List Nat) (ho : o.op = .call c) (hc : c.callee = .value (.func f)) (he : entersB P f = true) (hS : Spec P f args (tabH M) M.length (postX (.ret p) (tabH M') M'.length))
    (ha : c.args.toList.map (evP S) = PV.res (fOf F nx) args) (hF : F.length = M.length) (hd : F.Nodup) (hH : AtHS (fOf F nx) H M 0) (hle : M.length ≤ M'.length) (hFl : ∀ i ∈ F, i < nx) (hb : HO.idsLts nx (M.map (HO.re (fOf F nx))) = true) (hab : PV.idsLts nx (PV.res (fOf F nx) args) = true)
    (hq : p.re (fIn F M.length nx) = q) (h2 : putsR (fIn F M.length nx) M' 0 H = H2) (hn2 : nx + (M'.length - M.length) = nx2) (hk : k q H2 nx2 F F) : stepO P o ⟨S, H, nx, df⟩ k := by
  intro hn
  subst hq h2 hn2
  obtain ⟨f1, f2⟩ := frame_facts (M' := M') hF hle hn hFl
  refine ⟨_, _, _, _, _, ⟨Nat.le_add_right _ _, f1, f2, fun i hi => hi, hFl, ?_⟩, hk⟩
  intro m ρ a w K Q V hf hx hK
  have hx' : ∀ x ∈ c.args.toList, Rep m ρ (evP S x) (a.eval x) := fun x hx' => hx x (by simp only [ho, Op.operands, Call.operands]; simp only [Array.mem_append]; exact .inr (by simpa using hx'))
  unfold Oper.wp
  rw [run_call_func ho hc he, Oper.upon_enter]
  have hr := repP_map_eval (s := ⟨S, H, nx, df⟩) c.args.toList hx'
  have hr' : RepP m ρ (PV.res (fOf F nx) args) (c.args.toList.map a.eval) := ha ▸ hr
  have := frame_local F hS hF hd hH hle hFl hb hab hn V hf hr'
  have e : (⟨c.args.toList.map a.eval⟩ : Array Value) = c.args.map a.eval := by apply Array.ext'; simp
  rw [e] at this
  refine this.mono ?_
  rintro e w' ⟨m', ρ', hD, v, rfl, hv⟩
  exact hK v m' ρ' w' hD hv
end
end Go.Proofs.Ythpgedneniekmaa.K
