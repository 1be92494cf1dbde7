/- A law over few owned blocks, used where there are more: the frame of a call. -/
import Derived.Test.YtonlehebfeilmaaK33
namespace Go.Proofs.Ytonlehebfeilmaa.K
open Go Go.RowKit

variable {P : Program} {N b : Nat}

mutual
theorem Rep.re_to {m : Mem} {ρ ρ2 : Ren} {f : Nat → Nat} (hf : ∀ i, ρ2 (f i) = ρ i) : ∀ (p : PV) (v : Value), Rep m ρ p v → Rep m ρ2 (p.re f) v
  | .d x, v, e => by simpa [PV.re, Rep] using e
  | .full l, v, e => by simpa [PV.re, Rep] using e
  | .own id l, v, e => by simpa [PV.re, Rep, hf] using e
  | .vptr id off, v, e => by simpa [PV.re, Rep, hf] using e
  | .clo g l, v, e => by
    simp only [PV.re, Rep] at e ⊢
    obtain ⟨vs, e1, e2⟩ := e
    exact ⟨vs, e1, RepP.re_to hf l vs e2⟩
  | .agg l, v, e => by
    simp only [PV.re, Rep] at e ⊢
    obtain ⟨vs, e1, e2, e3⟩ := e
    exact ⟨vs, e1, RepP.re_to hf l vs e2, e3⟩
  | .tuple l, v, e => by
    simp only [PV.re, Rep] at e ⊢
    obtain ⟨vs, e1, e2⟩ := e
    exact ⟨vs, e1, RepP.re_to hf l vs e2⟩
  | .cond g p, v, e => by
    simp only [PV.re, Rep] at e ⊢
    exact ⟨fun h => Rep.re_to hf p v (e.1 h), e.2⟩
  | .junk, v, e => by simp [PV.re, Rep]
theorem RepP.re_to {m : Mem} {ρ ρ2 : Ren} {f : Nat → Nat} (hf : ∀ i, ρ2 (f i) = ρ i) : ∀ (l : List PV) (vs : List Value), RepP m ρ l vs → RepP m ρ2 (PV.res f l) vs
  | [], vs, e => by simpa [PV.res, RepP] using e
  | x :: r, vs, e => by
    simp only [PV.res, RepP] at e ⊢
    obtain ⟨v, vr, e1, e2, e3⟩ := e
    exact ⟨v, vr, e1, Rep.re_to hf x v e2, RepP.re_to hf r vr e3⟩
end
theorem EntryOK.re_to {m : Mem} {ρ ρ2 : Ren} {w : World} {i : Nat} {f : Nat → Nat} {o : HO} (hf : ∀ i, ρ2 (f i) = ρ i) (h : EntryOK m ρ w i o) : EntryOK m ρ2 w (f i) (o.re f) := by
  cases o with
  | var l =>
    simp only [HO.re, EntryOK] at h ⊢
    obtain ⟨b, c, vs, t, e1, e2, e3, e4⟩ := h
    exact ⟨b, c, vs, t, by rw [hf]; exact e1, e2, RepP.re_to hf _ _ e3, e4⟩
  | spare sz n =>
    simp only [HO.re, EntryOK] at h ⊢
    rw [hf]; exact h

/-- The entries of M at the numbers of F. -/
def putsR (f : Nat → Nat) : List HO → Nat → HM → HM
  | [], _, H => H
  | x :: r, i, H => putH (putsR f r (i + 1) H) (f i) (some (x.re f))
theorem putsR_in {f : Nat → Nat} {H : HM} (hinj : ∀ i j, f i = f j → i = j) : ∀ (M : List HO) (k i : Nat) (o : HO), tabH M i = some o → putsR f M k H (f (k + i)) = some (o.re f)
  | [], _, _, _, h => by simp [tabH] at h
  | x :: r, k, 0, o, h => by
    simp only [tabH, Option.some.injEq] at h
    subst h
    simp [putsR, putH]
  | x :: r, k, i + 1, o, h => by
    have := putsR_in (H := H) hinj r (k + 1) i o h
    have hne : f (k + (i + 1)) ≠ f k := fun e => by have := hinj _ _ e; omega
    simp only [putsR, putH, hne, if_false]
    rw [show k + (i + 1) = k + 1 + i by omega]; exact this
theorem putsR_out {f : Nat → Nat} {H : HM} {j : Nat} : ∀ (M : List HO) (k : Nat), (∀ i, i < M.length → j ≠ f (k + i)) → putsR f M k H j = H j
  | [], _, _ => rfl
  | x :: r, k, h => by
    have h0 : j ≠ f k := h 0 (by simp)
    simp only [putsR, putH, h0, if_false]
    exact putsR_out r (k + 1) fun i hi => by have := h (i + 1) (by simpa using hi); rwa [show k + (i + 1) = k + 1 + i by omega] at this
theorem tabH_lt : ∀ (M : List HO) (i : Nat), i < M.length → ∃ o, tabH M i = some o
  | [], i, h => by simp at h
  | x :: r, 0, _ => ⟨x, rfl⟩
  | x :: r, i + 1, h => tabH_lt r i (by simpa using h)
theorem tabH_len : ∀ (M : List HO) (i : Nat) (o : HO), tabH M i = some o → i < M.length
  | [], _, _, h => by simp [tabH] at h
  | x :: r, 0, _, _ => by simp
  | x :: r, i + 1, o, h => by have := tabH_len r i o h; simp; omega

def postX (out : Out) (H : HM) (n : Nat) : Out → HM → Nat → Prop := fun out' H' n' => out' = out ∧ H' = H ∧ n' = n
def Out.re (f : Nat → Nat) : Out → Out
  | .ret p => .ret (p.re f)
  | .pan p => .pan (p.re f)

/-- From the numbers of a small law to those at the call: F, then new ones. -/
def fIn (F : List Nat) (n nx i : Nat) : Nat := if i < n then F.getD i 0 else nx + (i - n)

theorem frame_tr {H : HM} {nx : Nat} {M M' : List HO} (F : List Nat) (hF : F.length = M.length) (hd : F.Nodup) (hH : AtHR (fOf F nx) H M 0) (hle : M.length ≤ M'.length)
    {m : Mem} {ρ : Ren} {w : World} (V : ValidOn (fun _ => True) m ρ w H) (hn : ∀ i, nx ≤ i → H i = none) (hρ : ∀ i, nx ≤ i → ρ i = none) :
    (ValidOn (fun _ => True) m (fun i => ρ (fOf F nx i)) w (tabH M) ∧ (∀ i, M.length ≤ i → tabH M i = none) ∧ ∀ i, M.length ≤ i → ρ (fOf F nx i) = none) ∧
    ∀ (m' : Mem) (ρ' : Ren) (w' : World), ValidOn (fun _ => True) m' ρ' w' (tabH M') → (∀ i, M'.length ≤ i → ρ' i = none) → Adv M.length m (fun i => ρ (fOf F nx i)) w (tabH M) M'.length m' ρ' w' (tabH M') →
      ∃ ρ2 : Ren, ValidOn (fun _ => True) m' ρ2 w' (putsR (fIn F M.length nx) M' 0 H) ∧ (∀ i, nx + (M'.length - M.length) ≤ i → putsR (fIn F M.length nx) M' 0 H i = none) ∧ (∀ i, nx + (M'.length - M.length) ≤ i → ρ2 i = none) ∧
        Adv nx m ρ w H (nx + (M'.length - M.length)) m' ρ2 w' (putsR (fIn F M.length nx) M' 0 H) ∧ ∀ p v, Rep m' ρ' p v → Rep m' ρ2 (p.re (fIn F M.length nx)) v := by
  have hsm : ∀ i, i < M.length → ∃ x, F[i]? = some x ∧ fOf F nx i = x ∧ fIn F M.length nx i = x := by
    intro i hi
    refine ⟨F[i]'(by omega), List.getElem?_eq_getElem (by omega), ?_, ?_⟩
    · unfold fOf; rw [List.getD_eq_getElem?_getD, List.getElem?_eq_getElem (by omega)]; rfl
    · unfold fIn; rw [if_pos hi, List.getD_eq_getElem?_getD, List.getElem?_eq_getElem (by omega)]; rfl
  have hlive : ∀ i o, tabH M i = some o → i < M.length ∧ H (fOf F nx i) = some (o.re (fOf F nx)) := by
    intro i o h
    have := tabH_get M 0 i o hH h
    rw [Nat.zero_add] at this
    exact this
  have hne : ∀ i, tabH M i ≠ none → i < M.length ∧ H (fOf F nx i) ≠ none := by
    intro i h
    cases hh : tabH M i with
    | none => exact absurd hh h
    | some o => have := hlive i o hh; exact ⟨this.1, by rw [this.2]; simp⟩
  have hltx : ∀ i, i < M.length → fOf F nx i < nx := by
    intro i hi
    obtain ⟨o, ho⟩ := tabH_lt M i hi
    have := (hlive i o ho).2
    rcases Nat.lt_or_ge (fOf F nx i) nx with h | h
    · exact h
    · rw [hn _ h] at this; cases this
  have hinjF : ∀ i j, i < M.length → j < M.length → fOf F nx i = fOf F nx j → i = j := by
    intro i j hi hj e
    obtain ⟨x, hx, ex, _⟩ := hsm i hi
    obtain ⟨y, hy, ey, _⟩ := hsm j hj
    rw [ex, ey] at e
    subst e
    obtain ⟨l1, e1⟩ := List.getElem?_eq_some_iff.1 hx
    obtain ⟨l2, e2⟩ := List.getElem?_eq_some_iff.1 hy
    exact (List.getElem_inj hd).1 (e1.trans e2.symm)
  have hinj : ∀ i j, fIn F M.length nx i = fIn F M.length nx j → i = j := by
    intro i j e
    by_cases hi : i < M.length <;> by_cases hj : j < M.length
    · obtain ⟨x, _, ex, ex'⟩ := hsm i hi
      obtain ⟨y, _, ey, ey'⟩ := hsm j hj
      exact hinjF i j hi hj (by rw [ex, ey, ← ex', ← ey', e])
    · have h1 := hltx i hi
      obtain ⟨x, _, ex, ex'⟩ := hsm i hi
      rw [ex', ← ex] at e
      unfold fIn at e; rw [if_neg hj] at e; omega
    · have h1 := hltx j hj
      obtain ⟨x, _, ex, ex'⟩ := hsm j hj
      rw [ex', ← ex] at e
      unfold fIn at e; rw [if_neg hi] at e; omega
    · unfold fIn at e; rw [if_neg hi, if_neg hj] at e; omega
  have hbig : ∀ i, M.length ≤ i → ρ (fOf F nx i) = none := by
    intro i hi
    have : fOf F nx i = nx + i := by
      unfold fOf
      rw [List.getD_eq_getElem?_getD, List.getElem?_eq_none (by omega)]; rfl
    rw [this]
    exact hρ _ (Nat.le_add_right _ _)
  have Vs : ValidOn (fun _ => True) m (fun i => ρ (fOf F nx i)) w (tabH M) := by
    refine ⟨V.mem, ?_, ?_⟩
    · intro i o _ ho
      exact EntryOK.re rfl (fun p v h => Rep.re p v h) (V.entry _ _ trivial (hlive i o ho).2)
    · intro i j c d d' _ _ hi hj hri hrj
      have h1 := hne i hi
      have h2 := hne j hj
      exact hinjF i j h1.1 h2.1 (V.apart _ _ _ _ _ trivial trivial h1.2 h2.2 hri hrj)
  have hnil0 : ∀ i, M.length ≤ i → tabH M i = none := by
    intro i hi
    cases hh : tabH M i with
    | none => rfl
    | some o => have := tabH_len M i o hh; omega
  refine ⟨⟨Vs, hnil0, hbig⟩, ?_⟩
  intro m' ρ' w' V' hρ' hA
  let ρ2 : Ren := fun i => if i < nx then ρ i else ρ' (M.length + (i - nx))
  have hρ2 : ∀ i, ρ2 (fIn F M.length nx i) = ρ' i := by
    intro i
    by_cases hi : i < M.length
    · obtain ⟨x, _, ex, ex'⟩ := hsm i hi
      have h1 := hltx i hi
      show (if _ then _ else _) = _
      rw [ex', ← ex, if_pos h1, hA.old i hi]
    · show (if _ then _ else _) = _
      unfold fIn
      rw [if_neg hi, if_neg (by omega)]
      congr 1; omega
  have hle2 : ρ.le ρ2 := by
    intro i x hx
    show (if _ then _ else _) = _
    rcases Nat.lt_or_ge i nx with h | h
    · rw [if_pos h]; exact hx
    · rw [hρ i h] at hx; cases hx
  have hold : ∀ i, i < nx → ρ2 i = ρ i := fun i hi => by show (if _ then _ else _) = _; rw [if_pos hi]
  have hin : ∀ i o, tabH M' i = some o → putsR (fIn F M.length nx) M' 0 H (fIn F M.length nx i) = some (o.re (fIn F M.length nx)) := by
    intro i o ho
    have := putsR_in (H := H) hinj M' 0 i o ho
    rwa [Nat.zero_add] at this
  -- a number either is one of the small law's or is as it was
  have hcase : ∀ j, (∃ i o, tabH M' i = some o ∧ j = fIn F M.length nx i) ∨ ((∀ i, i < M'.length → j ≠ fIn F M.length nx i) ∧ putsR (fIn F M.length nx) M' 0 H j = H j) := by
    intro j
    by_cases h : ∃ i, i < M'.length ∧ j = fIn F M.length nx i
    · obtain ⟨i, hi, e⟩ := h
      obtain ⟨o, ho⟩ := tabH_lt M' i hi
      exact .inl ⟨i, o, ho, e⟩
    · have h' : ∀ i, i < M'.length → j ≠ fIn F M.length nx i := fun i hi e => h ⟨i, hi, e⟩
      exact .inr ⟨h', putsR_out M' 0 (fun i hi => by rw [Nat.zero_add]; exact h' i hi)⟩
  have hout : ∀ j b c, (∀ i, i < M'.length → j ≠ fIn F M.length nx i) → H j ≠ none → ρ j = some (b, c) → ¬ Blk (fun i => ρ (fOf F nx i)) (tabH M) (fun _ => True) b := by
    rintro j b c hj hjn hr ⟨i, d, _, hl, hri⟩
    have h1 := hne i hl
    have := V.apart j _ _ _ _ trivial trivial hjn h1.2 hr hri
    obtain ⟨x, _, ex, ex'⟩ := hsm i h1.1
    exact hj i (by omega) (by rw [this, ex, ex'])
  have hlt : ∀ j b c, H j ≠ none → ρ j = some (b, c) → b < w.heap.size := by
    intro j b c hj hr
    cases hh : H j with
    | none => exact absurd hh hj
    | some o => exact (V.entry j o trivial hh).ren hr
  have hjnx : ∀ j, H j ≠ none → j < nx := by
    intro j hj
    rcases Nat.lt_or_ge j nx with h | h
    · exact h
    · exact absurd (hn j h) hj
  have Vb : ValidOn (fun _ => True) m' ρ2 w' (putsR (fIn F M.length nx) M' 0 H) := by
    refine ⟨V'.mem, ?_, ?_⟩
    · intro j o _ ho
      rcases hcase j with ⟨i, o', ho', rfl⟩ | ⟨hj, e⟩
      · rw [hin i o' ho'] at ho
        cases ho
        exact EntryOK.re_to hρ2 (V'.entry i o' trivial ho')
      · rw [e] at ho
        have hjn : H j ≠ none := by rw [ho]; simp
        refine (V.entry j o trivial ho).move hA.ext.mem hle2 (hold j (hjnx j hjn)) (fun b' c hr => ?_) (fun b' c hr o' v e' => ?_)
        · exact hA.ext.block b' (hlt j b' c hjn hr) (hout j b' c hj hjn hr)
        · rcases hA.ext.new b' o' v e' with h1 | h1 | h1
          · exact h1
          · exact absurd h1 (hout j b' c hj hjn hr)
          · have := hlt j b' c hjn hr; omega
    · intro i j b' c c' _ _ hi hj hri hrj
      have cross : ∀ i j c c', (∃ p o, tabH M' p = some o ∧ i = fIn F M.length nx p) → ((∀ q, q < M'.length → j ≠ fIn F M.length nx q) ∧ putsR (fIn F M.length nx) M' 0 H j = H j) → putsR (fIn F M.length nx) M' 0 H j ≠ none → ρ2 i = some (b', c) → ρ2 j = some (b', c') → False := by
        rintro i j c c' ⟨p, o, ho, rfl⟩ ⟨hj, e⟩ hjn hri hrj
        rw [e] at hjn
        rw [hold j (hjnx j hjn)] at hrj
        rw [hρ2] at hri
        rcases hA.place b' ⟨p, c, trivial, by rw [ho]; simp, hri⟩ with h1 | h1
        · exact hout j b' c' hj hjn hrj h1
        · have := hlt j b' c' hjn hrj; omega
      rcases hcase i with hci | hci <;> rcases hcase j with hcj | hcj
      · obtain ⟨p, o, ho, rfl⟩ := hci
        obtain ⟨q, o', ho', rfl⟩ := hcj
        rw [hρ2] at hri hrj
        rw [V'.apart p q _ _ _ trivial trivial (by rw [ho]; simp) (by rw [ho']; simp) hri hrj]
      · exact (cross i j c c' hci hcj hj hri hrj).elim
      · exact (cross j i c' c hcj hci hi hrj hri).elim
      · rw [hci.2] at hi
        rw [hcj.2] at hj
        rw [hold i (hjnx i hi)] at hri
        rw [hold j (hjnx j hj)] at hrj
        exact V.apart i j b' c c' trivial trivial hi hj hri hrj
  refine ⟨ρ2, Vb, ?_, ?_, ⟨hA.ext.mono ?_, hle2, ?_, by omega, hold⟩, fun p v h => Rep.re_to hρ2 p v h⟩
  · intro j hj
    rcases hcase j with ⟨i, o, ho, rfl⟩ | ⟨_, e⟩
    · have h1 := tabH_len M' i o ho
      unfold fIn at hj
      split at hj
      · rename_i h2
        obtain ⟨x, hx, ex, ex'⟩ := hsm i h2
        have h3 := hltx i h2
        have : F.getD i 0 = x := by rw [List.getD_eq_getElem?_getD, hx]; rfl
        rw [this, ← ex] at hj; omega
      · omega
    · rw [e]; exact hn j (by omega)
  · intro j hj
    show (if _ then _ else _) = _
    rw [if_neg (by omega)]
    exact hρ' _ (by omega)
  · rintro b' ⟨i, c, _, hl, hri⟩
    exact ⟨fOf F nx i, c, trivial, (hne i hl).2, hri⟩
  · rintro b' ⟨j, c, _, hl, hrj⟩
    rcases hcase j with ⟨i, o, ho, rfl⟩ | ⟨_, e⟩
    · rw [hρ2] at hrj
      rcases hA.place b' ⟨i, c, trivial, by rw [ho]; simp, hrj⟩ with ⟨p, c', _, hl', hp⟩ | h1
      · exact .inl ⟨fOf F nx p, c', trivial, (hne p hl').2, hp⟩
      · exact .inr h1
    · rw [e] at hl
      rw [hold j (hjnx j hl)] at hrj
      exact .inl ⟨j, c, trivial, hl, hrj⟩

theorem frame_call {H : HM} {nx : Nat} {f : Nat} {args : List PV} {M M' : List HO} {out : Out} (F : List Nat) (hS : Spec P f args (tabH M) M.length (postX out (tabH M') M'.length))
    (hF : F.length = M.length) (hd : F.Nodup) (hH : AtHR (fOf F nx) H M 0) (hle : M.length ≤ M'.length) :
    ∀ (m : Mem) (ρ : Ren) (w : World) (vs : List Value), ValidOn (fun _ => True) m ρ w H → (∀ i, nx ≤ i → H i = none) → (∀ i, nx ≤ i → ρ i = none) → RepP m ρ (PV.res (fOf F nx) args) vs →
      Calls P f ⟨vs⟩ w fun e w' => ∃ m' ρ', ValidOn (fun _ => True) m' ρ' w' (putsR (fIn F M.length nx) M' 0 H) ∧ (∀ i, nx + (M'.length - M.length) ≤ i → putsR (fIn F M.length nx) M' 0 H i = none) ∧ (∀ i, nx + (M'.length - M.length) ≤ i → ρ' i = none) ∧
        Adv nx m ρ w H (nx + (M'.length - M.length)) m' ρ' w' (putsR (fIn F M.length nx) M' 0 H) ∧ RE m' ρ' (out.re (fIn F M.length nx)) e := by
  intro m ρ w vs V hn hρ hr
  obtain ⟨⟨Vs, hnil0, hbig⟩, tr⟩ := frame_tr (M' := M') F hF hd hH hle V hn hρ
  refine (hS m (fun i => ρ (fOf F nx i)) w vs Vs hnil0 hbig (RepP.re args vs hr)).mono ?_
  rintro e w' ⟨out', H', nx', m', ρ', ⟨rfl, rfl, rfl⟩, V', hn', hρ', hA, hre⟩
  obtain ⟨ρ2, h1, h2, h3, h4, h5⟩ := tr m' ρ' w' V' hρ' hA
  refine ⟨m', ρ2, h1, h2, h3, h4, ?_⟩
  cases out' with
  | ret p => obtain ⟨v, rfl, hv⟩ := hre; exact ⟨v, rfl, h5 p v hv⟩
  | pan p => obtain ⟨v, rfl, hv⟩ := hre; exact ⟨v, rfl, h5 p v hv⟩

section
variable {ops : Array Oper} {o : Oper} {r : List Oper} {S : Nat → PV} {H : HM} {nx : Nat} {df : List (Nat × List PV)} {Q : PX → St → Prop}
theorem xcall_frame {c : Call} {f : Nat} {args : List PV} {M M' : List HO} {out : Out} (F : List Nat) (ho : o.op = .call c) (hc : c.callee = .value (.func f)) (he : entersB P f = true) (hS : Spec P f args (tabH M) M.length (postX out (tabH M') M'.length))
    (ha : c.args.toList.map (evP S) = PV.res (fOf F nx) args) (hF : F.length = M.length) (hd : F.Nodup) (hH : AtHR (fOf F nx) H M 0) (hle : M.length ≤ M'.length) :
    XCall P o ⟨S, H, nx, df⟩ fun out' H' nx' => out' = out.re (fIn F M.length nx) ∧ H' = putsR (fIn F M.length nx) M' 0 H ∧ nx' = nx + (M'.length - M.length) := by
  intro m ρ a w K Q V hn hρ hx h1 h2
  have hx' : ∀ x ∈ c.args.toList, Rep m ρ (evP S x) (a.eval x) := fun x hx' => hx x (by simp only [ho, Op.operands, Call.operands]; simp only [Array.mem_append]; exact .inr (by simpa using hx'))
  unfold Oper.wp
  rw [run_call_func ho hc he, Oper.upon_enter]
  have hr := repP_map_eval (s := ⟨S, H, nx, df⟩) c.args.toList hx'
  have hr' : RepP m ρ (PV.res (fOf F nx) args) (c.args.toList.map a.eval) := ha ▸ hr
  have := frame_call F hS hF hd hH hle m ρ w _ V hn hρ hr'
  have e : (⟨c.args.toList.map a.eval⟩ : Array Value) = c.args.map a.eval := by apply Array.ext'; simp
  rw [e] at this
  refine this.mono ?_
  rintro e w' ⟨m', ρ', V', hn', hr', hA, hre⟩
  cases out with
  | ret p => obtain ⟨v, rfl, hv⟩ := hre; exact h1 _ _ _ m' ρ' w' v ⟨rfl, rfl, rfl⟩ V' hn' hr' hA hv
  | pan p => obtain ⟨v, rfl, hv⟩ := hre; exact h2 _ _ _ m' ρ' w' v ⟨rfl, rfl, rfl⟩ V' hn' hr' hA hv
/-- A function value with what it holds. -/
theorem xclo_frame {c : Call} {f t : Nat} {args caps : List PV} {M M' : List HO} {out : Out} (F : List Nat) (ho : o.op = .call c) (hc : c.callee = .value (.tmp t)) (ht : S t = .clo f caps) (he : entersB P f = true) (hS : Spec P f args (tabH M) M.length (postX out (tabH M') M'.length))
    (ha : c.args.toList.map (evP S) ++ caps = PV.res (fOf F nx) args) (hF : F.length = M.length) (hd : F.Nodup) (hH : AtHR (fOf F nx) H M 0) (hle : M.length ≤ M'.length) :
    XCall P o ⟨S, H, nx, df⟩ fun out' H' nx' => out' = out.re (fIn F M.length nx) ∧ H' = putsR (fIn F M.length nx) M' 0 H ∧ nx' = nx + (M'.length - M.length) := by
  intro m ρ a w K Q V hn hρ hx h1 h2
  have hx' : ∀ x ∈ c.args.toList, Rep m ρ (evP S x) (a.eval x) := fun x hx' => hx x (by simp only [ho, Op.operands, Call.operands]; simp only [Array.mem_append]; exact .inr (by simpa using hx'))
  have h0 := hx (.tmp t) (by simp [ho, Op.operands, Call.operands, hc])
  have h0' : Rep m ρ (.clo f caps) (a.eval (.tmp t)) := ht ▸ h0
  simp only [Rep] at h0'
  obtain ⟨cs, hcv, hcs⟩ := h0'
  unfold Oper.wp
  rw [run_call_clo ho hc hcv he, Oper.upon_enter]
  have hr := repP_append (repP_map_eval (s := ⟨S, H, nx, df⟩) c.args.toList hx') hcs
  have hr' : RepP m ρ (PV.res (fOf F nx) args) (c.args.toList.map a.eval ++ cs) := ha ▸ hr
  have := frame_call F hS hF hd hH hle m ρ w _ V hn hρ hr'
  have e : (⟨c.args.toList.map a.eval ++ cs⟩ : Array Value) = c.args.map a.eval ++ ⟨cs⟩ := by apply Array.ext'; simp
  rw [e] at this
  refine this.mono ?_
  rintro e w' ⟨m', ρ', V', hn', hr', hA, hre⟩
  cases out with
  | ret p => obtain ⟨v, rfl, hv⟩ := hre; exact h1 _ _ _ m' ρ' w' v ⟨rfl, rfl, rfl⟩ V' hn' hr' hA hv
  | pan p => obtain ⟨v, rfl, hv⟩ := hre; exact h2 _ _ _ m' ρ' w' v ⟨rfl, rfl, rfl⟩ V' hn' hr' hA hv

/-- A call that returns. -/
theorem XK.fr {out : Out} {H2 : HM} {nx2 n : Nat} {p : PV} (d : Option Nat) (hd : o.dst = d) (hg : o.guard = none) {f : Nat → Nat} {M' : List HO} (h : XCall P o ⟨S, H, nx, df⟩ fun out' H' nx' => out' = out.re f ∧ H' = putsR f M' 0 H ∧ nx' = nx + n)
    (ho : out.re f = .ret p) (hH : putsR f M' 0 H = H2) (hn : nx + n = nx2) (k : XK P ops r ⟨putS S d p, H2, nx2, df⟩ Q) : XK P ops (o :: r) ⟨S, H, nx, df⟩ Q := by
  subst hd hH hn
  refine fun hnil => .call hg h ?_ ?_
  · rintro p' H' nx' ⟨e, rfl, rfl⟩ hn'
    rw [ho] at e
    cases e
    exact k hn'
  · rintro p' H' nx' ⟨e, rfl, rfl⟩
    rw [ho] at e
    cases e
/-- A call that panics. -/
theorem XK.fp {out : Out} {H2 : HM} {nx2 n : Nat} {p : PV} (hg : o.guard = none) {f : Nat → Nat} {M' : List HO} (h : XCall P o ⟨S, H, nx, df⟩ fun out' H' nx' => out' = out.re f ∧ H' = putsR f M' 0 H ∧ nx' = nx + n)
    (ho : out.re f = .pan p) (hH : putsR f M' 0 H = H2) (hn : nx + n = nx2) (k : Q (.panic p) ⟨S, H2, nx2, df⟩) : XK P ops (o :: r) ⟨S, H, nx, df⟩ Q := by
  subst hH hn
  refine fun hnil => .call hg h ?_ ?_
  · rintro p' H' nx' ⟨e, rfl, rfl⟩ hn'
    rw [ho] at e
    cases e
  · rintro p' H' nx' ⟨e, rfl, rfl⟩
    rw [ho] at e
    cases e
    exact k
theorem XK.panic {x : Operand} {t : TypeId} {y : D} (hg : o.guard = none) (ho : o.op = .panic x) (hx : evP S x = .d (.iface t y)) (k : Q (.panic (.d (.iface t y))) ⟨S, H, nx, df⟩) : XK P ops (o :: r) ⟨S, H, nx, df⟩ Q := by
  refine fun hnil => .call (post := fun out' H' nx' => out' = .pan (.d (.iface t y)) ∧ H' = H ∧ nx' = nx) hg ?_ ?_ ?_
  · intro m ρ a w K Q V hn hρ hxs h1 h2
    have h0 := hxs x (by simp [ho, Op.operands])
    have h0' : Rep m ρ (.d (.iface t y)) (a.eval x) := hx ▸ h0
    have h0'' := h0'
    simp only [Rep, RepD] at h0'
    obtain ⟨u, hv, _⟩ := h0'
    unfold Oper.wp
    have hrun : (execOp a.eval o).run P w = .halt (.panic (.iface t u)) w := by
      obtain ⟨dst, op, type, pos, after, guard⟩ := o
      simp only at ho
      subst ho
      simp only [execOp, hv]
      rfl
    rw [hrun, Oper.upon_panic]
    exact h2 _ _ _ m ρ w _ ⟨rfl, rfl, rfl⟩ V hn hρ (Adv.refl _ _ _ _ _) (hv ▸ h0'')
  · rintro p' H' nx' ⟨e, rfl, rfl⟩ hn'; cases e
  · rintro p' H' nx' ⟨e, rfl, rfl⟩; cases e; exact k
variable {frz : List Nat} {k : PV → HM → Nat → List Nat → List Nat → Prop}
theorem sf_iface {t : TypeId} {x : Operand} {y : D} (ho : o.op = .makeInterface t x) (hx : (evP S x).toD = some y) (ht : ifaceOK P t = true) (hk : k (.d (.iface t y)) H nx [] []) : stepF P frz o ⟨S, H, nx, df⟩ k := by
  unfold stepF; rw [ho]; simp only [pureF, hx]; exact ⟨ht, hk⟩
end

/-- A call's first state by its table. -/
def tabP : List PV → Nat → List (Nat × PV)
  | [], _ => []
  | x :: r, i => (i, x) :: tabP r (i + 1)
theorem tabP_at : ∀ (l : List PV) (i t : Nat), tab (tabP l i) (i + t) = initP l t
  | [], _, _ => by simp [tabP, tab, initP]
  | x :: r, i, 0 => by simp [tabP, tab, initP]
  | x :: r, i, t + 1 => by
    have := tabP_at r (i + 1) t
    unfold tabP tab
    rw [if_neg (by simp only; omega), show i + (t + 1) = i + 1 + t by omega, this]
    simp [initP]
theorem View.initP {args : List PV} {L : List (Nat × PV)} {M : List HO} {n : Nat} (hb : b ≤ n) (h : L = tabP args 0) : View N b ⟨K.initP args, tabH M, n, []⟩ ⟨tab L, tabH M, n, []⟩ := by
  subst h
  have e1 : tab (tabP args 0) = K.initP args := by funext t; have := tabP_at args 0 t; rwa [Nat.zero_add] at this
  rw [e1]
  exact View.refl hb
theorem repP_setI {m : Mem} {ρ : Ren} {p q : PV} (h : Imp p q) : ∀ (l : List PV) (vs : List Value) (j : Nat), l[j]? = some p → RepP m ρ l vs → RepP m ρ (l.set j q) vs := repP_set (h m ρ)
/-- A cell of a variable is taken for the data that it holds. -/
theorem View.castV {s : St} {l : List PV} {p : PV} {x : D} (id j : Nat) (hH : s.H id = some (.var l)) (hj : l[j]? = some p) (hp : p.toD = some x) (hb : b ≤ s.nx) :
    View N b s ⟨s.S, putH s.H id (some (.var (l.set j (.d x)))), s.nx, s.df⟩ := by
  refine View.of hb fun m ρ a w hI => ?_
  have live : ∀ k, putH s.H id (some (.var (l.set j (.d x)))) k ≠ none → s.H k ≠ none := by
    intro k
    simp only [putH]
    split
    · rename_i e; intro _; rw [e, hH]; simp
    · exact fun h => h
  refine ⟨ρ, ⟨hI.size, hI.defers, hI.slots, ⟨hI.valid.mem, fun i o _ hH' => ?_, fun i j b c c' _ _ hi hj hri hrj => ?_⟩, fun i hi => ?_, hI.rnil⟩, ?_, fun _ _ => rfl⟩
  · by_cases e2 : i = id
    · subst e2
      simp only [putH, if_true, Option.some.injEq] at hH'
      subst hH'
      obtain ⟨b, c, vs, t, e1, e2, e3, e5, e4⟩ := hI.valid.entry i _ trivial hH
      exact ⟨b, c, vs, t, e1, e2, repP_setI (Imp.toD hp) _ _ _ hj e3, e5, e4⟩
    · simp only [putH, e2, if_false] at hH'
      exact hI.valid.entry i o trivial hH'
  · exact hI.valid.apart i j b c c' trivial trivial (live i hi) (live j hj) hri hrj
  · have e2 : i ≠ id := by
      intro e; subst e
      have h1 : s.nx ≤ i := hi
      rw [hI.hnil i h1] at hH; cases hH
    simp only [putH, e2, if_false]
    exact hI.hnil i hi
  · rintro b' ⟨i, c, _, hl, hri⟩
    exact ⟨i, c, trivial, live i hl, hri⟩

/-! ### Results of laws over owned blocks -/
def EndsV (P : Program) (rs : List ResultVar) (N b : Nat) (post : Out → HM → Nat → Prop) (px : PX) (s : St) : Prop :=
  ∃ s', View N b s s' ∧ EndsX P rs post px s' ∧ ∀ p, px = .panic p → ∃ x, p = .d x
theorem EndsV.one {rs : List ResultVar} {s s' : St} {r : ResultVar} {p : PV} {px : PX} {H : HM} {n : Nat} (hr : rs = [r]) (hp : px = .normal ∨ px = .ret) (hv : View N b s s') (hd : s'.df = []) (h : ResIs P s' r p) (hH : s'.H = H) (hn : s'.nx = n) : EndsV P rs N b (postX (.ret p) H n) px s := by
  subst hr
  refine ⟨s', hv, ?_, fun p e => ?_⟩
  · rcases hp with rfl | rfl
    · exact ⟨hd, h.1, s'.H, fun _ => .inr rfl, congrArg Out.ret h.2, hH, hn⟩
    · exact ⟨hd, h.1, s'.H, fun _ => .inr rfl, congrArg Out.ret h.2, hH, hn⟩
  · rcases hp with rfl | rfl <;> cases e
theorem EndsV.none {s s' : St} {px : PX} {H : HM} {n : Nat} (hp : px = .normal ∨ px = .ret) (hv : View N b s s') (hd : s'.df = []) (hH : s'.H = H) (hn : s'.nx = n) : EndsV P [] N b (postX (.ret (.tuple [])) H n) px s := by
  refine ⟨s', hv, ?_, fun p e => ?_⟩
  · rcases hp with rfl | rfl
    · exact ⟨hd, by simp [resP], s'.H, fun _ => .inr rfl, rfl, hH, hn⟩
    · exact ⟨hd, by simp [resP], s'.H, fun _ => .inr rfl, rfl, hH, hn⟩
  · rcases hp with rfl | rfl <;> cases e
theorem EndsV.more {s s' : St} {r r' : ResultVar} {rs : List ResultVar} {ps : List PV} {px : PX} {H : HM} {n : Nat} (hp : px = .normal ∨ px = .ret) (hv : View N b s s') (hd : s'.df = []) (h : ResAll P s' (r :: r' :: rs) ps) (hH : s'.H = H) (hn : s'.nx = n) :
    EndsV P (r :: r' :: rs) N b (postX (.ret (.tuple ps)) H n) px s := by
  have := ResAll.spec _ _ h
  have e1 : (resP P (r :: r' :: rs) s').2 := by rw [resP_two]; exact this.2
  have e2 : (resP P (r :: r' :: rs) s').1 = .tuple ps := by rw [resP_two]; show PV.tuple _ = _; rw [this.1]
  refine ⟨s', hv, ?_, fun p e => ?_⟩
  · rcases hp with rfl | rfl
    · exact ⟨hd, e1, s'.H, fun _ => .inr rfl, congrArg Out.ret e2, hH, hn⟩
    · exact ⟨hd, e1, s'.H, fun _ => .inr rfl, congrArg Out.ret e2, hH, hn⟩
  · rcases hp with rfl | rfl <;> cases e
theorem EndsV.pan {rs : List ResultVar} {s s' : St} {x : D} {H : HM} {n : Nat} (hv : View N b s s') (hd : s'.df = []) (hH : s'.H = H) (hn : s'.nx = n) : EndsV P rs N b (postX (.pan (.d x)) H n) (.panic (.d x)) s :=
  ⟨s', hv, ⟨hd, s'.H, fun _ => .inr rfl, rfl, hH, hn⟩, fun p e => ⟨x, by cases e; rfl⟩⟩

theorem Spec.of_bodyV {f : Nat} {fn : Func} {c : Code} {args : List PV} {H : HM} {nx : Nat} {post : Out → HM → Nat → Prop} (hf : P.funcs[f]? = some fn) (hb : fn.body = some c) (hN : args.length ≤ fn.ntmps)
    (h : QW P fn.ntmps nx c ⟨initP args, H, nx, []⟩ (EndsV P fn.results.toList fn.ntmps nx post)) : Spec P f args H nx post := by
  refine Spec.of_bodyQ hf hb hN ⟨h.1, fun m ρ a w hI => wp_mono (h.2 m ρ a w hI) ?_⟩
  rintro e a' w' ⟨px, s, m', ρ', ⟨s', hv, he, hp⟩, hrx, hI', hA⟩
  obtain ⟨m2, ρ2, hI2, hA2⟩ := hv m' ρ' a' w' hI'
  refine ⟨px, s', m2, ρ2, he, ?_, hI2, hA.trans hA2⟩
  cases px with
  | normal => exact hrx
  | exit i => exact hrx
  | ret => exact hrx
  | panic p =>
    obtain ⟨v, rfl, hr⟩ := hrx
    obtain ⟨x, rfl⟩ := hp p rfl
    refine ⟨v, rfl, ?_⟩
    simp only [Rep] at hr ⊢
    exact hr.mono hA2.ext.mem

/-! ### Results, where what is left over is forgotten -/
mutual
def PV.idsLt (n : Nat) : PV → Bool
  | .d _ => true
  | .full _ => true
  | .own id _ => decide (id < n)
  | .vptr id _ => decide (id < n)
  | .clo _ l => PV.idsLts n l
  | .agg l => PV.idsLts n l
  | .tuple l => PV.idsLts n l
  | .cond _ p => PV.idsLt n p
  | .junk => true
def PV.idsLts (n : Nat) : List PV → Bool
  | [] => true
  | x :: r => PV.idsLt n x && PV.idsLts n r
end
theorem idsLts_d (n : Nat) : ∀ l : List D, PV.idsLts n (l.map .d) = true
  | [] => rfl
  | x :: r => by simp [PV.idsLts, PV.idsLt, idsLts_d n r]
mutual
theorem Rep.idsLt {m : Mem} {ρ ρ2 : Ren} {n : Nat} (h : ∀ i, i < n → ρ2 i = ρ i) : ∀ (p : PV) (v : Value), p.idsLt n = true → Rep m ρ p v → Rep m ρ2 p v
  | .d x, v, _, e => by simpa [Rep] using e
  | .full l, v, _, e => by simpa [Rep] using e
  | .own id l, v, b, e => by
    simp only [PV.idsLt, decide_eq_true_eq] at b
    simp only [Rep] at e ⊢
    rw [h id b]; exact e
  | .vptr id off, v, b, e => by
    simp only [PV.idsLt, decide_eq_true_eq] at b
    simp only [Rep] at e ⊢
    rw [h id b]; exact e
  | .clo g l, v, b, e => by
    simp only [PV.idsLt] at b
    simp only [Rep] at e ⊢
    obtain ⟨vs, e1, e2⟩ := e
    exact ⟨vs, e1, RepP.idsLt h l vs b e2⟩
  | .agg l, v, b, e => by
    simp only [PV.idsLt] at b
    simp only [Rep] at e ⊢
    obtain ⟨vs, e1, e2, e3⟩ := e
    exact ⟨vs, e1, RepP.idsLt h l vs b e2, e3⟩
  | .tuple l, v, b, e => by
    simp only [PV.idsLt] at b
    simp only [Rep] at e ⊢
    obtain ⟨vs, e1, e2⟩ := e
    exact ⟨vs, e1, RepP.idsLt h l vs b e2⟩
  | .cond g p, v, b, e => by
    simp only [PV.idsLt] at b
    simp only [Rep] at e ⊢
    exact ⟨fun hg => Rep.idsLt h p v b (e.1 hg), e.2⟩
  | .junk, v, _, e => by simp [Rep]
theorem RepP.idsLt {m : Mem} {ρ ρ2 : Ren} {n : Nat} (h : ∀ i, i < n → ρ2 i = ρ i) : ∀ (l : List PV) (vs : List Value), PV.idsLts n l = true → RepP m ρ l vs → RepP m ρ2 l vs
  | [], vs, _, e => by simpa [RepP] using e
  | x :: r, vs, b, e => by
    simp only [PV.idsLts, Bool.and_eq_true] at b
    simp only [RepP] at e ⊢
    obtain ⟨v, vr, e1, e2, e3⟩ := e
    exact ⟨v, vr, e1, Rep.idsLt h x v b.1 e2, RepP.idsLt h r vr b.2 e3⟩
end
def HO.idsLt (n : Nat) : HO → Bool
  | .var l => PV.idsLts n l
  | .spare _ _ => true
def HO.idsLts (n : Nat) : List HO → Bool
  | [] => true
  | x :: r => HO.idsLt n x && HO.idsLts n r
theorem HO.idsLts_at {n : Nat} : ∀ {M : List HO} {i : Nat} {o : HO}, HO.idsLts n M = true → tabH M i = some o → o.idsLt n = true
  | [], _, _, _, h => by simp [tabH] at h
  | x :: r, 0, o, hb, h => by
    simp only [HO.idsLts, Bool.and_eq_true] at hb
    simp only [tabH, Option.some.injEq] at h
    subst h; exact hb.1
  | x :: r, i + 1, o, hb, h => by
    simp only [HO.idsLts, Bool.and_eq_true] at hb
    exact HO.idsLts_at hb.2 h
theorem tabH_app : ∀ (M E : List HO) (i : Nat), i < M.length → tabH (M ++ E) i = tabH M i
  | [], _, _, h => by simp at h
  | x :: r, E, 0, _ => rfl
  | x :: r, E, i + 1, h => tabH_app r E i (by simpa using h)
/-- What a body must end in; M': the blocks that are told of, the first n. -/
def EndsS (P : Program) (rs : List ResultVar) (N b n : Nat) (M' : List HO) (out : Out) (px : PX) (s : St) : Prop :=
  ∃ s', View N b s s' ∧ s'.df = [] ∧ n ≤ s'.nx ∧ (∀ i, i < n → s'.H i = tabH M' i) ∧ M'.length = n ∧ HO.idsLts n M' = true ∧
  match px with
  | .normal | .ret => (resP P rs s').2 ∧ out = .ret (resP P rs s').1 ∧ (resP P rs s').1.idsLt n = true
  | .panic p => (∃ x, p = .d x) ∧ out = .pan p
  | .exit _ => False

theorem Spec.of_bodyS {f : Nat} {fn : Func} {c : Code} {args : List PV} {M M' : List HO} {nx n : Nat} {out : Out} (hf : P.funcs[f]? = some fn) (hb : fn.body = some c) (hN : args.length ≤ fn.ntmps) (hle : nx ≤ n)
    (h : QW P fn.ntmps nx c ⟨initP args, tabH M, nx, []⟩ (EndsS P fn.results.toList fn.ntmps nx n M' out)) : Spec P f args (tabH M) nx (postX out (tabH M') n) := by
  refine fun m ρ w vs V hn hρ hr => ?_
  refine calls_of_wp hf hb (wp_mono (h.2 m ρ _ w (initP_inv V hn hρ hr hN)) ?_)
  rintro e a w' ⟨px, s, m', ρ', ⟨s', hv, hdf, hnx, hH, hlen, hbel, hpost⟩, hrx, hI, hA0⟩
  obtain ⟨m2, ρ2, hI2, hA2⟩ := hv m' ρ' a w' hI
  have hA := (hA0.trans hA2).toAdv hρ
  have hd := hI2.defers
  rw [hdf] at hd
  let ρ3 : Ren := fun i => if i < n then ρ2 i else none
  have h3 : ∀ i, i < n → ρ3 i = ρ2 i := fun i hi => by show (if _ then _ else _) = _; rw [if_pos hi]
  have h3n : ∀ i, n ≤ i → ρ3 i = none := fun i hi => by show (if _ then _ else _) = _; rw [if_neg (by omega)]
  have hlt : ∀ i o, tabH M' i = some o → i < n := fun i o ho => hlen ▸ tabH_len M' i o ho
  have sub : ∀ i, tabH M' i ≠ none → i < n ∧ s'.H i ≠ none := by
    intro i hi
    cases hh : tabH M' i with
    | none => exact absurd hh hi
    | some o => have h1 := hlt i o hh; exact ⟨h1, by rw [hH i h1, hh]; simp⟩
  have V3 : ValidOn (fun _ => True) m2 ρ3 w' (tabH M') := by
    refine ⟨hI2.valid.mem, fun i o _ ho => ?_, fun i j b' c c' _ _ hi hj hri hrj => ?_⟩
    · have h1 := hlt i o ho
      have hE := hI2.valid.entry i o trivial (by rw [hH i h1, ho])
      have hbo := HO.idsLts_at hbel ho
      cases o with
      | var l =>
        simp only [EntryOK] at hE ⊢
        obtain ⟨b, c, vs, t, e1, e2, e3, e4⟩ := hE
        exact ⟨b, c, vs, t, by rw [h3 i h1]; exact e1, e2, RepP.idsLt h3 l vs hbo e3, e4⟩
      | spare sz k =>
        simp only [EntryOK] at hE ⊢
        rw [h3 i h1]; exact hE
    · have h1 := sub i hi
      have h2 := sub j hj
      rw [h3 i h1.1] at hri
      rw [h3 j h2.1] at hrj
      exact hI2.valid.apart i j b' c c' trivial trivial h1.2 h2.2 hri hrj
  have hn3 : ∀ i, n ≤ i → tabH M' i = none := by
    intro i hi
    cases hh : tabH M' i with
    | none => rfl
    | some o => have := hlt i o hh; omega
  have A3 : Adv nx m ρ w (tabH M) n m2 ρ3 w' (tabH M') := by
    refine ⟨hA.ext, fun i x hx => ?_, ?_, hle, fun i hi => ?_⟩
    · rcases Nat.lt_or_ge i nx with h1 | h1
      · rw [h3 i (by omega)]; exact hA.ren i x hx
      · rw [hρ i h1] at hx; cases hx
    · rintro b' ⟨i, c, _, hl, hri⟩
      have h1 := sub i hl
      rw [h3 i h1.1] at hri
      exact hA.place b' ⟨i, c, trivial, h1.2, hri⟩
    · rw [h3 i (by omega)]; exact hA.old i hi
  cases px with
  | exit i => exact hpost.elim
  | normal =>
    obtain ⟨hres, rfl, hbr⟩ := hpost
    obtain ⟨v, hv', hrep⟩ := run_results (P := P) hI2 hres
    simp only [RX] at hrx; subst hrx
    exact ⟨hd, v, hv', _, _, _, m2, ρ3, ⟨rfl, rfl, rfl⟩, V3, hn3, h3n, A3, v, rfl, Rep.idsLt h3 _ _ hbr hrep⟩
  | ret =>
    obtain ⟨hres, rfl, hbr⟩ := hpost
    obtain ⟨v, hv', hrep⟩ := run_results (P := P) hI2 hres
    simp only [RX] at hrx; subst hrx
    exact ⟨hd, v, hv', _, _, _, m2, ρ3, ⟨rfl, rfl, rfl⟩, V3, hn3, h3n, A3, v, rfl, Rep.idsLt h3 _ _ hbr hrep⟩
  | panic p =>
    obtain ⟨v, rfl, hrp⟩ := hrx
    obtain ⟨⟨x, rfl⟩, rfl⟩ := hpost
    refine ⟨hd, _, _, _, m2, ρ3, ⟨rfl, rfl, rfl⟩, V3, hn3, h3n, A3, v, rfl, ?_⟩
    simp only [Rep] at hrp ⊢
    exact hrp.mono hA2.ext.mem
theorem EndsS.pan {rs : List ResultVar} {s s' : St} {x : D} {n : Nat} {M' : List HO} (hv : View N b s s') (hd : s'.df = []) (hn : n ≤ s'.nx) (hH : ∀ i, i < n → s'.H i = tabH M' i) (hl : M'.length = n) (hb : HO.idsLts n M' = true) :
    EndsS P rs N b n M' (.pan (.d x)) (.panic (.d x)) s := ⟨s', hv, hd, hn, hH, hl, hb, ⟨x, rfl⟩, rfl⟩
theorem EndsS.none {s s' : St} {px : PX} {n : Nat} {M' : List HO} (hp : px = .normal ∨ px = .ret) (hv : View N b s s') (hd : s'.df = []) (hn : n ≤ s'.nx) (hH : ∀ i, i < n → s'.H i = tabH M' i) (hl : M'.length = n) (hb : HO.idsLts n M' = true) :
    EndsS P [] N b n M' (.ret (.tuple [])) px s := by
  refine ⟨s', hv, hd, hn, hH, hl, hb, ?_⟩
  rcases hp with rfl | rfl <;> exact ⟨by simp [resP], rfl, rfl⟩
theorem EndsS.one {s s' : St} {r : ResultVar} {p : PV} {px : PX} {n : Nat} {M' : List HO} (hp : px = .normal ∨ px = .ret) (hv : View N b s s') (hd : s'.df = []) (hn : n ≤ s'.nx) (hH : ∀ i, i < n → s'.H i = tabH M' i) (hl : M'.length = n) (hb : HO.idsLts n M' = true)
    (h : ResIs P s' r p) (hbp : p.idsLt n = true) : EndsS P [r] N b n M' (.ret p) px s := by
  refine ⟨s', hv, hd, hn, hH, hl, hb, ?_⟩
  obtain ⟨h1, h2⟩ := h
  rcases hp with rfl | rfl <;> exact ⟨h1, congrArg Out.ret h2.symm, by show (resP1 P s' r).1.idsLt n = true; rw [h2]; exact hbp⟩
theorem EndsS.more {s s' : St} {r r' : ResultVar} {rs : List ResultVar} {ps : List PV} {px : PX} {n : Nat} {M' : List HO} (hp : px = .normal ∨ px = .ret) (hv : View N b s s') (hd : s'.df = []) (hn : n ≤ s'.nx) (hH : ∀ i, i < n → s'.H i = tabH M' i) (hl : M'.length = n) (hb : HO.idsLts n M' = true)
    (h : ResAll P s' (r :: r' :: rs) ps) (hbp : PV.idsLts n ps = true) : EndsS P (r :: r' :: rs) N b n M' (.ret (.tuple ps)) px s := by
  refine ⟨s', hv, hd, hn, hH, hl, hb, ?_⟩
  have := ResAll.spec _ _ h
  have e1 : (resP P (r :: r' :: rs) s').2 := by rw [resP_two]; exact this.2
  have e2 : (resP P (r :: r' :: rs) s').1 = .tuple ps := by rw [resP_two]; show PV.tuple _ = _; rw [this.1]
  rcases hp with rfl | rfl <;> exact ⟨e1, congrArg Out.ret e2.symm, by rw [e2]; exact hbp⟩
end Go.Proofs.Ytonlehebfeilmaa.K
