/- A region's law, drawn or not. -/
import Derived.Test.YtonlehebfeilmaaK4
namespace Go.Proofs.Ytonlehebfeilmaa.K
open Go Go.RowKit

section
variable {P : Program} {ops : Array Oper} {N : Nat} {M : List Nat} {L : List Rec} {s0 : St} {m0 : Mem} {ρ0 : Ren} {w0 : World}
variable (st : Nat → St) (rc : Nat → Rec)

def wrS (ops : Array Oper) (t k : Nat) : Bool := (ops.getD k default).dst == some t
def wrH (rc : Nat → Rec) (x k : Nat) : Bool := decide (x ∈ (rc k).W ∨ ((rc k).lo ≤ x ∧ x < (rc k).hi))

structure JD (ops : Array Oper) (N : Nat) (s0 : St) (m0 : Mem) (ρ0 : Ren) (w0 : World) (D : Nat → Bool) (m : Mem) (ρ : Ren) (a : Act) (w : World) : Prop where
  size : a.tmps.size = N
  defers : DfOK m ρ s0.df a.defers
  slots : ∀ t, Rep m ρ (pick D (wrS ops t) (fun k => (st k).S t) ops.size) (a.tmps.getD t undef)
  valid : ValidOn (fun _ => True) m ρ w (fun x => pick D (wrH rc x) (fun k => (st k).H x) ops.size)
  rho : ∀ i, ρ i ≠ none → i < s0.nx ∨ ∃ k, k < ops.size ∧ D k = true ∧ (rc k).lo ≤ i ∧ i < (rc k).hi
  adv : Adv s0.nx m0 ρ0 w0 s0.H s0.nx m ρ w (fun x => pick D (wrH rc x) (fun k => (st k).H x) ops.size)
  closed : ∀ k o, D k = true → ops[k]? = some o → ∀ e ∈ o.after, Region.binds .any e = true → D e.on = true

theorem JD.anc {D : Nat → Bool} {m : Mem} {ρ : Ren} {a : Act} {w : World} (h : JD st rc ops N s0 m0 ρ0 w0 D m ρ a w) {i k : Nat} (hik : Anc ops i k) (hk : D k = true) : D i = true := by
  induction hik with
  | edge ho he hb => exact h.closed _ _ hk ho _ he hb
  | trans _ _ ih1 ih2 => exact ih1 (ih2 hk)

theorem anc_ready {D : Nat → Bool} (cl : ∀ k o, D k = true → ops[k]? = some o → ∀ e ∈ o.after, Region.binds .any e = true → D e.on = true) {i k : Nat} (hik : Anc ops i k)
    (hk : D k = true ∨ ∀ o, ops[k]? = some o → ∀ e ∈ o.after, Region.binds .any e = true → D e.on = true) : D i = true := by
  induction hik with
  | edge ho he hb => exact hk.elim (fun h => cl _ _ h ho _ he hb) (fun h => h _ ho _ he hb)
  | trans _ _ ih1 ih2 => exact ih1 (.inl (ih2 hk))

/-- What the trace says, step by step. -/
structure Tr (P : Program) (ops : Array Oper) (L : List Rec) (s0 : St) : Prop where
  zero : st 0 = s0
  step : ∀ k o, ops[k]? = some o → L[k]? = some (rc k) ∧ ∃ v H', StepOp P ops o (st k) v H' (rc k) ∧ st (k + 1) = ⟨putS (st k).S o.dst v, H', (rc k).hi, (st k).df⟩
  hnil : ∀ i, s0.nx ≤ i → s0.H i = none

variable {st rc}

theorem Tr.nilk (h : Tr st rc P ops L s0) : ∀ k, k ≤ ops.size → ∀ i, (st k).nx ≤ i → (st k).H i = none := by
  intro k
  induction k with
  | zero => intro _ i hi; rw [h.zero] at hi ⊢; exact h.hnil i hi
  | succ k ih =>
    intro hk i hi
    obtain ⟨_, v, H', h1, h2⟩ := h.step k ops[k] (Array.getElem?_eq_getElem (by omega))
    rw [h2] at hi ⊢
    exact h1.facts.2.2.2.1 (ih (by omega)) i hi

theorem Tr.lohi (h : Tr st rc P ops L s0) {k : Nat} (hk : k < ops.size) : (rc k).lo = (st k).nx ∧ (rc k).hi = (st (k + 1)).nx ∧ (rc k).lo ≤ (rc k).hi := by
  obtain ⟨_, v, H', h1, h2⟩ := h.step k ops[k] (Array.getElem?_eq_getElem hk)
  refine ⟨h1.facts.1, by rw [h2], h1.facts.2.1⟩

theorem Tr.mono (h : Tr st rc P ops L s0) {i j : Nat} (hij : i ≤ j) (hj : j ≤ ops.size) : (st i).nx ≤ (st j).nx := by
  induction j with
  | zero => have : i = 0 := by omega
            subst this; exact Nat.le_refl _
  | succ j ih =>
    by_cases e : i = j + 1
    · subst e; exact Nat.le_refl _
    · have h1 := ih (by omega) (by omega)
      have h2 := h.lohi (k := j) (by omega)
      omega

theorem Tr.keepS (h : Tr st rc P ops L s0) (t k : Nat) (hk : k < ops.size) (hw : wrS ops t k = false) : (st (k + 1)).S t = (st k).S t := by
  obtain ⟨_, v, H', h1, h2⟩ := h.step k ops[k] (Array.getElem?_eq_getElem hk)
  rw [h2]
  have : (ops.getD k default) = ops[k] := by simp [Array.getD_eq_getD_getElem?, hk]
  simp only [wrS, this] at hw
  show putS (st k).S ops[k].dst v t = _
  cases hd : ops[k].dst with
  | none => rfl
  | some d =>
    rw [hd] at hw
    simp only [putS]
    rw [if_neg]
    intro e
    subst e
    simp at hw

theorem Tr.keepH (h : Tr st rc P ops L s0) (x k : Nat) (hk : k < ops.size) (hw : wrH rc x k = false) : (st (k + 1)).H x = (st k).H x := by
  obtain ⟨_, v, H', h1, h2⟩ := h.step k ops[k] (Array.getElem?_eq_getElem hk)
  obtain ⟨f1, f2, f3, f4, f5, f6⟩ := h1.facts
  simp only [wrH, decide_eq_false_iff_not, not_or, not_and, Nat.not_lt] at hw
  rw [h2]
  show H' x = _
  by_cases hlt : x < (st k).nx
  · exact f3 x hw.1 hlt
  · have h3 : (rc k).hi ≤ x := hw.2 (by omega)
    rw [f4 (h.nilk k (by omega)) x h3, h.nilk k (by omega) x (by omega)]

/-- What is known of the places that an operation looks at, when it comes up. -/
theorem Tr.slot_at (h : Tr st rc P ops L s0) (hgood : ∀ j i, (M.getD j 0).testBit i = true → Anc ops i j) (hs : slotsOrdered ops M = true) {D : Nat → Bool}
    (cl : ∀ k o, D k = true → ops[k]? = some o → ∀ e ∈ o.after, Region.binds .any e = true → D e.on = true) {i : Nat} {o : Oper} (ho : ops[i]? = some o) (hD : D i = false)
    (hr : ∀ e ∈ o.after, Region.binds .any e = true → D e.on = true) {t : Nat} (ht : t ∈ o.looksAt ops) : pick D (wrS ops t) (fun k => (st k).S t) ops.size = (st i).S t := by
  have hi : i < ops.size := (Array.getElem?_eq_some_iff.1 ho).1
  refine pick_at (fun k hk hw => h.keepS t k hk hw) (by omega) (fun j hj hw => ?_) (fun j hij hj hDj => ?_)
  · have hj' : j < ops.size := by omega
    have hoj : ops[j]? = some ops[j] := Array.getElem?_eq_getElem hj'
    have hc : slotClash ops ops[j] o = true := by
      have : (ops.getD j default) = ops[j] := by simp [Array.getD_eq_getD_getElem?, hj']
      simp only [wrS, this, beq_iff_eq] at hw
      simp [slotClash, hw, ht]
    have := hgood _ _ (slotsOrdered_spec hs hj hoj ho hc)
    exact anc_ready cl this (.inr fun o' ho' => by rw [ho] at ho'; cases ho'; exact hr)
  · cases hw : wrS ops t j with
    | false => rfl
    | true =>
      exfalso
      by_cases e : j = i
      · subst e; rw [hD] at hDj; cases hDj
      · have hoj : ops[j]? = some ops[j] := Array.getElem?_eq_getElem hj
        have hc : slotClash ops o ops[j] = true := by
          have : (ops.getD j default) = ops[j] := by simp [Array.getD_eq_getD_getElem?, hj]
          simp only [wrS, this, beq_iff_eq] at hw
          simp [slotClash, hw, ht]
        have := hgood _ _ (slotsOrdered_spec hs (by omega) ho hoj hc)
        have := anc_ready cl this (.inl hDj)
        rw [hD] at this; cases this

theorem Tr.slot_after (_h : Tr st rc P ops L s0) (hgood : ∀ j i, (M.getD j 0).testBit i = true → Anc ops i j) (hs : slotsOrdered ops M = true) {D : Nat → Bool}
    (cl : ∀ k o, D k = true → ops[k]? = some o → ∀ e ∈ o.after, Region.binds .any e = true → D e.on = true) {i : Nat} {o : Oper} (ho : ops[i]? = some o) (hD : D i = false)
    (t : Nat) : pick (setD D i) (wrS ops t) (fun k => (st k).S t) ops.size = if o.dst = some t then (st (i + 1)).S t else pick D (wrS ops t) (fun k => (st k).S t) ops.size := by
  have hi : i < ops.size := (Array.getElem?_eq_some_iff.1 ho).1
  have eo : (ops.getD i default) = o := by simp [Array.getD_eq_getD_getElem?, ho]
  by_cases e : o.dst = some t
  · rw [if_pos e]
    refine pick_set (by simp [wrS, eo, e]) hi (fun j hij hj hDj => ?_)
    cases hw : wrS ops t j with
    | false => rfl
    | true =>
      exfalso
      have hoj : ops[j]? = some ops[j] := Array.getElem?_eq_getElem hj
      have hc : slotClash ops o ops[j] = true := by
        have : (ops.getD j default) = ops[j] := by simp [Array.getD_eq_getD_getElem?, hj]
        simp only [wrS, this, beq_iff_eq] at hw
        simp [slotClash, hw, e]
      have := hgood _ _ (slotsOrdered_spec hs hij ho hoj hc)
      have := anc_ready cl this (.inl hDj)
      rw [hD] at this; cases this
  · rw [if_neg e]
    exact pick_set_other (by simp [wrS, eo, e]) _

theorem Tr.rec_at (h : Tr st rc P ops L s0) {i : Nat} {o : Oper} (ho : ops[i]? = some o) : L[i]? = some (rc i) := (h.step i o ho).1

theorem Tr.held_at (h : Tr st rc P ops L s0) (hgood : ∀ j i, (M.getD j 0).testBit i = true → Anc ops i j) (hL : RecsOK M L) {D : Nat → Bool}
    (cl : ∀ k o, D k = true → ops[k]? = some o → ∀ e ∈ o.after, Region.binds .any e = true → D e.on = true) {i : Nat} {o : Oper} (ho : ops[i]? = some o) (hD : D i = false)
    (hr : ∀ e ∈ o.after, Region.binds .any e = true → D e.on = true) {x : Nat} (hx : x ∈ (rc i).T) : pick D (wrH rc x) (fun k => (st k).H x) ops.size = (st i).H x := by
  have hi : i < ops.size := (Array.getElem?_eq_some_iff.1 ho).1
  refine pick_at (fun k hk hw => h.keepH x k hk hw) (by omega) (fun j hj hw => ?_) (fun j hij hj hDj => ?_)
  · have hoj : ops[j]? = some ops[j] := Array.getElem?_eq_getElem (by omega)
    simp only [wrH, decide_eq_true_eq] at hw
    have := hgood _ _ (hL j i _ _ hj (h.rec_at hoj) (h.rec_at ho) (.inl ⟨x, hx, hw⟩))
    exact anc_ready cl this (.inr fun o' ho' => by rw [ho] at ho'; cases ho'; exact hr)
  · cases hw : wrH rc x j with
    | false => rfl
    | true =>
      exfalso
      by_cases e : j = i
      · subst e; rw [hD] at hDj; cases hDj
      · have hoj : ops[j]? = some ops[j] := Array.getElem?_eq_getElem hj
        simp only [wrH, decide_eq_true_eq] at hw
        have hxlt : x < (st i).nx := by
          obtain ⟨_, v, H', h1, _⟩ := h.step i o ho
          exact h1.facts.2.2.2.2.2 x hx
        have hm := h.mono (i := i) (j := j) (by omega) (by omega)
        have hlo := (h.lohi hj).1
        have hw' : x ∈ (rc j).W := hw.elim id (fun h => by omega)
        have := hgood _ _ (hL i j _ _ (by omega) (h.rec_at ho) (h.rec_at hoj) (.inr ⟨x, hx, hw'⟩))
        have := anc_ready cl this (.inl hDj)
        rw [hD] at this; cases this

theorem Tr.held_after (h : Tr st rc P ops L s0) (hgood : ∀ j i, (M.getD j 0).testBit i = true → Anc ops i j) (hL : RecsOK M L) {D : Nat → Bool}
    (cl : ∀ k o, D k = true → ops[k]? = some o → ∀ e ∈ o.after, Region.binds .any e = true → D e.on = true) {i : Nat} {o : Oper} (ho : ops[i]? = some o) (hD : D i = false)
    (x : Nat) : pick (setD D i) (wrH rc x) (fun k => (st k).H x) ops.size = if wrH rc x i = true then (st (i + 1)).H x else pick D (wrH rc x) (fun k => (st k).H x) ops.size := by
  have hi : i < ops.size := (Array.getElem?_eq_some_iff.1 ho).1
  cases e : wrH rc x i with
  | true =>
    simp only [if_true]
    refine pick_set e hi (fun j hij hj hDj => ?_)
    cases hw : wrH rc x j with
    | false => rfl
    | true =>
      exfalso
      have hoj : ops[j]? = some ops[j] := Array.getElem?_eq_getElem hj
      obtain ⟨_, v, H', h1, _⟩ := h.step i o ho
      obtain ⟨_, v2, H2, h2, _⟩ := h.step j _ hoj
      have hm := h.mono (i := i + 1) (j := j) (by omega) (by omega)
      have hlo := (h.lohi hj).1
      have hhi := (h.lohi hi).2.1
      have hle := (h.lohi hi).2.2
      have hlo' := (h.lohi hi).1
      simp only [wrH, decide_eq_true_eq] at hw e
      have hxlt : x < (rc i).hi := by
        rcases e with e | e
        · have := h1.facts.2.2.2.2.2 x (h1.facts.2.2.2.2.1 x e)
          omega
        · exact e.2
      have hw' : x ∈ (rc j).W := hw.elim id (fun h => by omega)
      have := hgood _ _ (hL i j _ _ hij (h.rec_at ho) (h.rec_at hoj) (.inl ⟨x, h2.facts.2.2.2.2.1 x hw', e⟩))
      have := anc_ready cl this (.inl hDj)
      rw [hD] at this; cases this
  | false =>
    simp only [Bool.false_eq_true, if_false]
    exact pick_set_other e _
end

theorem order_step {P : Program} {ops : Array Oper} {N : Nat} {M : List Nat} {L : List Rec} {s0 : St} {m0 : Mem} {ρ0 : Ren} {w0 : World} {st : Nat → St} {rc : Nat → Rec}
    (h : Tr st rc P ops L s0) (hops : ∀ (k : Nat) (o : Oper) (d : Nat), ops[k]? = some o → o.dst = some d → d < N)
    (hgood : ∀ j i, (M.getD j 0).testBit i = true → Anc ops i j) (hs : slotsOrdered ops M = true) (hL : RecsOK M L) {D : Nat → Bool} {m : Mem} {ρ : Ren} {a : Act} {w : World}
    (J : JD st rc ops N s0 m0 ρ0 w0 D m ρ a w) {i : Nat} {o : Oper} (ho : ops[i]? = some o) (hD : D i = false) (hr : ∀ e ∈ o.after, Region.binds .any e = true → D e.on = true)
    {K : Act → World → Prop} {Q : Exit → Act → World → Prop} (hK : ∀ a' w' m' ρ', JD st rc ops N s0 m0 ρ0 w0 (setD D i) m' ρ' a' w' → K a' w') : wpOp P ops Q i K a w := by
  have hi : i < ops.size := (Array.getElem?_eq_some_iff.1 ho).1
  obtain ⟨hLi, v, H', hst, hnext⟩ := h.step i o ho
  obtain ⟨f1, f2, f3, f4, f5, f6⟩ := hst.facts
  have cl := J.closed
  have hT : ∀ x, x ∈ (rc i).T → pick D (wrH rc x) (fun k => (st k).H x) ops.size = (st i).H x := fun x hx => h.held_at hgood hL cl ho hD hr hx
  have hfresh : ∀ x, (rc i).lo ≤ x → x < (rc i).hi → ρ x = none := by
    intro x h1 h2
    cases e : ρ x with
    | none => rfl
    | some y =>
      exfalso
      have hlohi := h.lohi hi
      rcases J.rho x (by rw [e]; simp) with h3 | ⟨k, hk, hDk, h4, h5⟩
      · have := h.mono (i := 0) (j := i) (by omega) (by omega)
        rw [h.zero] at this
        omega
      · have hk' := h.lohi hk
        rcases Nat.lt_trichotomy k i with hlt | heq | hgt
        · have := h.mono (i := k + 1) (j := i) (by omega) (by omega); omega
        · subst heq; rw [hD] at hDk; cases hDk
        · have := h.mono (i := i + 1) (j := k) (by omega) (by omega); omega
  have V : ValidOn (· ∈ (rc i).T) m ρ w (st i).H := by
    refine ⟨J.valid.mem, fun x ob hx hH => J.valid.entry x ob trivial ?_, fun x y b c c' hx hy hHx hHy => J.valid.apart x y b c c' trivial trivial ?_ ?_⟩
    · show pick D (wrH rc x) (fun k => (st k).H x) ops.size = _
      rw [hT x hx, hH]
    · show pick D (wrH rc x) (fun k => (st k).H x) ops.size ≠ _
      rw [hT x hx]; exact hHx
    · show pick D (wrH rc y) (fun k => (st k).H y) ops.size ≠ _
      rw [hT y hy]; exact hHy
  refine op_local hops ho hst J.size (fun t ht => ?_) V hfresh ?_
  · have := h.slot_at hgood hs cl ho hD hr ht
    rw [← this]; exact J.slots t
  intro u m' ρ' w' hDone hu
  have hd : ∀ d, o.dst = some d → d < N := fun d hd => hops i o d ho hd
  have g1 : ∀ x, ((fun j => j ∈ (rc i).T) x ∨ ((rc i).lo ≤ x ∧ x < (rc i).hi)) → (fun x => pick (setD D i) (wrH rc x) (fun k => (st k).H x) ops.size) x = H' x := by
    intro x hx
    show pick (setD D i) (wrH rc x) (fun k => (st k).H x) ops.size = H' x
    rw [h.held_after hgood hL cl ho hD x]
    split
    · rw [hnext]
    · rename_i hw
      simp only [Bool.not_eq_true, wrH, decide_eq_false_iff_not, not_or, not_and, Nat.not_lt] at hw
      have hx' : x ∈ (rc i).T := hx.elim id (fun h => by have := hw.2 h.1; omega)
      rw [hT x hx']
      exact (f3 x hw.1 (f6 x hx')).symm
  have g2 : ∀ x, ¬ ((fun j => j ∈ (rc i).T) x ∨ ((rc i).lo ≤ x ∧ x < (rc i).hi)) → (fun x => pick (setD D i) (wrH rc x) (fun k => (st k).H x) ops.size) x = (fun x => pick D (wrH rc x) (fun k => (st k).H x) ops.size) x := by
    intro x hx
    show pick (setD D i) (wrH rc x) (fun k => (st k).H x) ops.size = pick D (wrH rc x) (fun k => (st k).H x) ops.size
    rw [h.held_after hgood hL cl ho hD x, if_neg]
    simp only [Bool.not_eq_true, wrH, decide_eq_false_iff_not]
    exact fun h => hx (h.imp (f5 x) id)
  obtain ⟨V', A⟩ := combine J.valid hDone (fun x hx => (hT x hx).symm) g1 g2 f2
  have hlo : s0.nx ≤ (rc i).lo := by
    have := h.mono (i := 0) (j := i) (by omega) (by omega)
    rw [h.zero] at this
    omega
  refine hK _ _ m' ρ' ⟨?_, ?_, ?_, V', ?_, J.adv.trans ⟨A.ext, A.ren, A.place, Nat.le_refl _, fun x hx => A.old x (Nat.lt_of_lt_of_le hx hlo)⟩, ?_⟩
  · cases o.dst <;> simp [Act.put, J.size]
  · have := J.defers.mono A.ext.mem A.ren
    cases o.dst <;> simpa [Act.put] using this
  · intro t
    rw [h.slot_after hgood hs cl ho hD t]
    split
    · rename_i hdst
      rw [hnext]
      show Rep m' ρ' (putS (st i).S o.dst v t) _
      have hlt : t < a.tmps.size := by rw [J.size]; exact hd t hdst
      simp only [hdst, putS, Act.put, if_true]
      rw [Array.getD_eq_getD_getElem?, Array.getElem?_setIfInBounds_self_of_lt hlt]
      exact hu
    · rename_i hdst
      have : (a.put o.dst u).tmps.getD t undef = a.tmps.getD t undef := by
        cases hdd : o.dst with
        | none => rfl
        | some d =>
          have hne : d ≠ t := fun e => hdst (by rw [hdd, e])
          simp only [Act.put]
          rw [Array.getD_eq_getD_getElem?, Array.getD_eq_getD_getElem?, Array.getElem?_setIfInBounds_ne hne]
      rw [this]
      exact (J.slots t).mono A.ext.mem A.ren
  · intro x hx
    rcases hDone.fresh x with e | e
    · rw [e] at hx
      rcases J.rho x hx with h3 | ⟨k, hk, hDk, h4⟩
      · exact .inl h3
      · refine .inr ⟨k, hk, ?_, h4⟩
        simp only [setD]
        split
        · rfl
        · exact hDk
    · exact .inr ⟨i, hi, by simp [setD], e⟩
  · intro k ok hk hok e he hb
    simp only [setD] at hk ⊢
    split
    · rfl
    · by_cases e' : k = i
      · subst e'
        rw [ho] at hok; cases hok
        exact hr e he hb
      · rw [if_neg e'] at hk
        exact J.closed k ok hk hok e he hb

theorem order_sound {P : Program} {ops : Array Oper} {N : Nat} {M : List Nat} {L : List Rec} {s0 s' : St} {m0 : Mem} {ρ0 : Ren} {w0 : World} {a0 : Act}
    (hops : dstsIn ops N = true) (hback : backward ops = true) (hM : M = masks ops.toList []) (hs : slotsOrdered ops M = true) (hruns : Runs P ops ops.toList s0 s' L) (hL : RecsOK M L)
    (hI : Inv N s0 m0 ρ0 a0 w0) {Q : Exit → Act → World → Prop} (hQ : ∀ a' w' m' ρ', Inv N s' m' ρ' a' w' → Adv s0.nx m0 ρ0 w0 s0.H s'.nx m' ρ' w' s'.H → Q .normal a' w') :
    wpAny P .any ops Q ops.size (Array.replicate ops.size false) a0 w0 := by
  obtain ⟨st, rc, e0, e1, e2⟩ := hruns.trace
  have h : Tr st rc P ops L s0 := ⟨e0, fun k o ho => e2 k o (by simpa using ho), hI.hnil⟩
  have e1' : st ops.size = s' := by simpa using e1
  have hdf : ∀ k, k ≤ ops.size → (st k).df = s0.df := by
    intro k
    induction k with
    | zero => intro _; rw [e0]
    | succ k ih =>
      intro hk
      obtain ⟨_, v, H', _, h2⟩ := h.step k ops[k] (Array.getElem?_eq_getElem (by omega))
      rw [h2]
      exact ih (by omega)
  have hgood : ∀ j i, (M.getD j 0).testBit i = true → Anc ops i j := by
    subst hM
    exact masks_good ops.toList [] (by simp) (by simp)
  have main : ∀ (fuel : Nat) (listed : Array Bool) (a : Act) (w : World) (m : Mem) (ρ : Ren), listed.size = ops.size → cnt (fun k => listed.getD k false) ops.size ≤ fuel →
      JD st rc ops N s0 m0 ρ0 w0 (fun k => listed.getD k false) m ρ a w → wpAny P .any ops Q fuel listed a w := by
    intro fuel
    induction fuel with
    | zero =>
      intro listed a w m ρ hsz hc J
      have hall := cnt_zero ops.size (Nat.le_zero.1 hc)
      refine ⟨?_, ?_⟩
      · unfold Region.ready
        rw [List.filter_eq_nil_iff]
        intro k hk
        have hk' := List.mem_range.1 hk
        have h1 := hall k hk'
        simp only [Array.getD_eq_getD_getElem?] at h1 ⊢
        rw [Array.getElem?_eq_getElem (by omega)] at h1 ⊢
        simp only [Option.getD_some] at h1 ⊢
        simp [h1]
      · refine hQ a w m ρ ?_ ?_
        · have hS : ∀ t, pick (fun k => listed.getD k false) (wrS ops t) (fun k => (st k).S t) ops.size = s'.S t := by
            intro t
            have := pick_at (D := fun k => listed.getD k false) (wr := wrS ops t) (val := fun k => (st k).S t) (n := ops.size) (i := ops.size) (fun k hk hw => h.keepS t k hk hw) (Nat.le_refl _) (fun j hj _ => hall j hj) (fun j h1 h2 => by omega)
            rw [this, e1']
          have hH : (fun x => pick (fun k => listed.getD k false) (wrH rc x) (fun k => (st k).H x) ops.size) = s'.H := by
            funext x
            have := pick_at (D := fun k => listed.getD k false) (wr := wrH rc x) (val := fun k => (st k).H x) (n := ops.size) (i := ops.size) (fun k hk hw => h.keepH x k hk hw) (Nat.le_refl _) (fun j hj _ => hall j hj) (fun j h1 h2 => by omega)
            rw [this, e1']
          refine ⟨J.size, by rw [← e1', hdf ops.size (Nat.le_refl _)]; exact J.defers, fun t => by rw [← hS t]; exact J.slots t, by rw [← hH]; exact J.valid, ?_, ?_⟩
          · intro i hi
            have := h.nilk ops.size (Nat.le_refl _) i (by rw [e1']; exact hi)
            rw [e1'] at this; exact this
          · intro i hi
            cases e : ρ i with
            | none => rfl
            | some y =>
              exfalso
              have hlast := h.mono (i := 0) (j := ops.size) (by omega) (Nat.le_refl _)
              rw [h.zero, e1'] at hlast
              rcases J.rho i (by rw [e]; simp) with h3 | ⟨k, hk, _, h4, h5⟩
              · omega
              · have h6 := h.mono (i := k + 1) (j := ops.size) (by omega) (Nat.le_refl _)
                have h7 := h.lohi hk
                rw [e1'] at h6
                omega
        · have hH : (fun x => pick (fun k => listed.getD k false) (wrH rc x) (fun k => (st k).H x) ops.size) = s'.H := by
            funext x
            have := pick_at (D := fun k => listed.getD k false) (wr := wrH rc x) (val := fun k => (st k).H x) (n := ops.size) (i := ops.size) (fun k hk hw => h.keepH x k hk hw) (Nat.le_refl _) (fun j hj _ => hall j hj) (fun j h1 h2 => by omega)
            rw [this, e1']
          have hlast := h.mono (i := 0) (j := ops.size) (by omega) (Nat.le_refl _)
          rw [h.zero, e1'] at hlast
          rw [← hH]
          exact ⟨J.adv.ext, J.adv.ren, J.adv.place, hlast, J.adv.old⟩
    | succ fuel ih =>
      intro listed a w m ρ hsz hc J
      refine ⟨?_, ?_⟩
      · intro hnone
        have hall : ∀ k, k < ops.size → listed.getD k false = true := by
          intro k
          induction k using Nat.strongRecOn with
          | _ k ihk =>
            intro hk
            cases e : listed.getD k false with
            | true => rfl
            | false =>
              exfalso
              have : k ∈ Region.ready .any ops listed := by
                rw [mem_ready]
                refine ⟨?_, ops[k], Array.getElem?_eq_getElem hk, fun e he hb => ?_⟩
                · simp only [Array.getD_eq_getD_getElem?] at e ⊢
                  rw [Array.getElem?_eq_getElem (by omega)] at e ⊢
                  simpa using e
                · have hlt := backward_spec hback (Array.getElem?_eq_getElem hk) he hb
                  exact ihk e.on hlt (by omega)
              rw [hnone] at this
              cases this
        have := ih listed a w m ρ hsz (by
          have : cnt (fun k => listed.getD k false) ops.size = 0 := by
            have : ∀ n, n ≤ ops.size → cnt (fun k => listed.getD k false) n = 0 := by
              intro n
              induction n with
              | zero => intro _; rfl
              | succ n ihn => intro hn; simp only [cnt]; rw [ihn (by omega), if_pos (hall n (by omega))]
            exact this _ (Nat.le_refl _)
          omega) J
        cases fuel with
        | zero => exact this.2
        | succ f => exact this.1 hnone
      · intro i hi
        rw [mem_ready] at hi
        obtain ⟨hli, o, ho, hr⟩ := hi
        have hlt : i < ops.size := (Array.getElem?_eq_some_iff.1 ho).1
        have hD : listed.getD i false = false := by
          simp only [Array.getD_eq_getD_getElem?] at hli ⊢
          rw [Array.getElem?_eq_getElem (by omega)] at hli ⊢
          simpa using hli
        refine order_step h (dstsIn_spec hops) hgood hs hL J ho hD hr ?_
        intro a' w' m' ρ' J'
        have hset : (fun k => (listed.setIfInBounds i true).getD k false) = setD (fun k => listed.getD k false) i := by
          funext k
          simp only [setD]
          by_cases e : k = i
          · subst e
            rw [if_pos rfl, Array.getD_eq_getD_getElem?, Array.getElem?_setIfInBounds_self_of_lt (by omega)]
            rfl
          · rw [if_neg e, Array.getD_eq_getD_getElem?, Array.getD_eq_getD_getElem?, Array.getElem?_setIfInBounds_ne (fun h => e h.symm)]
        refine ih _ a' w' m' ρ' (by simpa using hsz) ?_ ?_
        · have := cnt_set (D := fun k => listed.getD k false) (i := i) hD ops.size
          rw [if_pos hlt] at this
          rw [hset]
          omega
        · rw [hset]; exact J'
  refine main ops.size _ a0 w0 m0 ρ0 (by simp) ?_ ?_
  · have : ∀ (D : Nat → Bool) n, cnt D n ≤ n := by
      intro D n
      induction n with
      | zero => exact Nat.le_refl _
      | succ n ih => simp only [cnt]; split <;> omega
    exact this _ _
  · have hno : ∀ k, (Array.replicate ops.size false).getD k false = false := by
      intro k
      rw [Array.getD_eq_getD_getElem?, Array.getElem?_replicate]
      split <;> rfl
    have hp : ∀ {β : Type} (wr : Nat → Bool) (val : Nat → β), pick (fun k => (Array.replicate ops.size false).getD k false) wr val ops.size = val 0 := by
      intro β wr val
      have : ∀ n, pick (fun k => (Array.replicate ops.size false).getD k false) wr val n = val 0 := by
        intro n
        induction n with
        | zero => rfl
        | succ n ih =>
          show (if (Array.replicate ops.size false).getD n false && wr n then val (n + 1) else pick (fun k => (Array.replicate ops.size false).getD k false) wr val n) = val 0
          rw [hno n, Bool.false_and]
          exact ih
      exact this _
    have hH : (fun x => pick (fun k => (Array.replicate ops.size false).getD k false) (wrH rc x) (fun k => (st k).H x) ops.size) = s0.H := by
      funext x; rw [hp, h.zero]
    refine ⟨hI.size, hI.defers, fun t => by rw [hp, h.zero]; exact hI.slots t, by rw [hH]; exact hI.valid, fun i hi => .inl ?_, by rw [hH]; exact Adv.refl _ _ _ _ _, fun k o hk => ?_⟩
    · rcases Nat.lt_or_ge i s0.nx with h | h
      · exact h
      · exact absurd (hI.rnil i h) hi
    · rw [hno] at hk; cases hk
end Go.Proofs.Ytonlehebfeilmaa.K
