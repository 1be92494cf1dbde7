/- A region whose order is drawn: what its operations come to does not hang on the order, if those that touch one slot or one owned block are ordered by its edges. -/
import Derived.Test.YtonlehebfeilmaaK3
namespace Go.Proofs.Ytonlehebfeilmaa.K
open Go Go.RowKit

/-- The value of a place behind the operations of D. -/
def pick {β : Type} (D wr : Nat → Bool) (val : Nat → β) : Nat → β
  | 0 => val 0
  | k + 1 => if D k && wr k then val (k + 1) else pick D wr val k

theorem pick_at {β : Type} {D wr : Nat → Bool} {val : Nat → β} {n i : Nat} (hv : ∀ k, k < n → wr k = false → val (k + 1) = val k) (hi : i ≤ n)
    (h1 : ∀ j, j < i → wr j = true → D j = true) (h2 : ∀ j, i ≤ j → j < n → D j = true → wr j = false) : pick D wr val n = val i := by
  have a : ∀ k, k ≤ i → pick D wr val k = val k := by
    intro k
    induction k with
    | zero => intro _; rfl
    | succ k ih =>
      intro hk
      simp only [pick]
      cases hw : wr k with
      | true => rw [h1 k (by omega) hw]; rfl
      | false => rw [hv k (by omega) hw, Bool.and_false]; simpa using ih (by omega)
  have b : ∀ d, i + d ≤ n → pick D wr val (i + d) = val i := by
    intro d
    induction d with
    | zero => intro _; exact a i (Nat.le_refl _)
    | succ d ih =>
      intro hd
      show pick D wr val ((i + d) + 1) = val i
      simp only [pick]
      cases hD : D (i + d) with
      | true => rw [h2 (i + d) (by omega) (by omega) hD]; simpa using ih (by omega)
      | false => simpa using ih (by omega)
  have := b (n - i) (by omega)
  rwa [show i + (n - i) = n from by omega] at this

def setD (D : Nat → Bool) (i : Nat) : Nat → Bool := fun k => if k = i then true else D k

theorem pick_set_other {β : Type} {D wr : Nat → Bool} {val : Nat → β} {i : Nat} (h : wr i = false) : ∀ n, pick (setD D i) wr val n = pick D wr val n := by
  intro n
  induction n with
  | zero => rfl
  | succ n ih =>
    simp only [pick, ih]
    by_cases e : n = i
    · subst e; simp [h]
    · simp [setD, e]

theorem pick_set {β : Type} {D wr : Nat → Bool} {val : Nat → β} {i : Nat} (h : wr i = true) {n : Nat} (hi : i < n) (h2 : ∀ j, i < j → j < n → D j = true → wr j = false) :
    pick (setD D i) wr val n = val (i + 1) := by
  have b : ∀ d, i + 1 + d ≤ n → pick (setD D i) wr val (i + 1 + d) = val (i + 1) := by
    intro d
    induction d with
    | zero => intro _; simp [pick, setD, h]
    | succ d ih =>
      intro hd
      show pick (setD D i) wr val ((i + 1 + d) + 1) = _
      simp only [pick]
      have hne : ¬ i + 1 + d = i := by omega
      cases hD : D (i + 1 + d) with
      | true => rw [h2 (i + 1 + d) (by omega) (by omega) hD]; simpa using ih (by omega)
      | false => simpa [setD, hne, hD] using ih (by omega)
  have := b (n - i - 1) (by omega)
  rwa [show i + 1 + (n - i - 1) = n from by omega] at this

def cnt (D : Nat → Bool) : Nat → Nat
  | 0 => 0
  | k + 1 => cnt D k + if D k then 0 else 1

theorem cnt_set {D : Nat → Bool} {i : Nat} (h : D i = false) : ∀ n, cnt (setD D i) n + (if i < n then 1 else 0) = cnt D n := by
  intro n
  induction n with
  | zero => simp [cnt]
  | succ n ih =>
    simp only [cnt]
    by_cases e : n = i
    · subst e
      simp only [Nat.lt_irrefl, if_false, Nat.add_zero] at ih
      simp [setD, h, ih]
    · have : (i < n + 1) ↔ i < n := by omega
      simp only [this, setD, if_neg e]
      omega

theorem cnt_zero {D : Nat → Bool} : ∀ n, cnt D n = 0 → ∀ k, k < n → D k = true := by
  intro n
  induction n with
  | zero => intro _ k hk; omega
  | succ n ih =>
    intro h k hk
    simp only [cnt] at h
    by_cases e : k = n
    · subst e
      cases hD : D k with
      | true => rfl
      | false => simp [hD] at h
    · exact ih (by omega) k (by omega)

/-- i stands ahead of k by the edges that bind in every order. -/
inductive Anc (ops : Array Oper) : Nat → Nat → Prop where
  | edge {k : Nat} {o : Oper} {e : Edge} (ho : ops[k]? = some o) (he : e ∈ o.after) (hb : Region.binds .any e = true) : Anc ops e.on k
  | trans {i j k : Nat} (h : Anc ops i j) (h' : Anc ops j k) : Anc ops i k

def depMask (acc : List Nat) (o : Oper) : Nat := o.after.toList.foldl (fun s e => if Region.binds .any e then s ||| 2 ^ e.on ||| acc.getD e.on 0 else s) 0

def masks : List Oper → List Nat → List Nat
  | [], acc => acc
  | o :: r, acc => masks r (acc ++ [depMask acc o])

theorem depMask_good {ops : Array Oper} {k : Nat} {o : Oper} (ho : ops[k]? = some o) {acc : List Nat} (hacc : ∀ j i, (acc.getD j 0).testBit i = true → Anc ops i j) (i : Nat)
    (h : (depMask acc o).testBit i = true) : Anc ops i k := by
  unfold depMask at h
  have key : ∀ (l : List Edge) (s : Nat), (∀ e ∈ l, e ∈ o.after) → (∀ i, s.testBit i = true → Anc ops i k) →
      ∀ i, (l.foldl (fun s e => if Region.binds .any e then s ||| 2 ^ e.on ||| acc.getD e.on 0 else s) s).testBit i = true → Anc ops i k := by
    intro l
    induction l with
    | nil => intro s _ hs i hi; exact hs i hi
    | cons e r ih =>
      intro s hl hs i hi
      simp only [List.foldl_cons] at hi
      refine ih _ (fun e' he' => hl e' (List.mem_cons_of_mem _ he')) ?_ i hi
      intro i hi
      by_cases hb : Region.binds .any e = true
      · have he : Anc ops e.on k := .edge ho (hl e (List.mem_cons_self ..)) hb
        simp only [hb, if_true, Nat.testBit_or, Bool.or_eq_true] at hi
        rcases hi with (hi | hi) | hi
        · exact hs i hi
        · rw [Nat.testBit_two_pow] at hi
          have : e.on = i := by simpa using hi
          subst this; exact he
        · exact .trans (hacc _ _ hi) he
      · simp only [hb] at hi
        exact hs i hi
  exact key o.after.toList 0 (fun e he => by simpa using he) (by simp) i h

theorem masks_good {ops : Array Oper} : ∀ (r : List Oper) (acc : List Nat), (∀ j, r[j]? = ops[acc.length + j]?) → (∀ j i, (acc.getD j 0).testBit i = true → Anc ops i j) →
    ∀ j i, ((masks r acc).getD j 0).testBit i = true → Anc ops i j := by
  intro r
  induction r with
  | nil => intro acc _ h; exact h
  | cons o r ih =>
    intro acc hr hacc
    simp only [masks]
    refine ih _ (fun j => ?_) ?_
    · have := hr (j + 1)
      simp only [List.getElem?_cons_succ] at this
      rw [this, List.length_append, List.length_singleton]
      congr 1
      omega
    · intro j i h
      by_cases hj : j < acc.length
      · rw [List.getD_eq_getElem?_getD, List.getElem?_append_left hj, ← List.getD_eq_getElem?_getD] at h
        exact hacc j i h
      · by_cases e : j = acc.length
        · subst e
          rw [List.getD_eq_getElem?_getD, List.getElem?_append_right (Nat.le_refl _)] at h
          simp only [Nat.sub_self, List.getElem?_cons_zero, Option.getD_some] at h
          have ho : ops[acc.length]? = some o := by have := hr 0; simpa using this.symm
          exact depMask_good ho hacc i h
        · rw [List.getD_eq_getElem?_getD, List.getElem?_eq_none (by simp; omega)] at h
          simp at h

def slotClash (ops : Array Oper) (x y : Oper) : Bool :=
  (match x.dst with
   | some d => (y.looksAt ops).contains d || y.dst == some d
   | none => false) ||
  (match y.dst with
   | some d => (x.looksAt ops).contains d
   | none => false)

def slotsOrdered (ops : Array Oper) (M : List Nat) : Bool :=
  (List.range ops.size).all fun j => (List.range j).all fun i => (M.getD j 0).testBit i || !slotClash ops (ops.getD i default) (ops.getD j default)

def backward (ops : Array Oper) : Bool :=
  (List.range ops.size).all fun j => (ops.getD j default).after.all fun e => !Region.binds .any e || e.on < j

def dstsIn (ops : Array Oper) (N : Nat) : Bool := ops.all fun o => match o.dst with | some d => d < N | none => true

theorem dstsIn_spec {ops : Array Oper} {N : Nat} (h : dstsIn ops N = true) (k : Nat) (o : Oper) (d : Nat) (ho : ops[k]? = some o) (hd : o.dst = some d) : d < N := by
  unfold dstsIn at h
  rw [Array.all_eq_true_iff_forall_mem] at h
  have := h o (Array.mem_of_getElem? ho)
  simpa [hd] using this

/-- What a region's form must be for its order not to matter among slots. -/
def regionOK (ops : Array Oper) (N : Nat) (M : List Nat) : Bool := dstsIn ops N && backward ops && slotsOrdered ops M

theorem slotsOrdered_spec {ops : Array Oper} {M : List Nat} (h : slotsOrdered ops M = true) {i j : Nat} {x y : Oper} (hij : i < j) (hx : ops[i]? = some x) (hy : ops[j]? = some y)
    (hc : slotClash ops x y = true) : (M.getD j 0).testBit i = true := by
  unfold slotsOrdered at h
  rw [List.all_eq_true] at h
  have hj : j < ops.size := (Array.getElem?_eq_some_iff.1 hy).1
  have h1 := h j (List.mem_range.2 hj)
  rw [List.all_eq_true] at h1
  have h2 := h1 i (List.mem_range.2 hij)
  have ex : ops.getD i default = x := by simp [Array.getD_eq_getD_getElem?, hx]
  have ey : ops.getD j default = y := by simp [Array.getD_eq_getD_getElem?, hy]
  rw [ex, ey, hc] at h2
  simpa using h2

theorem backward_spec {ops : Array Oper} (h : backward ops = true) {j : Nat} {o : Oper} (ho : ops[j]? = some o) {e : Edge} (he : e ∈ o.after) (hb : Region.binds .any e = true) : e.on < j := by
  unfold backward at h
  rw [List.all_eq_true] at h
  have hj : j < ops.size := (Array.getElem?_eq_some_iff.1 ho).1
  have h1 := h j (List.mem_range.2 hj)
  have eo : ops.getD j default = o := by simp [Array.getD_eq_getD_getElem?, ho]
  rw [eo, Array.all_eq_true_iff_forall_mem] at h1
  have := h1 e he
  simpa [hb] using this

/-- Operations that touch one owned block are ordered (M: who stands ahead of whom). -/
def RecsOK (M : List Nat) (L : List Rec) : Prop :=
  ∀ i j a b, i < j → L[i]? = some a → L[j]? = some b → ((∃ x, x ∈ b.T ∧ (x ∈ a.W ∨ (a.lo ≤ x ∧ x < a.hi))) ∨ (∃ x, x ∈ a.T ∧ x ∈ b.W)) → (M.getD j 0).testBit i = true

theorem Runs.trace {P : Program} {ops : Array Oper} : ∀ {r : List Oper} {s s' : St} {L : List Rec}, Runs P ops r s s' L →
    ∃ (st : Nat → St) (rc : Nat → Rec), st 0 = s ∧ st r.length = s' ∧ ∀ k o, r[k]? = some o → L[k]? = some (rc k) ∧ ∃ v H', StepOp P ops o (st k) v H' (rc k) ∧ st (k + 1) = ⟨putS (st k).S o.dst v, H', (rc k).hi, (st k).df⟩ := by
  intro r
  induction r with
  | nil =>
    intro s s' L h
    cases h
    exact ⟨fun _ => s, fun _ => ⟨[], [], 0, 0⟩, rfl, rfl, by simp⟩
  | cons o r ih =>
    intro s s' L h
    cases h with
    | cons h1 h2 =>
      rename_i v H' R L'
      obtain ⟨st, rc, e0, e1, e2⟩ := ih h2
      refine ⟨fun k => match k with | 0 => s | k + 1 => st k, fun k => match k with | 0 => R | k + 1 => rc k, rfl, e1, ?_⟩
      intro k o' hk
      cases k with
      | zero =>
        simp only [List.getElem?_cons_zero, Option.some.injEq] at hk
        subst hk
        refine ⟨rfl, v, H', h1, ?_⟩
        exact e0
      | succ k =>
        simp only [List.getElem?_cons_succ] at hk ⊢
        exact e2 k o' hk
end Go.Proofs.Ytonlehebfeilmaa.K
