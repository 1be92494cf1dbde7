/- What operations on data in memory come to, where no owned block is touched. -/
import Derived.Test.YtonlehebfeilmaaK7
import Derived.Laws.BytesString
import Derived.Laws.Tables
namespace Go.Proofs.Ytonlehebfeilmaa.K
open Go Go.RowKit

variable {P : Program}

theorem addr_add (b o n : Nat) : (⟨b, o, none⟩ : Addr).add n = ⟨b, o + n, none⟩ := by
  unfold Addr.add
  split
  · rename_i h; subst h; rfl
  · rfl

def D.flat : D → Bool
  | .agg _ => false
  | .tuple _ => false
  | .val v => v.oneCell'
  | _ => true

/-! ### Cells and elements -/

theorem repC_vals {m : Mem} {b : Nat} : ∀ {l : List D} {o : Nat}, RepC m b l o → ∃ vs, RepL m l vs ∧ ∀ j v, vs[j]? = some v → m b (o + j) = some v
  | [], o, _ => ⟨[], by simp [RepL], by simp⟩
  | x :: r, o, h => by
    simp only [RepC] at h
    obtain ⟨⟨v, h1, h2⟩, h3⟩ := h
    obtain ⟨vs, h4, h5⟩ := repC_vals h3
    refine ⟨v :: vs, by simp only [RepL]; exact ⟨v, vs, rfl, h2, h4⟩, ?_⟩
    intro j u hj
    cases j with
    | zero => simp at hj; subst hj; exact h1
    | succ j =>
      have := h5 j u (by simpa using hj)
      rwa [show o + (j + 1) = o + 1 + j from by omega]

theorem repC_drop {m : Mem} {b : Nat} : ∀ {l : List D} {o : Nat} (k : Nat), RepC m b l o → RepC m b (l.drop k) (o + k)
  | [], o, k, _ => by simp [RepC]
  | x :: r, o, 0, h => by simpa using h
  | x :: r, o, k + 1, h => by
    simp only [RepC] at h
    have := repC_drop k h.2
    simpa [Nat.add_assoc, Nat.add_comm 1 k] using this

theorem repC_take {m : Mem} {b : Nat} : ∀ {l : List D} {o : Nat} (k : Nat), RepC m b l o → RepC m b (l.take k) o
  | [], o, k, _ => by simp [RepC]
  | x :: r, o, 0, h => by simp [RepC]
  | x :: r, o, k + 1, h => by
    simp only [RepC, List.take_succ_cons] at h ⊢
    exact ⟨h.1, repC_take k h.2⟩

theorem repE_cons {m : Mem} {b o : Nat} {x : D} {r : List D} : RepE m b (x :: r) o ↔ RepC m b x.cells o ∧ RepE m b r (o + x.cells.length) := by
  cases x <;> simp [RepE, RepC, D.cells]

theorem repE_get {m : Mem} {b sz : Nat} : ∀ {l : List D} {o : Nat} {i : Nat}, RepE m b l o → (∀ x ∈ l, x.cells.length = sz) → i < l.length → RepC m b (l.getD i default).cells (o + i * sz)
  | [], _, i, _, _, hi => by simp at hi
  | x :: r, o, i, h, hs, hi => by
    rw [repE_cons] at h
    cases i with
    | zero => simpa using h.1
    | succ i =>
      have := repE_get (i := i) h.2 (fun y hy => hs y (List.mem_cons_of_mem _ hy)) (by simpa using hi)
      rw [hs x (List.mem_cons_self ..)] at this
      simp only [List.getD_cons_succ]
      rwa [show o + (i + 1) * sz = o + sz + i * sz from by rw [Nat.succ_mul]; omega]

theorem repE_drop {m : Mem} {b sz : Nat} : ∀ {l : List D} {o : Nat} (k : Nat), RepE m b l o → (∀ x ∈ l, x.cells.length = sz) → k ≤ l.length → RepE m b (l.drop k) (o + k * sz)
  | [], o, k, _, _, hk => by simp [RepE]
  | x :: r, o, 0, h, _, _ => by simpa using h
  | x :: r, o, k + 1, h, hs, hk => by
    rw [repE_cons] at h
    have := repE_drop k h.2 (fun y hy => hs y (List.mem_cons_of_mem _ hy)) (by simpa using hk)
    rw [hs x (List.mem_cons_self ..)] at this
    simp only [List.drop_succ_cons]
    rwa [show o + (k + 1) * sz = o + sz + k * sz from by rw [Nat.succ_mul]; omega]

theorem repE_take {m : Mem} {b : Nat} : ∀ {l : List D} {o : Nat} (k : Nat), RepE m b l o → RepE m b (l.take k) o
  | [], o, k, _ => by simp [RepE]
  | x :: r, o, 0, h => by simp [RepE]
  | x :: r, o, k + 1, h => by
    rw [List.take_succ_cons, repE_cons]
    rw [repE_cons] at h
    exact ⟨h.1, repE_take k h.2⟩

theorem repE_append {m : Mem} {b : Nat} : ∀ {l l' : List D} {o n : Nat}, RepE m b l o → RepE m b l' (o + n) → (l.map fun x => x.cells.length).sum = n → RepE m b (l ++ l') o
  | [], l', o, n, _, h, e => by simp at e; subst e; simpa using h
  | x :: r, l', o, n, h, h', e => by
    rw [List.cons_append, repE_cons]
    rw [repE_cons] at h
    simp only [List.map_cons, List.sum_cons] at e
    refine ⟨h.1, repE_append (n := n - x.cells.length) h.2 ?_ (by omega)⟩
    rwa [show o + x.cells.length + (n - x.cells.length) = o + n from by omega]

theorem sum_cells {sz : Nat} : ∀ {l : List D}, (∀ x ∈ l, x.cells.length = sz) → (l.map fun x => x.cells.length).sum = l.length * sz
  | [], _ => by simp
  | x :: r, h => by
    simp only [List.map_cons, List.sum_cons, List.length_cons]
    rw [h x (List.mem_cons_self ..), sum_cells fun y hy => h y (List.mem_cons_of_mem _ hy), Nat.succ_mul]
    omega

theorem cells_flat {x : D} (h : x.flat = true) : x.cells = [x] := by cases x <;> simp_all [D.flat, D.cells]

theorem repE_flat {m : Mem} {b : Nat} : ∀ {l : List D} {o : Nat}, (∀ x ∈ l, x.flat = true) → (RepE m b l o ↔ RepC m b l o)
  | [], o, _ => by simp [RepE, RepC]
  | x :: r, o, h => by
    rw [repE_cons, cells_flat (h x (List.mem_cons_self ..)), RepC]
    simp only [RepC, List.length_singleton, and_true]
    rw [repE_flat fun y hy => h y (List.mem_cons_of_mem _ hy)]

/-- The cells of a row's elements. -/
theorem repE_vals {m : Mem} {b : Nat} {l : List D} {o : Nat} (h : RepE m b l o) : ∃ vs : List Value, vs.length = (l.map fun x => x.cells.length).sum ∧ RepL m (l.flatMap D.cells) vs ∧ ∀ j v, vs[j]? = some v → m b (o + j) = some v := by
  induction l generalizing o with
  | nil => exact ⟨[], by simp, by simp [RepL], by simp⟩
  | cons x r ih =>
    rw [repE_cons] at h
    obtain ⟨us, h1, h2⟩ := repC_vals h.1
    obtain ⟨vs, h3, h4, h5⟩ := ih h.2
    have hl := repL_len h1
    refine ⟨us ++ vs, by simp [hl, h3], ?_, ?_⟩
    · simp only [List.flatMap_cons]
      have : ∀ {a b : List D} {u v : List Value}, RepL m a u → RepL m b v → RepL m (a ++ b) (u ++ v) := by
        intro a
        induction a with
        | nil => intro b u v hu hv; simp only [RepL] at hu; subst hu; simpa using hv
        | cons y a iha =>
          intro b u v hu hv
          simp only [RepL] at hu
          obtain ⟨z, zr, rfl, e1, e2⟩ := hu
          simp only [List.cons_append, RepL]
          exact ⟨z, zr ++ v, rfl, e1, iha e2 hv⟩
      exact this h1 h4
    · intro j v hj
      by_cases hlt : j < us.length
      · rw [List.getElem?_append_left hlt] at hj
        exact h2 j v hj
      · rw [List.getElem?_append_right (by omega)] at hj
        have := h5 _ v hj
        rwa [show o + x.cells.length + (j - us.length) = o + j from by omega] at this

theorem repL_append {m : Mem} : ∀ {a b : List D} {u v : List Value}, RepL m a u → RepL m b v → RepL m (a ++ b) (u ++ v)
  | [], b, u, v, hu, hv => by simp only [RepL] at hu; subst hu; simpa using hv
  | y :: a, b, u, v, hu, hv => by
    simp only [RepL] at hu
    obtain ⟨z, zr, rfl, e1, e2⟩ := hu
    simp only [List.cons_append, RepL]
    exact ⟨z, zr ++ v, rfl, e1, repL_append e2 hv⟩

theorem repL_take {m : Mem} : ∀ {l : List D} {vs : List Value} (k : Nat), RepL m l vs → RepL m (l.take k) (vs.take k)
  | [], vs, k, h => by simp only [RepL] at h; subst h; simp [RepL]
  | x :: r, vs, 0, h => by simp [RepL]
  | x :: r, vs, k + 1, h => by
    simp only [RepL] at h
    obtain ⟨v, vr, rfl, h1, h2⟩ := h
    simp only [List.take_succ_cons, RepL]
    exact ⟨v, vr.take k, rfl, h1, repL_take k h2⟩

theorem repL_drop {m : Mem} : ∀ {l : List D} {vs : List Value} (k : Nat), RepL m l vs → RepL m (l.drop k) (vs.drop k)
  | [], vs, k, h => by simp only [RepL] at h; subst h; simp [RepL]
  | x :: r, vs, 0, h => by simpa using h
  | x :: r, vs, k + 1, h => by
    simp only [RepL] at h
    obtain ⟨v, vr, rfl, h1, h2⟩ := h
    simpa using repL_drop k h2

theorem repP_take {m : Mem} {ρ : Ren} : ∀ {l : List PV} {vs : List Value} (k : Nat), RepP m ρ l vs → RepP m ρ (l.take k) (vs.take k)
  | [], vs, k, h => by simp only [RepP] at h; subst h; simp [RepP]
  | x :: r, vs, 0, h => by simp [RepP]
  | x :: r, vs, k + 1, h => by
    simp only [RepP] at h
    obtain ⟨v, vr, rfl, h1, h2⟩ := h
    simp only [List.take_succ_cons, RepP]
    exact ⟨v, vr.take k, rfl, h1, repP_take k h2⟩

theorem repP_drop {m : Mem} {ρ : Ren} : ∀ {l : List PV} {vs : List Value} (k : Nat), RepP m ρ l vs → RepP m ρ (l.drop k) (vs.drop k)
  | [], vs, k, h => by simp only [RepP] at h; subst h; simp [RepP]
  | x :: r, vs, 0, h => by simpa using h
  | x :: r, vs, k + 1, h => by
    simp only [RepP] at h
    obtain ⟨v, vr, rfl, h1, h2⟩ := h
    simpa using repP_drop k h2

theorem repP_append {m : Mem} {ρ : Ren} : ∀ {a b : List PV} {u v : List Value}, RepP m ρ a u → RepP m ρ b v → RepP m ρ (a ++ b) (u ++ v)
  | [], b, u, v, hu, hv => by simp only [RepP] at hu; subst hu; simpa using hv
  | y :: a, b, u, v, hu, hv => by
    simp only [RepP] at hu
    obtain ⟨z, zr, rfl, e1, e2⟩ := hu
    simp only [List.cons_append, RepP]
    exact ⟨z, zr ++ v, rfl, e1, repP_append e2 hv⟩

theorem repL_repP {m : Mem} {ρ : Ren} : ∀ {l : List D} {vs : List Value}, RepL m l vs → RepP m ρ (l.map PV.d) vs
  | [], vs, h => by simp only [RepL] at h; subst h; simp [RepP]
  | x :: r, vs, h => by
    simp only [RepL] at h
    obtain ⟨v, vr, rfl, h1, h2⟩ := h
    simp only [List.map_cons, RepP]
    exact ⟨v, vr, rfl, by simpa [Rep] using h1, repL_repP h2⟩

theorem memOK_cells {m : Mem} {w : World} (h : MemOK m w) {b o : Nat} {vs : List Value} (hv : ∀ j v, vs[j]? = some v → m b (o + j) = some v) :
    (∀ j v, vs[j]? = some v → w.cell? ((⟨b, o, none⟩ : Addr).add j) = some v) ∧ ∀ v ∈ vs, v.oneCell' = true := by
  refine ⟨fun j v hj => ?_, fun v hv' => ?_⟩
  · rw [addr_add]; exact (h _ _ _ (hv j v hj)).1
  · obtain ⟨j, hj⟩ := List.mem_iff_getElem?.1 hv'
    exact (h _ _ _ (hv j v hj)).2

/-- A variable read out of memory that stays. -/
theorem run_loadVar_cells {m : Mem} {w : World} (hm : MemOK m w) {b o : Nat} {l : List D} (hl : RepC m b l o) {t : TypeId} {ag : Bool} {n : Nat} (ht : tyA P t = some (ag, n)) (hn : if ag then n ≤ l.length else l ≠ []) :
    ∃ u, (loadVar t ⟨b, o, none⟩).run P w = .ok u w ∧ RepD m (if ag then .agg (l.take n) else l.headD default) u := by
  obtain ⟨h1, h2⟩ := tyA_spec ht w
  cases ag with
  | true =>
    simp only [if_true] at hn ⊢
    obtain ⟨vs, h3, h4⟩ := repC_vals (repC_take n hl)
    obtain ⟨h5, h6⟩ := memOK_cells hm h4
    have hlen : vs.length = n := by rw [repL_len h3, List.length_take]; omega
    refine ⟨.agg ⟨vs⟩, ?_, by simp only [RepD]; exact ⟨vs, rfl, h3, h6⟩⟩
    have := run_loadCells_list (P := P) w ⟨b, o, none⟩ vs h5
    rw [hlen] at this
    unfold loadVar
    simp [h1, h2, this]
  | false =>
    simp only [Bool.false_eq_true, if_false] at hn ⊢
    cases l with
    | nil => exact absurd rfl hn
    | cons x r =>
      simp only [RepC] at hl
      obtain ⟨⟨v, h3, h4⟩, _⟩ := hl
      refine ⟨v, ?_, by simpa using h4⟩
      unfold loadVar
      simp [h1, (hm _ _ _ h3).1]

def loadD (ty : Option (Bool × Nat)) (l : List D) : PV × Prop :=
  match ty with
  | some (true, n) => (.d (.agg (l.take n)), n ≤ l.length)
  | some (false, _) => (.d (l.headD default), l ≠ [])
  | none => (.junk, False)

theorem load_sound {o : Oper} {S : Nat → PV} {t : TypeId} {x : Operand} {l : List D} (ho : o.op = .load t x) (hp : evP S x = .d (.cptr l)) (h : (loadD (tyA P t) l).2) : PureRun P o S (loadD (tyA P t) l).1 := by
  refine PureRun.still fun m ρ a w hm hx => ?_
  have h1 := hx x (by simp [ho, Op.operands])
  rw [hp] at h1
  simp only [Rep, RepD] at h1
  obtain ⟨b, off, e, hl⟩ := h1
  obtain ⟨dst, op', type, pos, after, guard⟩ := o
  simp only at ho
  subst ho
  unfold loadD at h ⊢
  cases ht : tyA P t with
  | none => simp [ht] at h
  | some x =>
    obtain ⟨ag, n⟩ := x
    obtain ⟨u, hu, hr⟩ := run_loadVar_cells hm hl ht (by cases ag <;> simpa [ht] using h)
    refine ⟨u, ?_, by cases ag <;> simpa [Rep] using hr⟩
    simp [execOp, Instr.loadAt, e, Instr.sureAddr, hu]

def fieldAddrP (fi : Option (Nat × Nat × Bool)) (p : PV) : PV × Prop :=
  match fi, p with
  | some (off, n, _), .d (.cptr l) => (.d (.cptr (l.drop off)), n ≠ 0)
  | some (off, n, _), .vptr id o => (.vptr id (o + off), n ≠ 0)
  | _, _ => (.junk, False)

theorem fldA_spec {t : TypeId} {f off n : Nat} {ag : Bool} (h : fldA P t f = some (off, n, ag)) : ∃ fs fd, P.underlying t = some (.struct fs) ∧ fs[f]? = some fd ∧ fd.offset = off ∧ tyA P fd.type = some (ag, n) := by
  unfold fldA at h
  cases hu : P.underlying t with
  | none => simp [hu] at h
  | some d =>
    cases d with
    | struct fs =>
      simp only [hu] at h
      cases hf : fs[f]? with
      | none => simp [hf] at h
      | some fd =>
        simp only [hf] at h
        cases ht : tyA P fd.type with
        | none => simp [ht] at h
        | some x =>
          simp only [ht, Option.map_some, Option.some.injEq, Prod.mk.injEq] at h
          obtain ⟨h1, h2, h3⟩ := h
          subst h1; subst h2; subst h3
          exact ⟨fs, fd, rfl, hf, rfl, ht⟩
    | _ => simp [hu] at h

theorem fieldAddr_sound {o : Oper} {S : Nat → PV} {t : TypeId} {x : Operand} {f : Nat} (ho : o.op = .fieldAddr t x f) (h : (fieldAddrP (fldA P t f) (evP S x)).2) : PureRun P o S (fieldAddrP (fldA P t f) (evP S x)).1 := by
  refine PureRun.still fun m ρ a w hm hx => ?_
  have h1 := hx x (by simp [ho, Op.operands])
  obtain ⟨dst, op', type, pos, after, guard⟩ := o
  simp only at ho
  subst ho
  generalize evP S x = p at *
  unfold fieldAddrP at h ⊢
  split at h
  · rename_i off n ag l hfi
    obtain ⟨fs, fd, hu, hf, hoff, ht⟩ := fldA_spec hfi
    simp only [Rep, RepD] at h1
    obtain ⟨b, o', e, hl⟩ := h1
    have hs := (tyA_spec ht w).2
    have hne : n ≠ 0 := h
    refine ⟨.pointer (some ⟨b, o' + off, none⟩), ?_, ?_⟩
    · simp [execOp, Instr.fieldAt, run_underlying hu, hf, e, Instr.sureAddr, fieldPlace, hs, hne, hoff, addr_add]
    · simp only [Rep, RepD]; exact ⟨b, _, rfl, repC_drop off hl⟩
  · rename_i off n ag id o' hfi
    obtain ⟨fs, fd, hu, hf, hoff, ht⟩ := fldA_spec hfi
    simp only [Rep] at h1
    obtain ⟨b, c, hr, e⟩ := h1
    have hs := (tyA_spec ht w).2
    have hne : n ≠ 0 := h
    refine ⟨.pointer (some ⟨b, o' + off, none⟩), ?_, ?_⟩
    · simp [execOp, Instr.fieldAt, run_underlying hu, hf, e, Instr.sureAddr, fieldPlace, hs, hne, hoff, addr_add]
    · simp only [Rep]; exact ⟨b, c, hr, rfl⟩
  · exact h.elim

def PV.elems : PV → Option (List D)
  | .d (.slice l) => some l
  | .full l => some l
  | .own _ l => some l
  | _ => none

theorem elems_rep {m : Mem} {ρ : Ren} {p : PV} {v : Value} {l : List D} (hp : p.elems = some l) (h : Rep m ρ p v) : ∃ (a : Option Addr) (c : Nat), v = .slice a l.length c ∧ l.length ≤ c ∧ (l = [] ∨ ∃ b o, a = some ⟨b, o, none⟩ ∧ RepE m b l o) := by
  have ht : p.toD = some (.slice l) := by
    cases p with
    | d x => cases x <;> simp_all [PV.elems, PV.toD]
    | _ => simp_all [PV.elems, PV.toD]
  have := Rep.toD p _ v ht h
  simpa only [RepD] using this

theorem slcA_spec {t : TypeId} {sz by' : Nat} {ag : Bool} (h : slcA P t = some (sz, by', ag)) : ∃ e i, P.underlying t = some (.slice e) ∧ tyA P e = some (ag, sz) ∧ P.info? e = some i ∧ i.size = sz ∧ i.bytes = by' := by
  unfold slcA at h
  cases hu : P.underlying t with
  | none => simp [hu] at h
  | some d =>
    cases d with
    | slice e =>
      simp only [hu] at h
      cases ht : tyA P e with
      | none => simp [ht] at h
      | some x =>
        cases hi : P.info? e with
        | none => simp [ht, hi] at h
        | some i =>
          simp only [ht, hi, Option.some.injEq, Prod.mk.injEq] at h
          obtain ⟨h1, h2, h3⟩ := h
          refine ⟨e, i, rfl, by rw [ht, ← h1, ← h3], hi, ?_, h2⟩
          unfold tyA at ht
          cases hue : P.underlying e with
          | none => simp [hue] at ht
          | some de =>
            simp only [hue, hi, Option.some.injEq] at ht
            rw [← h1, ← ht]
    | _ => simp [hu] at h

theorem arrA_spec {t : TypeId} {n sz : Nat} {ag : Bool} (h : arrA P t = some (n, sz, ag)) : ∃ e, P.underlying t = some (.array n e) ∧ tyA P e = some (ag, sz) := by
  unfold arrA at h
  cases hu : P.underlying t with
  | none => simp [hu] at h
  | some d =>
    cases d with
    | array k e =>
      simp only [hu] at h
      cases ht : tyA P e with
      | none => simp [ht] at h
      | some x =>
        simp only [ht, Option.map_some, Option.some.injEq, Prod.mk.injEq] at h
        obtain ⟨h1, h2, h3⟩ := h
        subst h1; subst h2; subst h3
        exact ⟨e, rfl, ht⟩
    | _ => simp [hu] at h

def indexAddrP (sl ar : Option (Nat × Nat × Bool)) (p i : PV) : PV × Prop :=
  match i with
  | .d (.val (.int _ i)) =>
    match sl with
    | some (sz, _, _) => match p.elems with
      | some l => (.d (.cptr (l.getD i.toNat default).cells), (0 ≤ i ∧ i < (l.length : Int)) ∧ ∀ x ∈ l, x.cells.length = sz)
      | none => (.junk, False)
    | none => match ar, p with
      | some (n, sz, _), .d (.cptr l) => (.d (.cptr (l.drop (i.toNat * sz))), 0 ≤ i ∧ i < (n : Int))
      | some (n, sz, _), .vptr id o => (.vptr id (o + i.toNat * sz), 0 ≤ i ∧ i < (n : Int))
      | _, _ => (.junk, False)
  | _ => (.junk, False)

theorem indexAddr_sound {o : Oper} {S : Nat → PV} {t : TypeId} {x y : Operand} (ho : o.op = .indexAddr t x y) (h : (indexAddrP (slcA P t) (arrA P t) (evP S x) (evP S y)).2) : PureRun P o S (indexAddrP (slcA P t) (arrA P t) (evP S x) (evP S y)).1 := by
  refine PureRun.still fun m ρ a w hm hx => ?_
  have h1 := hx x (by simp [ho, Op.operands])
  have h2 := hx y (by simp [ho, Op.operands])
  obtain ⟨dst, op', type, pos, after, guard⟩ := o
  simp only at ho
  subst ho
  generalize evP S x = p at *
  generalize evP S y = q at *
  unfold indexAddrP at h ⊢
  split at h
  · rename_i q' k i
    simp only [Rep, RepD] at h2
    split at h
    · rename_i sz by' ag hsl
      obtain ⟨e, inf, hu, ht, hi, _, _⟩ := slcA_spec hsl
      have hs := (tyA_spec ht w).2
      split at h
      · rename_i l hl
        obtain ⟨⟨h3, h4⟩, h5⟩ := h
        obtain ⟨ad, c, ev, _, hrep⟩ := elems_rep hl h1
        have hne : l ≠ [] := by intro e'; subst e'; simp at h4; omega
        obtain ⟨b, o', ha, hE⟩ := hrep.resolve_left hne
        subst ha
        have hlt : i.toNat < l.length := by omega
        refine ⟨.pointer (some ⟨b, o' + i.toNat * sz, none⟩), ?_, ?_⟩
        · simp [execOp, Instr.indexAt, h2, asIntOf, ev, run_underlying hu, hs, h3, h4, addr_add]
        · simp only [Rep, RepD]; exact ⟨b, _, rfl, repE_get hE h5 hlt⟩
      · exact h.elim
    · rename_i hsl
      split at h
      · rename_i n sz ag l har
        obtain ⟨h3, h4⟩ := h
        obtain ⟨e, hu, ht⟩ := arrA_spec har
        have hs := (tyA_spec ht w).2
        simp only [Rep, RepD] at h1
        obtain ⟨b, o', ev, hl⟩ := h1
        refine ⟨.pointer (some ⟨b, o' + i.toNat * sz, none⟩), ?_, ?_⟩
        · simp [execOp, Instr.indexAt, h2, asIntOf, ev, run_underlying hu, Instr.sureAddr, hs, h3, h4, addr_add]
        · simp only [Rep, RepD]; exact ⟨b, _, rfl, repC_drop _ hl⟩
      · rename_i n sz ag id o' har
        obtain ⟨h3, h4⟩ := h
        obtain ⟨e, hu, ht⟩ := arrA_spec har
        have hs := (tyA_spec ht w).2
        simp only [Rep] at h1
        obtain ⟨b, c, hr, ev⟩ := h1
        refine ⟨.pointer (some ⟨b, o' + i.toNat * sz, none⟩), ?_, ?_⟩
        · simp [execOp, Instr.indexAt, h2, asIntOf, ev, run_underlying hu, Instr.sureAddr, hs, h3, h4, addr_add]
        · simp only [Rep]; exact ⟨b, c, hr, rfl⟩
      · exact h.elim
  · exact h.elim
end Go.Proofs.Ytonlehebfeilmaa.K
