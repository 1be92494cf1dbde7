/- What operations that touch no owned block come to; first those that only reckon. -/
import Derived.Test.YtonlehebfeilmaaK6
namespace Go.Proofs.Ytonlehebfeilmaa.K
open Go Go.RowKit

variable {P : Program}

/-- An operation that touches no owned block. -/
def PureOp (P : Program) (o : Oper) (S : Nat → PV) (v : PV) : Prop :=
  ∀ m ρ a w (K : Act → World → Prop) (Q : Exit → Act → World → Prop), MemOK m w → (∀ x ∈ o.op.operands, Rep m ρ (evP S x) (a.eval x)) →
    (∀ u m' w', MemOK m' w' → Ext (fun _ => False) m w m' w' → Rep m' ρ v u → K (a.put o.dst u) w') → o.wp P a w K Q

/-- Likewise, of an operation that is no call: by its run. -/
def PureRun (P : Program) (o : Oper) (S : Nat → PV) (v : PV) : Prop :=
  ∀ m ρ (a : Act) w, MemOK m w → (∀ x ∈ o.op.operands, Rep m ρ (evP S x) (a.eval x)) →
    ∃ u m' w', (execOp a.eval o).run P w = .ok (.value u) w' ∧ MemOK m' w' ∧ Ext (fun _ => False) m w m' w' ∧ Rep m' ρ v u

theorem PureRun.op {o : Oper} {S : Nat → PV} {v : PV} (h : PureRun P o S v) : PureOp P o S v := by
  intro m ρ a w K Q hm hx hK
  obtain ⟨u, m', w', hr, h1, h2, h3⟩ := h m ρ a w hm hx
  unfold Oper.wp
  rw [hr, Oper.upon_value]
  exact hK u m' w' h1 h2 h3

/-- Of an operation that leaves memory as it is. -/
theorem PureRun.still {o : Oper} {S : Nat → PV} {v : PV} (h : ∀ m ρ (a : Act) w, MemOK m w → (∀ x ∈ o.op.operands, Rep m ρ (evP S x) (a.eval x)) → ∃ u, (execOp a.eval o).run P w = .ok (.value u) w ∧ Rep m ρ v u) : PureRun P o S v := by
  intro m ρ a w hm hx
  obtain ⟨u, h1, h2⟩ := h m ρ a w hm hx
  exact ⟨u, m, w, h1, hm, Ext.refl _ _ _, h2⟩

theorem PureOp.sem {o : Oper} {s : St} {v : PV} (h : PureOp P o s.S v) (T : List Nat) (hT : ∀ i ∈ T, i < s.nx) (hn : ∀ i, s.nx ≤ i → s.H i = none) : OpSem P o s v s.H s.nx T [] := by
  refine ⟨Nat.le_refl _, fun _ _ _ => rfl, hn, by simp, hT, ?_⟩
  intro m ρ a w K Q V _ hx hK
  refine h m ρ a w K Q V.mem hx ?_
  intro u m' w' hm' he hu
  refine hK u m' ρ w' ⟨he.mono (fun _ f => f.elim), Ren.le_refl _, fun i => .inl rfl, ⟨hm', fun i o hi hH => ?_, fun i j b c c' hi hj => V.apart i j b c c' (hi.elim id (by omega)) (hj.elim id (by omega))⟩, ?_⟩ hu
  · have hi' : i ∈ T := hi.elim id (by omega)
    have hE := V.entry i o hi' hH
    refine hE.move he.mem (Ren.le_refl _) rfl (fun b c hr => he.block b (hE.ren hr) (fun f => f.elim)) (fun b c hr o' v' e => ?_)
    rcases he.new b o' v' e with h | h | h
    · exact h
    · exact h.elim
    · have := hE.ren hr; omega
  · rintro b ⟨i, c, hi, hl, hr⟩
    exact .inl ⟨i, c, hi.elim id (by omega), hl, hr⟩

/-! ### Types, as the operations ask for them -/

def Desc.isAgg : TypeDesc → Bool
  | .struct _ => true
  | .array _ _ => true
  | _ => false

/-- Is it a struct or an array; how many cells. -/
def tyA (P : Program) (t : TypeId) : Option (Bool × Nat) :=
  match P.underlying t, P.info? t with
  | some d, some i => some (Desc.isAgg d, i.size)
  | _, _ => none

/-- A struct's field: where it begins, its cells, is it a struct or an array. -/
def fldA (P : Program) (t : TypeId) (f : Nat) : Option (Nat × Nat × Bool) :=
  match P.underlying t with
  | some (.struct fs) => match fs[f]? with
    | some fd => (tyA P fd.type).map fun x => (fd.offset, x.2, x.1)
    | none => none
  | _ => none

/-- An array: its length, an element's cells, is that a struct or an array. -/
def arrA (P : Program) (t : TypeId) : Option (Nat × Nat × Bool) :=
  match P.underlying t with
  | some (.array n e) => (tyA P e).map fun x => (n, x.2, x.1)
  | _ => none

/-- A slice: an element's cells, its bytes, is it a struct or an array. -/
def slcA (P : Program) (t : TypeId) : Option (Nat × Nat × Bool) :=
  match P.underlying t with
  | some (.slice e) => match tyA P e, P.info? e with
    | some x, some i => some (x.2, i.bytes, x.1)
    | _, _ => none
  | _ => none

theorem tyA_spec {t : TypeId} {b : Bool} {n : Nat} (h : tyA P t = some (b, n)) (w : World) : (isAgg t).run P w = .ok b w ∧ (sizeOf t).run P w = .ok n w := by
  unfold tyA at h
  cases hu : P.underlying t with
  | none => simp [hu] at h
  | some d =>
    cases hi : P.info? t with
    | none => simp [hu, hi] at h
    | some i =>
      simp only [hu, hi, Option.some.injEq, Prod.mk.injEq] at h
      obtain ⟨h1, h2⟩ := h
      refine ⟨?_, ?_⟩
      · unfold isAgg
        simp only [Sem.run_bind, run_underlying hu, Result.andThen_ok]
        subst h1
        cases d <;> rfl
      · subst h2
        simp [sizeOf, typeInfo, hi]

/-! ### Values alone -/

def bin (op : BinOp) (p q : PV) : PV × Prop :=
  match p, q with
  | .d (.val (.int k a)), .d (.val (.int k' b)) =>
    match op with
    | .add => (.d (.val (.int k (k.wrap (a + b)))), k = k')
    | .sub => (.d (.val (.int k (k.wrap (a - b)))), k = k')
    | .mul => (.d (.val (.int k (k.wrap (a * b)))), k = k')
    | .quo => (.d (.val (.int k (k.wrap (a.tdiv b)))), k = k' ∧ b ≠ 0)
    | .rem => (.d (.val (.int k (a.tmod b))), k = k' ∧ b ≠ 0)
    | .and => (.d (.val (.int k (k.wrap (BitVec.ofInt k.bits a &&& BitVec.ofInt k.bits b).toNat))), k = k')
    | .or => (.d (.val (.int k (k.wrap (BitVec.ofInt k.bits a ||| BitVec.ofInt k.bits b).toNat))), k = k')
    | .xor => (.d (.val (.int k (k.wrap (BitVec.ofInt k.bits a ^^^ BitVec.ofInt k.bits b).toNat))), k = k')
    | .andNot => (.d (.val (.int k (k.wrap (BitVec.ofInt k.bits a &&& ~~~ BitVec.ofInt k.bits b).toNat))), k = k')
    | .shl => (.d (.val (.int k (k.wrap (a * 2 ^ (min b.toNat k.bits))))), 0 ≤ b)
    | .shr => (.d (.val (.int k (a.fdiv (2 ^ (min b.toNat k.bits))))), 0 ≤ b)
    | .eql => (.d (.val (.bool (a == b))), k = k')
    | .neq => (.d (.val (.bool (a != b))), k = k')
    | .lss => (.d (.val (.bool (decide (a < b)))), k = k')
    | .leq => (.d (.val (.bool (decide (a ≤ b)))), k = k')
    | .gtr => (.d (.val (.bool (decide (a > b)))), k = k')
    | .geq => (.d (.val (.bool (decide (a ≥ b)))), k = k')
  | .d (.val (.string x)), .d (.val (.string y)) =>
    match op with
    | .add => (.d (.val (.string (x ++ y))), ((x.size + y.size : Nat) : Int) ≤ IntKind.i64.max)
    | .eql => (.d (.val (.bool (x.toList == y.toList))), True)
    | .neq => (.d (.val (.bool (!(x.toList == y.toList)))), True)
    | .lss => (.d (.val (.bool (Op.bytesLess x.toList y.toList))), True)
    | .leq => (.d (.val (.bool (Op.bytesLess x.toList y.toList || x.toList == y.toList))), True)
    | .gtr => (.d (.val (.bool (!(Op.bytesLess x.toList y.toList || x.toList == y.toList)))), True)
    | .geq => (.d (.val (.bool (!(Op.bytesLess x.toList y.toList)))), True)
    | _ => (.junk, False)
  | _, _ => (.junk, False)

theorem bin_sound {o : Oper} {S : Nat → PV} {op : BinOp} {t u : TypeId} {x y : Operand} (ho : o.op = .binOp op t x y u) (h : (bin op (evP S x) (evP S y)).2) : PureRun P o S (bin op (evP S x) (evP S y)).1 := by
  refine PureRun.still fun m ρ a w _ hx => ?_
  have h1 := hx x (by simp [ho, Op.operands])
  have h2 := hx y (by simp [ho, Op.operands])
  obtain ⟨dst, op', type, pos, after, guard⟩ := o
  simp only at ho
  subst ho
  simp only [execOp]
  generalize evP S x = p at *
  generalize evP S y = q at *
  unfold bin at h ⊢
  split at h
  · rename_i k a' k' b'
    simp only [Rep, RepD] at h1 h2
    rw [h1, h2]
    cases op <;> simp only at h ⊢ <;> (try obtain ⟨rfl, hb⟩ := h) <;> (try subst h) <;>
      simp_all [eqGuard, binOp, Op.intArith, Op.intDiv, Op.intBits, Op.intCmp, Op.shift, Rep, RepD] <;>
      (intro hlt; omega)
  · rename_i s1 s2
    simp only [Rep, RepD] at h1 h2
    rw [h1, h2]
    cases op <;> simp only at h ⊢ <;>
      simp_all [eqGuard, binOp, Op.stringOp, Rep, RepD, Int.not_lt]
  · exact h.elim

def un (op : UnOp) (p : PV) : PV × Prop :=
  match p with
  | .d (.val (.int k a)) =>
    match op with
    | .neg => (.d (.val (.int k (k.wrap (0 - a)))), True)
    | .xor => (.d (.val (.int k (k.wrap (BitVec.ofInt k.bits (if k.signed then -1 else k.max) ^^^ BitVec.ofInt k.bits a).toNat))), True)
    | _ => (.junk, False)
  | .d (.val (.bool b)) =>
    match op with
    | .not => (.d (.val (.bool (!b))), True)
    | _ => (.junk, False)
  | _ => (.junk, False)

theorem un_sound {o : Oper} {S : Nat → PV} {op : UnOp} {t : TypeId} {x : Operand} (ho : o.op = .unOp op t x) (h : (un op (evP S x)).2) : PureRun P o S (un op (evP S x)).1 := by
  refine PureRun.still fun m ρ a w _ hx => ?_
  have h1 := hx x (by simp [ho, Op.operands])
  obtain ⟨dst, op', type, pos, after, guard⟩ := o
  simp only at ho
  subst ho
  simp only [execOp]
  generalize evP S x = p at *
  unfold un at h ⊢
  split at h
  · rename_i k a'
    simp only [Rep, RepD] at h1
    rw [h1]
    cases op <;> simp only at h ⊢ <;> first | exact h.elim | simp [Op.unary, Op.intArith, Op.intBits, Rep, RepD]
  · rename_i b
    simp only [Rep, RepD] at h1
    rw [h1]
    cases op <;> simp only at h ⊢ <;> first | exact h.elim | simp [Op.unary, Rep, RepD]
  · exact h.elim

theorem move_sound {o : Oper} {S : Nat → PV} {x : Operand} (ho : o.op = .move x ∨ o.op = .assign x) : PureRun P o S (evP S x) := by
  refine PureRun.still fun m ρ a w _ hx => ?_
  have h1 := hx x (by rcases ho with h | h <;> simp [h, Op.operands])
  obtain ⟨dst, op', type, pos, after, guard⟩ := o
  simp only at ho
  rcases ho with h | h <;> subst h <;> exact ⟨_, rfl, h1⟩

def asCond : PV → Bool × PV
  | .cond g p => (g, p)
  | p => (true, p)

theorem asCond_rep {m : Mem} {ρ : Ren} {p : PV} {v : Value} (h : Rep m ρ p v) (hg : (asCond p).1 = true) : Rep m ρ (asCond p).2 v := by
  cases p <;> simp_all [asCond, Rep]

def pickP (c p q : PV) : PV × Prop :=
  match c, (asCond p).2, (asCond q).2 with
  | .d (.val (.bool c)), .d (.val (.bool x)), .d (.val (.bool y)) => (.d (.val (.bool (bif c then x else y))), (c = true → (asCond p).1 = true) ∧ (c = false → (asCond q).1 = true))
  | _, _, _ => (.junk, False)

theorem pick_sound {o : Oper} {S : Nat → PV} {c x y : Operand} (ho : o.op = .pick c x y) (h : (pickP (evP S c) (evP S x) (evP S y)).2) : PureRun P o S (pickP (evP S c) (evP S x) (evP S y)).1 := by
  refine PureRun.still fun m ρ a w _ hx => ?_
  have h0 := hx c (by simp [ho, Op.operands])
  have h1 := hx x (by simp [ho, Op.operands])
  have h2 := hx y (by simp [ho, Op.operands])
  obtain ⟨dst, op', type, pos, after, guard⟩ := o
  simp only at ho
  subst ho
  simp only [execOp]
  generalize evP S c = r at *
  generalize evP S x = p at *
  generalize evP S y = q at *
  unfold pickP at h ⊢
  split at h
  · rename_i cb xb yb e1 e2
    simp only [Rep, RepD] at h0
    rw [h0]
    cases cb with
    | true =>
      have := asCond_rep h1 (h.1 rfl)
      rw [e1] at this
      simp only [Rep, RepD] at this
      simp [asBool, this, Rep, RepD]
    | false =>
      have := asCond_rep h2 (h.2 rfl)
      rw [e2] at this
      simp only [Rep, RepD] at this
      simp [asBool, this, Rep, RepD]
  · exact h.elim

def extractP (p : PV) (i : Nat) : PV × Prop :=
  match p with
  | .d (.tuple l) => (.d (l.getD i default), i < l.length)
  | .tuple l => (l.getD i .junk, i < l.length)
  | _ => (.junk, False)

theorem repL_get {m : Mem} : ∀ {l : List D} {vs : List Value} {i : Nat}, RepL m l vs → i < l.length → ∃ v, vs[i]? = some v ∧ RepD m (l.getD i default) v
  | [], _, i, _, hi => by simp at hi
  | x :: r, vs, i, h, hi => by
    simp only [RepL] at h
    obtain ⟨v, vr, rfl, h1, h2⟩ := h
    cases i with
    | zero => exact ⟨v, rfl, by simpa using h1⟩
    | succ i =>
      obtain ⟨u, h3, h4⟩ := repL_get h2 (by simpa using hi)
      exact ⟨u, by simpa using h3, by simpa using h4⟩

theorem repP_get {m : Mem} {ρ : Ren} : ∀ {l : List PV} {vs : List Value} {i : Nat}, RepP m ρ l vs → i < l.length → ∃ v, vs[i]? = some v ∧ Rep m ρ (l.getD i .junk) v
  | [], _, i, _, hi => by simp at hi
  | x :: r, vs, i, h, hi => by
    simp only [RepP] at h
    obtain ⟨v, vr, rfl, h1, h2⟩ := h
    cases i with
    | zero => exact ⟨v, rfl, by simpa using h1⟩
    | succ i =>
      obtain ⟨u, h3, h4⟩ := repP_get h2 (by simpa using hi)
      exact ⟨u, by simpa using h3, by simpa using h4⟩

theorem repL_len {m : Mem} : ∀ {l : List D} {vs : List Value}, RepL m l vs → vs.length = l.length
  | [], _, h => by simp only [RepL] at h; simp [h]
  | x :: r, vs, h => by
    simp only [RepL] at h
    obtain ⟨v, vr, rfl, h1, h2⟩ := h
    simp [repL_len h2]

theorem repP_len {m : Mem} {ρ : Ren} : ∀ {l : List PV} {vs : List Value}, RepP m ρ l vs → vs.length = l.length
  | [], _, h => by simp only [RepP] at h; simp [h]
  | x :: r, vs, h => by
    simp only [RepP] at h
    obtain ⟨v, vr, rfl, h1, h2⟩ := h
    simp [repP_len h2]

theorem extract_sound {o : Oper} {S : Nat → PV} {x : Operand} {i : Nat} (ho : o.op = .extract x i) (h : (extractP (evP S x) i).2) : PureRun P o S (extractP (evP S x) i).1 := by
  refine PureRun.still fun m ρ a w _ hx => ?_
  have h1 := hx x (by simp [ho, Op.operands])
  obtain ⟨dst, op', type, pos, after, guard⟩ := o
  simp only at ho
  subst ho
  simp only [execOp]
  generalize evP S x = p at *
  unfold extractP at h ⊢
  split at h
  · simp only [Rep, RepD] at h1
    obtain ⟨vs, e, hl⟩ := h1
    obtain ⟨v, h3, h4⟩ := repL_get hl h
    refine ⟨v, ?_, by simpa [Rep] using h4⟩
    rw [e]
    simp [Instr.extract, h3]
  · simp only [Rep] at h1
    obtain ⟨vs, e, hl⟩ := h1
    obtain ⟨v, h3, h4⟩ := repP_get hl h
    refine ⟨v, ?_, h4⟩
    rw [e]
    simp [Instr.extract, h3]
  · exact h.elim
end Go.Proofs.Ytonlehebfeilmaa.K
