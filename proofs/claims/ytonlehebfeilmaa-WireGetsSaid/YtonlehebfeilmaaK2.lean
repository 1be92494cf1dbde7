/- Slots, owned blocks, and one operation's law, stated with what it touches. -/
import Derived.Test.YtonlehebfeilmaaK1
namespace Go.Proofs.Ytonlehebfeilmaa.K
open Go Go.RowKit

/-- What a slot holds. -/
inductive PV where
  | d (x : D)
  | full (l : List D)
  | own (id : Nat) (l : List D)
  | vptr (id off : Nat)
  | clo (f : Nat) (l : List PV)
  | agg (l : List PV)
  | tuple (l : List PV)
  | cond (g : Bool) (p : PV)
  | junk
  deriving Inhabited

mutual
def Rep (m : Mem) (ρ : Ren) : PV → Value → Prop
  | .d x, v => RepD m x v
  | .full l, v => ∃ a : Option Addr, v = .slice a l.length l.length ∧ (l = [] ∨ ∃ b o, a = some ⟨b, o, none⟩ ∧ RepE m b l o)
  | .own id l, v => (∃ b c, ρ id = some (b, c) ∧ v = .slice (some ⟨b, 0, none⟩) l.length c ∧ l.length ≤ c ∧ RepE m b l 0) ∨ (l = [] ∧ ∃ a : Option Addr, v = .slice a 0 0)
  | .vptr id off, v => ∃ b c, ρ id = some (b, c) ∧ v = .pointer (some ⟨b, off, none⟩)
  | .clo f l, v => ∃ vs : List Value, v = .func (.func f) #[] ⟨vs⟩ ∧ RepP m ρ l vs
  | .agg l, v => ∃ vs : List Value, v = .agg ⟨vs⟩ ∧ RepP m ρ l vs ∧ ∀ u ∈ vs, u.oneCell' = true
  | .tuple l, v => ∃ vs : List Value, v = .tuple ⟨vs⟩ ∧ RepP m ρ l vs
  | .cond g p, v => (g = true → Rep m ρ p v) ∧ (g = false → v = undef)
  | .junk, _ => True
def RepP (m : Mem) (ρ : Ren) : List PV → List Value → Prop
  | [], vs => vs = []
  | x :: r, vs => ∃ v vr, vs = v :: vr ∧ Rep m ρ x v ∧ RepP m ρ r vr
end

def Ren.le (ρ ρ' : Ren) : Prop := ∀ i x, ρ i = some x → ρ' i = some x
theorem Ren.le_refl (ρ : Ren) : ρ.le ρ := fun _ _ h => h
theorem Ren.le_trans {a b c : Ren} (h : a.le b) (k : b.le c) : a.le c := fun i x e => k i x (h i x e)

mutual
theorem Rep.mono {m m' : Mem} {ρ ρ' : Ren} (h : m.le m') (k : ρ.le ρ') : ∀ (x : PV) (v : Value), Rep m ρ x v → Rep m' ρ' x v
  | .d x, v, e => by simp only [Rep] at e ⊢; exact e.mono h
  | .full l, v, e => by
    simp only [Rep] at e ⊢
    obtain ⟨a, e1, e2⟩ := e
    refine ⟨a, e1, e2.imp id ?_⟩
    rintro ⟨b, o, e3, e4⟩
    exact ⟨b, o, e3, e4.mono h⟩
  | .own id l, v, e => by
    simp only [Rep] at e ⊢
    rcases e with ⟨b, c, e1, e2, e0, e3⟩ | e
    · exact .inl ⟨b, c, k _ _ e1, e2, e0, e3.mono h⟩
    · exact .inr e
  | .vptr id off, v, e => by
    simp only [Rep] at e ⊢
    obtain ⟨b, c, e1, e2⟩ := e
    exact ⟨b, c, k _ _ e1, e2⟩
  | .clo f l, v, e => by
    simp only [Rep] at e ⊢
    obtain ⟨vs, e1, e2⟩ := e
    exact ⟨vs, e1, RepP.mono h k l vs e2⟩
  | .agg l, v, e => by
    simp only [Rep] at e ⊢
    obtain ⟨vs, e1, e2, e3⟩ := e
    exact ⟨vs, e1, RepP.mono h k l vs e2, e3⟩
  | .tuple l, v, e => by
    simp only [Rep] at e ⊢
    obtain ⟨vs, e1, e2⟩ := e
    exact ⟨vs, e1, RepP.mono h k l vs e2⟩
  | .cond g p, v, e => by
    simp only [Rep] at e ⊢
    exact ⟨fun hg => Rep.mono h k p v (e.1 hg), e.2⟩
  | .junk, v, e => by simp [Rep]
theorem RepP.mono {m m' : Mem} {ρ ρ' : Ren} (h : m.le m') (k : ρ.le ρ') : ∀ (l : List PV) (vs : List Value), RepP m ρ l vs → RepP m' ρ' l vs
  | [], vs, e => by simpa [RepP] using e
  | x :: r, vs, e => by
    simp only [RepP] at e ⊢
    obtain ⟨v, vr, e1, e2, e3⟩ := e
    exact ⟨v, vr, e1, Rep.mono h k x v e2, RepP.mono h k r vr e3⟩
end

mutual
def PV.toD : PV → Option D
  | .d x => some x
  | .full l => some (.slice l)
  | .own _ l => some (.slice l)
  | .vptr .. => none
  | .clo f l => (PV.toDs l).map (.clo f)
  | .agg l => (PV.toDs l).map .agg
  | .tuple l => (PV.toDs l).map .tuple
  | .cond .. => none
  | .junk => none
def PV.toDs : List PV → Option (List D)
  | [] => some []
  | x :: r => match PV.toD x with | some y => (PV.toDs r).map (y :: ·) | none => none
end

mutual
theorem Rep.toD {m : Mem} {ρ : Ren} : ∀ (p : PV) (x : D) (v : Value), p.toD = some x → Rep m ρ p v → RepD m x v
  | .d x, y, v, h, e => by simp only [PV.toD, Option.some.injEq] at h; subst h; simpa [Rep] using e
  | .full l, y, v, h, e => by
    simp only [PV.toD, Option.some.injEq] at h; subst h
    simp only [Rep, RepD] at e ⊢
    obtain ⟨a, e1, e2⟩ := e
    exact ⟨a, _, e1, Nat.le_refl _, e2⟩
  | .own id l, y, v, h, e => by
    simp only [PV.toD, Option.some.injEq] at h; subst h
    simp only [Rep, RepD] at e ⊢
    rcases e with ⟨b, c, _, e2, e0, e3⟩ | ⟨rfl, a, e2⟩
    · exact ⟨_, c, e2, e0, .inr ⟨b, 0, rfl, e3⟩⟩
    · exact ⟨a, 0, e2, Nat.le_refl _, .inl rfl⟩
  | .vptr .., y, v, h, e => by simp [PV.toD] at h
  | .clo f l, y, v, h, e => by
    simp only [PV.toD, Option.map_eq_some_iff] at h
    obtain ⟨z, h1, rfl⟩ := h
    simp only [Rep, RepD] at e ⊢
    obtain ⟨vs, e1, e2⟩ := e
    exact ⟨vs, e1, RepP.toDs l z vs h1 e2⟩
  | .agg l, y, v, h, e => by
    simp only [PV.toD, Option.map_eq_some_iff] at h
    obtain ⟨z, h1, rfl⟩ := h
    simp only [Rep, RepD] at e ⊢
    obtain ⟨vs, e1, e2, e3⟩ := e
    exact ⟨vs, e1, RepP.toDs l z vs h1 e2, e3⟩
  | .tuple l, y, v, h, e => by
    simp only [PV.toD, Option.map_eq_some_iff] at h
    obtain ⟨z, h1, rfl⟩ := h
    simp only [Rep, RepD] at e ⊢
    obtain ⟨vs, e1, e2⟩ := e
    exact ⟨vs, e1, RepP.toDs l z vs h1 e2⟩
  | .cond .., y, v, h, e => by simp [PV.toD] at h
  | .junk, y, v, h, e => by simp [PV.toD] at h
theorem RepP.toDs {m : Mem} {ρ : Ren} : ∀ (l : List PV) (z : List D) (vs : List Value), PV.toDs l = some z → RepP m ρ l vs → RepL m z vs
  | [], z, vs, h, e => by
    simp only [PV.toDs, Option.some.injEq] at h; subst h; simpa [RepP, RepL] using e
  | p :: r, z, vs, h, e => by
    simp only [PV.toDs] at h
    cases hp : PV.toD p with
    | none => simp [hp] at h
    | some y =>
      simp only [hp, Option.map_eq_some_iff] at h
      obtain ⟨zr, h1, rfl⟩ := h
      simp only [RepP, RepL] at e ⊢
      obtain ⟨v, vr, e1, e2, e3⟩ := e
      exact ⟨v, vr, e1, Rep.toD p y v hp e2, RepP.toDs r zr vr h1 e3⟩
end

/-- An owned block: a variable's cells; or the room behind the n elements of a row, each of sz cells. -/
inductive HO where
  | var (l : List PV)
  | spare (sz n : Nat)

abbrev HM := Nat → Option HO

def MemOK (m : Mem) (w : World) : Prop := ∀ b o v, m b o = some v → w.cell? ⟨b, o, none⟩ = some v ∧ v.oneCell' = true

theorem MemOK.lt {m : Mem} {w : World} (h : MemOK m w) {b o : Nat} {v : Value} (e : m b o = some v) : b < w.heap.size :=
  block_lt_of_cell (h b o v e).1

def EntryOK (m : Mem) (ρ : Ren) (w : World) (i : Nat) : HO → Prop
  | .var l => ∃ b c vs t, ρ i = some (b, c) ∧ w.heap[b]? = some (.cells ⟨vs⟩ t (0, 0)) ∧ RepP m ρ l vs ∧ (∀ u ∈ vs, u.oneCell' = true) ∧ ∀ o, m b o = none
  | .spare sz n => (n = 0 ∧ ρ i = none) ∨ ∃ b c vs t fr, ρ i = some (b, c) ∧ w.heap[b]? = some (.cells vs t fr) ∧ vs.size = c * sz ∧ n ≤ c ∧ c ≤ maxLen ∧ vs.size ≤ fr.1 + (if fr = (0, 0) then vs.size else 0) ∧ ∀ o, n * sz ≤ o → m b o = none

def HO.live : Option HO → Prop
  | some _ => True
  | none => False

/-- The owned blocks whose numbers meet T are as H says, each in a block of its own. -/
structure ValidOn (T : Nat → Prop) (m : Mem) (ρ : Ren) (w : World) (H : HM) : Prop where
  mem : MemOK m w
  entry : ∀ i o, T i → H i = some o → EntryOK m ρ w i o
  apart : ∀ i j b c c', T i → T j → H i ≠ none → H j ≠ none → ρ i = some (b, c) → ρ j = some (b, c') → i = j

/-- From one world to another: only blocks of FB, and new ones, have turned. -/
structure Ext (FB : Nat → Prop) (m : Mem) (w : World) (m' : Mem) (w' : World) : Prop where
  mem : m.le m'
  size : w.heap.size ≤ w'.heap.size
  block : ∀ b, b < w.heap.size → ¬ FB b → w'.heap[b]? = w.heap[b]?
  os : w'.os = w.os
  tape : w'.tape = w.tape
  output : w'.output = w.output
  new : ∀ b o v, m' b o = some v → m b o = some v ∨ FB b ∨ w.heap.size ≤ b

theorem Ext.refl (FB : Nat → Prop) (m : Mem) (w : World) : Ext FB m w m w :=
  ⟨Mem.le_refl _, Nat.le_refl _, fun _ _ _ => rfl, rfl, rfl, rfl, fun _ _ _ h => .inl h⟩

theorem Ext.trans {FB FB' : Nat → Prop} {m m1 m2 : Mem} {w w1 w2 : World} (h : Ext FB m w m1 w1) (k : Ext FB' m1 w1 m2 w2)
    (hf : ∀ b, FB' b → FB b ∨ w.heap.size ≤ b) : Ext FB m w m2 w2 := by
  refine ⟨Mem.le_trans h.mem k.mem, Nat.le_trans h.size k.size, fun b hb hn => ?_, k.os.trans h.os, k.tape.trans h.tape, k.output.trans h.output, fun b o v e => ?_⟩
  · rw [k.block b (Nat.lt_of_lt_of_le hb h.size) (fun f => (hf b f).elim hn (by omega)), h.block b hb hn]
  · rcases k.new b o v e with e1 | e1 | e1
    · exact h.new b o v e1
    · exact (hf b e1).elim (fun x => .inr (.inl x)) (fun x => .inr (.inr x))
    · exact .inr (.inr (Nat.le_trans h.size e1))

theorem Ext.mono {FB FB' : Nat → Prop} {m m1 : Mem} {w w1 : World} (h : Ext FB m w m1 w1) (hf : ∀ b, FB b → FB' b) : Ext FB' m w m1 w1 :=
  ⟨h.mem, h.size, fun b hb hn => h.block b hb (fun f => hn (hf b f)), h.os, h.tape, h.output, fun b o v e => (h.new b o v e).imp id (.imp (hf b) id)⟩

/-- The blocks of the live numbers of T. -/
def Blk (ρ : Ren) (H : HM) (T : Nat → Prop) (b : Nat) : Prop := ∃ i c, T i ∧ H i ≠ none ∧ ρ i = some (b, c)

structure St where
  S : Nat → PV
  H : HM
  nx : Nat
  df : List (Nat × List PV)

def cellV : Value → PV
  | .slice none 0 0 => .full []
  | v => .d (.val v)

def ofVal : Value → PV
  | .slice none 0 0 => .full []
  | .agg vs => if vs.toList.all Value.oneCell' then .agg (vs.toList.map cellV) else .junk
  | v => .d (.val v)

def evP (S : Nat → PV) : Operand → PV
  | .tmp t => S t
  | .const v => ofVal v
  | .global _ => .junk
  | .func f => .d (.clo f [])

def putS (S : Nat → PV) (dst : Option Tmp) (v : PV) : Nat → PV :=
  match dst with
  | some d => fun t => if t = d then v else S t
  | none => S

theorem rep_cellV (m : Mem) (ρ : Ren) (v : Value) : Rep m ρ (cellV v) v := by
  unfold cellV
  split
  · simp [Rep]
  · simp [Rep, RepD]

theorem repP_map_cellV (m : Mem) (ρ : Ren) : ∀ vs : List Value, RepP m ρ (vs.map cellV) vs
  | [] => by simp [RepP]
  | v :: r => by simp only [List.map_cons, RepP]; exact ⟨v, r, rfl, rep_cellV m ρ v, repP_map_cellV m ρ r⟩

theorem rep_ofVal (m : Mem) (ρ : Ren) (v : Value) : Rep m ρ (ofVal v) v := by
  unfold ofVal
  split
  · simp [Rep]
  · rename_i vs
    split
    · rename_i h
      simp only [Rep]
      exact ⟨vs.toList, rfl, repP_map_cellV m ρ _, fun u hu => List.all_eq_true.1 h u hu⟩
    · simp [Rep]
  · simp [Rep, RepD]

/-- What holds behind an operation (or a call) that touches T, writes W of it, and takes the numbers from nx on. -/
structure Done (T : Nat → Prop) (nx nx' : Nat) (m : Mem) (ρ : Ren) (w : World) (H : HM) (m' : Mem) (ρ' : Ren) (w' : World) (H' : HM) : Prop where
  ext : Ext (Blk ρ H T) m w m' w'
  ren : ρ.le ρ'
  fresh : ∀ i, ρ' i = ρ i ∨ (nx ≤ i ∧ i < nx')
  valid : ValidOn (fun i => T i ∨ (nx ≤ i ∧ i < nx')) m' ρ' w' H'
  place : ∀ b, Blk ρ' H' (fun i => T i ∨ (nx ≤ i ∧ i < nx')) b → Blk ρ H T b ∨ w.heap.size ≤ b

/-- One operation's law. -/
structure OpSem (P : Program) (o : Oper) (s : St) (v : PV) (H' : HM) (nx' : Nat) (T W : List Nat) : Prop where
  le : s.nx ≤ nx'
  keep : ∀ i, i ∉ W → i < s.nx → H' i = s.H i
  nil : ∀ i, nx' ≤ i → H' i = none
  sub : ∀ i ∈ W, i ∈ T
  old : ∀ i ∈ T, i < s.nx
  sem : ∀ (m : Mem) (ρ : Ren) (a : Act) (w : World) (K : Act → World → Prop) (Q : Exit → Act → World → Prop), ValidOn (· ∈ T) m ρ w s.H → (∀ i, s.nx ≤ i → i < nx' → ρ i = none) →
    (∀ x ∈ o.op.operands, Rep m ρ (evP s.S x) (a.eval x)) →
    (∀ u m' ρ' w', Done (· ∈ T) s.nx nx' m ρ w s.H m' ρ' w' H' → Rep m' ρ' v u → K (a.put o.dst u) w') → o.wp P a w K Q

/-- The test that an operation waits for. -/
def guardP (ops : Array Oper) (o : Oper) (S : Nat → PV) : Option Bool :=
  match o.guard with
  | none => none
  | some (j, want) =>
    match (ops[j]?).bind (·.dst) with
    | some t => match S t with
      | .d (.val (.bool b)) => some (b == want)
      | .cond g (.d (.val (.bool b))) => some (g && (b == want))
      | _ => none
    | none => none

/-- Entries of a region's record: what is touched, what is written, the numbers taken. -/
structure Rec where
  T : List Nat
  W : List Nat
  lo : Nat
  hi : Nat

inductive StepOp (P : Program) (ops : Array Oper) (o : Oper) (s : St) : PV → HM → Rec → Prop where
  | run {v : PV} {H' : HM} {nx' : Nat} {T W : List Nat} (h : o.guard = none) (hs : OpSem P o s v H' nx' T W) : StepOp P ops o s v H' ⟨T, W, s.nx, nx'⟩
  | gd {v : PV} {g : Bool} {T : List Nat} (h : guardP ops o s.S = some g) (old : ∀ i ∈ T, i < s.nx)
      (hs : g = true → ∃ S' : Nat → PV, (∀ x ∈ o.op.operands, ∀ m ρ u, Rep m ρ (evP s.S x) u → Rep m ρ (evP S' x) u) ∧ OpSem P o ⟨S', s.H, s.nx, s.df⟩ v s.H s.nx T []) :
      StepOp P ops o s (.cond g v) s.H ⟨T, [], s.nx, s.nx⟩
end Go.Proofs.Ytonlehebfeilmaa.K
