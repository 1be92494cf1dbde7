/- Conversions, lengths, the lesser and the greater, function values, interfaces, new structs and new rows. -/
import Derived.Test.YtonlehebfeilmaaK9
namespace Go.Proofs.Ytonlehebfeilmaa.K
open Go Go.RowKit

variable {P : Program}

def nilOf : PV → Bool
  | .d (.val (.pointer none)) => true
  | .d (.val .nilIface) => true
  | .d (.val .nilFunc) => true
  | _ => false

def noNil : PV → Bool
  | .d (.cptr _) => true
  | .d (.clo _ _) => true
  | .clo _ _ => true
  | .vptr _ _ => true
  | .d (.iface _ _) => true
  | _ => false

theorem nilCheck_sound {o : Oper} {S : Nat → PV} {x : Operand} (ho : o.op = .nilCheck x) (h : noNil (evP S x) = true) : PureRun P o S (evP S x) := by
  refine PureRun.still fun m ρ a w hm hx => ?_
  have h1 := hx x (by simp [ho, Op.operands])
  obtain ⟨dst, op', type, pos, after, guard⟩ := o
  simp only at ho
  subst ho
  refine ⟨a.eval x, ?_, h1⟩
  generalize evP S x = p at *
  cases p with
  | d y =>
    cases y with
    | cptr l => simp only [Rep, RepD] at h1; obtain ⟨b, o', e, _⟩ := h1; simp [execOp, e]
    | clo f l => simp only [Rep, RepD] at h1; obtain ⟨vs, e, _⟩ := h1; simp [execOp, e]
    | iface t y => simp only [Rep, RepD] at h1; obtain ⟨vs, e, _⟩ := h1; simp [execOp, e]
    | _ => simp [noNil] at h
  | clo f l => simp only [Rep] at h1; obtain ⟨vs, e, _⟩ := h1; simp [execOp, e]
  | vptr id off => simp only [Rep] at h1; obtain ⟨b, c, _, e⟩ := h1; simp [execOp, e]
  | _ => simp [noNil] at h

/-! ### Conversions -/

theorem conv_int {o : Oper} {S : Nat → PV} {t u : TypeId} {x : Operand} (ho : o.op = .convert t u x) {d : TypeDesc} (ht : P.underlying t = some d) {k k' : IntKind} {n : Int} (hu : P.underlying u = some (.int k)) (hp : evP S x = .d (.val (.int k' n))) :
    PureRun P o S (.d (.val (.int k (k.wrap n)))) := by
  refine PureRun.still fun m ρ a w hm hx => ?_
  have h1 := hx x (by simp [ho, Op.operands])
  obtain ⟨dst, op', type, pos, after, guard⟩ := o
  simp only at ho
  subst ho
  rw [hp] at h1
  simp only [Rep, RepD] at h1
  exact ⟨.int k (k.wrap n), by simp [execOp, convert, run_underlying ht, run_underlying hu, h1, Conv.intToInt], by simp [Rep, RepD]⟩

theorem conv_str {o : Oper} {S : Nat → PV} {t u : TypeId} {x : Operand} (ho : o.op = .convert t u x) {d : TypeDesc} (ht : P.underlying t = some d) {s : ByteArray} (hu : P.underlying u = some .string) (hp : evP S x = .d (.val (.string s))) :
    PureRun P o S (.d (.val (.string s))) := by
  refine PureRun.still fun m ρ a w hm hx => ?_
  have h1 := hx x (by simp [ho, Op.operands])
  obtain ⟨dst, op', type, pos, after, guard⟩ := o
  simp only at ho
  subst ho
  rw [hp] at h1
  simp only [Rep, RepD] at h1
  exact ⟨.string s, by simp [execOp, convert, run_underlying ht, run_underlying hu, h1], by simp [Rep, RepD]⟩

theorem foldl_push (l : List UInt8) : ∀ s : ByteArray, (l.foldl (fun r b => r.push b) s).data.toList = s.data.toList ++ l := by
  induction l with
  | nil => intro s; simp
  | cons b l ih =>
    intro s
    simp only [List.foldl_cons]
    rw [ih]
    simp [ByteArray.push]

theorem bytes_ext {a b : ByteArray} (h : a.data.toList = b.data.toList) : a = b := by
  cases a; cases b
  simp only [ByteArray.mk.injEq]
  exact Array.ext' h

theorem repL_bytes {m : Mem} : ∀ {bs : List UInt8} {vs : List Value}, RepL m (bs.map byteD) vs → vs = bs.map fun b => .int .u8 b.toNat
  | [], vs, h => by simpa [RepL] using h
  | b :: r, vs, h => by
    simp only [List.map_cons, RepL, byteD, RepD] at h
    obtain ⟨v, vr, rfl, h1, h2⟩ := h
    have h3 := repL_bytes (bs := r) h2
    rw [h1, h3]
    simp

theorem flat_byteD (b : UInt8) : (byteD b).flat = true := rfl
theorem flatMap_byteD : ∀ bs : List UInt8, (bs.map byteD).flatMap D.cells = bs.map byteD
  | [] => rfl
  | b :: r => by simp only [List.map_cons, List.flatMap_cons, flatMap_byteD r]; rfl

theorem conv_bytes {o : Oper} {S : Nat → PV} {t u e : TypeId} {x : Operand} (ho : o.op = .convert t u x) (ht : P.underlying t = some (.slice e)) (he : P.underlying e = some (.int .u8)) (hu : P.underlying u = some .string) {bs : List UInt8}
    (hp : (evP S x).elems = some (bs.map byteD)) : PureRun P o S (.d (.val (.string ⟨bs.toArray⟩))) := by
  refine PureRun.still fun m ρ a w hm hx => ?_
  have h1 := hx x (by simp [ho, Op.operands])
  obtain ⟨dst, op', type, pos, after, guard⟩ := o
  simp only at ho
  subst ho
  obtain ⟨ad, c, ev, _, hrep⟩ := elems_rep hp h1
  refine ⟨.string ⟨bs.toArray⟩, ?_, by simp [Rep, RepD]⟩
  have hrun : (Conv.bytesToString (a.eval x)).run P w = .ok (.string ⟨bs.toArray⟩) w := by
    rw [ev]
    cases ad with
    | none =>
      have : bs = [] := by
        rcases hrep with h | ⟨b, o', h, _⟩
        · simpa using h
        · cases h
      subst this
      simp [Conv.bytesToString]
      rfl
    | some ad =>
      obtain ⟨vs, hl, hv, hcell⟩ : ∃ vs : List Value, vs.length = bs.length ∧ vs = bs.map (fun b => .int .u8 b.toNat) ∧ ∀ j v, vs[j]? = some v → w.cell? (ad.add j) = some v := by
        rcases hrep with h | ⟨b, o', h, hE⟩
        · have : bs = [] := by simpa using h
          subst this
          exact ⟨[], rfl, rfl, by simp⟩
        · cases h
          obtain ⟨vs, e1, e2, e3⟩ := repE_vals hE
          rw [flatMap_byteD] at e2
          refine ⟨vs, by rw [repL_len e2]; simp, repL_bytes e2, (memOK_cells hm e3).1⟩
      have hlc := run_loadCells_list (P := P) w ad vs hcell
      rw [hl, hv] at hlc
      have := run_bytesToString (P := P) w ad bs.length c (bs.map fun b => (b.toNat : Int)) (by rw [hlc]; simp [List.map_map, Function.comp_def])
      simp only [List.length_map] at this ⊢
      rw [this]
      congr 2
      apply bytes_ext
      have e : ∀ (l : List UInt8) (s : ByteArray), (l.map fun b => (b.toNat : Int)).foldl (fun r n => r.push (UInt8.ofNat n.toNat)) s = l.foldl (fun r b => r.push b) s := by
        intro l
        induction l with
        | nil => intro s; rfl
        | cons b l ih =>
          intro s
          simp only [List.map_cons, List.foldl_cons, Int.toNat_natCast, UInt8.ofNat_toNat]
          exact ih _
      rw [e, foldl_push]
      simp [ByteArray.empty, ByteArray.emptyWithCapacity]
      rfl
  simp [execOp, convert, run_underlying ht, run_underlying hu, run_underlying he, ev]
  rw [ev] at hrun
  simp only [List.length_map] at hrun
  simp [hrun]

/-! ### Builtins that only look -/

def lenP (p : PV) : PV × Prop :=
  match p with
  | .d (.val (.string s)) => (.d (.val (.int .i64 s.size)), True)
  | p => match p.elems with
    | some l => (.d (.val (.int .i64 l.length)), True)
    | none => (.junk, False)

theorem len_string {o : Oper} {S : Nat → PV} {x : Operand} {t : TypeId} (ho : o.op = .call { callee := .builtin .len, args := #[x], argTypes := #[t] }) (ht : P.underlying t = some .string) {s : ByteArray} (hp : evP S x = .d (.val (.string s))) :
    PureRun P o S (.d (.val (.int .i64 s.size))) := by
  refine PureRun.still fun m ρ a w hm hx => ?_
  have h1 := hx x (by simp [ho, Op.operands, Call.operands])
  obtain ⟨dst, op', type, pos, after, guard⟩ := o
  simp only at ho
  subst ho
  rw [hp] at h1
  simp only [Rep, RepD] at h1
  exact ⟨.int .i64 s.size, by simp [execOp, resolve, invoke, builtin, Builtin.len_, run_underlying ht, h1, goInt], by simp [Rep, RepD]⟩

theorem len_row {o : Oper} {S : Nat → PV} {x : Operand} {t e : TypeId} (ho : o.op = .call { callee := .builtin .len, args := #[x], argTypes := #[t] }) (ht : P.underlying t = some (.slice e)) {l : List D} (hp : (evP S x).elems = some l) :
    PureRun P o S (.d (.val (.int .i64 l.length))) := by
  refine PureRun.still fun m ρ a w hm hx => ?_
  have h1 := hx x (by simp [ho, Op.operands, Call.operands])
  obtain ⟨dst, op', type, pos, after, guard⟩ := o
  simp only at ho
  subst ho
  obtain ⟨ad, c, ev, _, _⟩ := elems_rep hp h1
  exact ⟨.int .i64 l.length, by simp [execOp, resolve, invoke, builtin, Builtin.len_, run_underlying ht, ev, goInt], by simp [Rep, RepD]⟩

theorem len_array {o : Oper} {S : Nat → PV} {x : Operand} {t e : TypeId} {n : Nat} (ho : o.op = .call { callee := .builtin .len, args := #[x], argTypes := #[t] }) (ht : P.underlying t = some (.array n e)) :
    PureRun P o S (.d (.val (.int .i64 n))) := by
  refine PureRun.still fun m ρ a w hm hx => ?_
  obtain ⟨dst, op', type, pos, after, guard⟩ := o
  simp only at ho
  subst ho
  refine ⟨.int .i64 n, ?_, by simp [Rep, RepD]⟩
  simp only [execOp, resolve, invoke, builtin, Builtin.len_, Sem.run_bind, Sem.run_pure, Result.andThen_ok, List.map_toArray, List.map_cons, List.map_nil, run_underlying ht, goInt, List.getElem?_toArray, List.getElem?_cons_zero]

theorem len_parray {o : Oper} {S : Nat → PV} {x : Operand} {t u e : TypeId} {n : Nat} (ho : o.op = .call { callee := .builtin .len, args := #[x], argTypes := #[t] }) (ht : P.underlying t = some (.pointer u)) (hu : P.underlying u = some (.array n e)) :
    PureRun P o S (.d (.val (.int .i64 n))) := by
  refine PureRun.still fun m ρ a w hm hx => ?_
  obtain ⟨dst, op', type, pos, after, guard⟩ := o
  simp only at ho
  subst ho
  refine ⟨.int .i64 n, ?_, by simp [Rep, RepD]⟩
  simp only [execOp, resolve, invoke, builtin, Builtin.len_, Sem.run_bind, Sem.run_pure, Result.andThen_ok, List.map_toArray, List.map_cons, List.map_nil, run_underlying ht, goInt, List.getElem?_toArray, List.getElem?_cons_zero]
  cases a.eval x <;> simp [run_underlying hu]

theorem min_int {o : Oper} {S : Nat → PV} {x y : Operand} {ts : Array TypeId} (ho : o.op = .call { callee := .builtin .min, args := #[x, y], argTypes := ts }) {k k' : IntKind} {i j : Int}
    (hp : evP S x = .d (.val (.int k i))) (hq : evP S y = .d (.val (.int k' j))) : PureRun P o S (.d (.val (.int k (if j < i then j else i)))) := by
  refine PureRun.still fun m ρ a w hm hx => ?_
  have h1 := hx x (by simp [ho, Op.operands, Call.operands])
  have h2 := hx y (by simp [ho, Op.operands, Call.operands])
  obtain ⟨dst, op', type, pos, after, guard⟩ := o
  simp only at ho
  subst ho
  rw [hp] at h1
  rw [hq] at h2
  simp only [Rep, RepD] at h1 h2
  exact ⟨_, by simp [execOp, resolve, invoke, builtin, Builtin.min_, Builtin.min2, h1, h2]; rfl, by simp [Rep, RepD]⟩

theorem max_int {o : Oper} {S : Nat → PV} {x y : Operand} {ts : Array TypeId} (ho : o.op = .call { callee := .builtin .max, args := #[x, y], argTypes := ts }) {k k' : IntKind} {i j : Int}
    (hp : evP S x = .d (.val (.int k i))) (hq : evP S y = .d (.val (.int k' j))) : PureRun P o S (.d (.val (.int k (if j > i then j else i)))) := by
  refine PureRun.still fun m ρ a w hm hx => ?_
  have h1 := hx x (by simp [ho, Op.operands, Call.operands])
  have h2 := hx y (by simp [ho, Op.operands, Call.operands])
  obtain ⟨dst, op', type, pos, after, guard⟩ := o
  simp only at ho
  subst ho
  rw [hp] at h1
  rw [hq] at h2
  simp only [Rep, RepD] at h1 h2
  exact ⟨_, by simp [execOp, resolve, invoke, builtin, Builtin.max_, Builtin.max2, h1, h2]; rfl, by simp [Rep, RepD]⟩

/-! ### Function values, interfaces -/

def cloP (f : Nat) (l : List PV) : PV :=
  match PV.toDs l with
  | some ds => .d (.clo f ds)
  | none => .clo f l

theorem makeFunc_sound {o : Oper} {S : Nat → PV} {f : Nat} {caps : Array Operand} (ho : o.op = .makeFunc (.func f) #[] caps) : PureRun P o S (cloP f (caps.toList.map (evP S))) := by
  refine PureRun.still fun m ρ a w hm hx => ?_
  have h1 : ∀ x ∈ caps.toList, Rep m ρ (evP S x) (a.eval x) := fun x hx' => hx x (by simp [ho, Op.operands]; simpa using hx')
  obtain ⟨dst, op', type, pos, after, guard⟩ := o
  simp only at ho
  subst ho
  have hr : RepP m ρ (caps.toList.map (evP S)) (caps.toList.map a.eval) := by
    have : ∀ (l : List Operand), (∀ x ∈ l, Rep m ρ (evP S x) (a.eval x)) → RepP m ρ (l.map (evP S)) (l.map a.eval) := by
      intro l
      induction l with
      | nil => intro _; simp [RepP]
      | cons x r ih => intro h; simp only [List.map_cons, RepP]; exact ⟨_, _, rfl, h x (List.mem_cons_self ..), ih fun y hy => h y (List.mem_cons_of_mem _ hy)⟩
    exact this _ h1
  refine ⟨.func (.func f) #[] ⟨caps.toList.map a.eval⟩, ?_, ?_⟩
  · simp [execOp, Instr.makeFunc]
    apply Array.ext'
    simp
  · unfold cloP
    split
    · rename_i ds hds
      simp only [Rep, RepD]
      exact ⟨_, rfl, RepP.toDs _ _ _ hds hr⟩
    · simp only [Rep]
      exact ⟨_, rfl, hr⟩

theorem makeInterface_sound {o : Oper} {S : Nat → PV} {t : TypeId} {x : Operand} (ho : o.op = .makeInterface t x) {d : TypeDesc} (ht : P.underlying t = some d) (hd : (match d with | .interface _ => false | _ => true) = true) {y : D} (hp : (evP S x).toD = some y) :
    PureRun P o S (.d (.iface t y)) := by
  refine PureRun.still fun m ρ a w hm hx => ?_
  have h1 := hx x (by simp [ho, Op.operands])
  obtain ⟨dst, op', type, pos, after, guard⟩ := o
  simp only at ho
  subst ho
  refine ⟨.iface t (a.eval x), ?_, ?_⟩
  · simp only [execOp, Instr.makeInterface, Sem.run_bind, run_underlying ht, Result.andThen_ok]
    cases d <;> simp_all
  · simp only [Rep, RepD]
    exact ⟨_, rfl, Rep.toD _ _ _ hp h1⟩

theorem toArray_sound {o : Oper} {S : Nat → PV} {t : TypeId} {x : Operand} (ho : o.op = .sliceToArrayPointer t x) {n : Nat} {ag : Bool} (ha : arrA P t = some (n, 1, ag)) {l : List D} (hp : (evP S x).elems = some l) (hn : n ≤ l.length) (h0 : l ≠ []) (hf : ∀ x ∈ l, x.flat = true) :
    PureRun P o S (.d (.cptr l)) := by
  refine PureRun.still fun m ρ a w hm hx => ?_
  have h1 := hx x (by simp [ho, Op.operands])
  obtain ⟨dst, op', type, pos, after, guard⟩ := o
  simp only at ho
  subst ho
  obtain ⟨ad, c, ev, _, hrep⟩ := elems_rep hp h1
  obtain ⟨b, o', rfl, hE⟩ := hrep.resolve_left h0
  obtain ⟨e, hu, ht⟩ := arrA_spec ha
  have hlt : ¬ l.length < n := by omega
  refine ⟨.pointer (some ⟨b, o', none⟩), by simp [execOp, Instr.arrayAt, run_underlying hu, ev, hlt], ?_⟩
  simp only [Rep, RepD]
  exact ⟨b, o', rfl, (repE_flat hf).1 hE⟩

/-! ### New structs and rows -/

def PV.cellsP : PV → List PV
  | .agg l => l
  | .d (.agg l) => l.map .d
  | x => [x]

/-- It is the value of one cell, or of a struct's or an array's. -/
def PV.solid : PV → Bool
  | .d (.val v) => v.oneCell'
  | .d (.tuple _) => false
  | .tuple _ => false
  | .cond _ _ => false
  | .junk => false
  | _ => true

theorem solid_cells {m : Mem} {ρ : Ren} {p : PV} {v : Value} (hs : p.solid = true) (h : Rep m ρ p v) : RepP m ρ p.cellsP v.cells.toList ∧ ∀ u ∈ v.cells.toList, u.oneCell' = true := by
  have one : ∀ {v : Value}, v.oneCell' = true → v.cells.toList = [v] := by intro v hv; cases v <;> simp_all [Value.oneCell', Value.cells]
  have fin : ∀ {q : PV}, Rep m ρ q v → v.oneCell' = true → q.cellsP = [q] → RepP m ρ q.cellsP v.cells.toList ∧ ∀ u ∈ v.cells.toList, u.oneCell' = true := by
    intro q hq hv hc
    rw [hc, one hv]
    refine ⟨by simp only [RepP]; exact ⟨v, [], rfl, hq, rfl⟩, ?_⟩
    intro u hu; simp at hu; subst hu; exact hv
  cases p with
  | d x =>
    cases x with
    | val z => exact fin h (by simp only [Rep, RepD] at h; subst h; simpa [PV.solid] using hs) rfl
    | agg l =>
      simp only [Rep, RepD] at h
      obtain ⟨vs, rfl, h1, h2⟩ := h
      exact ⟨by simpa [PV.cellsP, Value.cells] using repL_repP h1, by simpa [Value.cells] using h2⟩
    | slice l => exact fin h (by simp only [Rep, RepD] at h; obtain ⟨a, c, rfl, _⟩ := h; rfl) rfl
    | cptr l => exact fin h (by simp only [Rep, RepD] at h; obtain ⟨a, c, rfl, _⟩ := h; rfl) rfl
    | clo f l => exact fin h (by simp only [Rep, RepD] at h; obtain ⟨a, rfl, _⟩ := h; rfl) rfl
    | iface t y => exact fin h (by simp only [Rep, RepD] at h; obtain ⟨a, rfl, _⟩ := h; rfl) rfl
    | tuple l => simp [PV.solid] at hs
  | full l => exact fin h (by simp only [Rep] at h; obtain ⟨a, rfl, _⟩ := h; rfl) rfl
  | own id l => exact fin h (by simp only [Rep] at h; rcases h with ⟨b, c, _, rfl, _⟩ | ⟨_, a, rfl⟩ <;> rfl) rfl
  | vptr id off => exact fin h (by simp only [Rep] at h; obtain ⟨b, c, _, rfl⟩ := h; rfl) rfl
  | clo f l => exact fin h (by simp only [Rep] at h; obtain ⟨a, rfl, _⟩ := h; rfl) rfl
  | agg l =>
    simp only [Rep] at h
    obtain ⟨vs, rfl, h1, h2⟩ := h
    exact ⟨by simpa [PV.cellsP, Value.cells] using h1, by simpa [Value.cells] using h2⟩
  | tuple l => simp [PV.solid] at hs
  | cond g q => simp [PV.solid] at hs
  | junk => simp [PV.solid] at hs

def spl {α : Type} (l : List α) (off : Nat) (c : List α) : List α := l.take off ++ (c ++ l.drop (off + c.length))

theorem foldl_set_spl (c : List Value) : ∀ (k off : Nat) (l : List Value), off + k + c.length ≤ l.length →
    ((c.zipIdx k).foldl (fun cs (x : Value × Nat) => cs.setIfInBounds (off + x.2) x.1) (⟨l⟩ : Array Value)).toList = spl l (off + k) c := by
  induction c with
  | nil => intro k off l _; simp [spl]
  | cons v r ih =>
    intro k off l h
    simp only [List.length_cons] at h
    simp only [List.zipIdx_cons, List.foldl_cons, List.setIfInBounds_toArray]
    rw [ih (k + 1) off _ (by simp; omega)]
    unfold spl
    have e1 : (l.set (off + k) v).take (off + (k + 1)) = l.take (off + k) ++ [v] := by
      rw [show off + (k + 1) = (off + k) + 1 from by omega, List.take_succ_eq_append_getElem (by simp; omega), List.take_set, List.set_eq_of_length_le (by simp; omega)]
      simp
    have e2 : (l.set (off + k) v).drop (off + (k + 1) + r.length) = l.drop (off + k + (v :: r).length) := by
      rw [List.drop_set_of_lt (by omega)]
      simp only [List.length_cons]
      congr 1
      omega
    rw [e1, e2]
    simp

theorem fill_one {place : Nat → Option (Nat × Nat)} {cells : List Value} {i off size : Nat} {v : Value} {rest : List (Nat × Value)} (hp : place i = some (off, size)) (hs : v.cells.size = size) (hf : off + size ≤ cells.length) :
    Instr.fill place ⟨cells⟩ ((i, v) :: rest) = Instr.fill place ⟨spl cells off v.cells.toList⟩ rest := by
  have hn : ¬ (v.cells.size ≠ size ∨ off + v.cells.size > (⟨cells⟩ : Array Value).size) := by
    simp; omega
  simp only [Instr.fill, hp]
  rw [if_neg (by simpa using hn)]
  congr 1
  apply Array.ext'
  have := foldl_set_spl v.cells.toList 0 off cells (by simp; omega)
  simp only [Nat.add_zero] at this
  rw [← this]
  congr 1
  rw [← Array.foldl_toList]
  simp

theorem repP_spl {m : Mem} {ρ : Ren} {l : List PV} {vs : List Value} {c : List PV} {us : List Value} (off : Nat) (h : RepP m ρ l vs) (hc : RepP m ρ c us) : RepP m ρ (spl l off c) (spl vs off us) := by
  unfold spl
  rw [repP_len hc]
  exact repP_append (repP_take _ h) (repP_append hc (repP_drop _ h))

def fillP (place : Nat → Option (Nat × Nat)) : List PV → List (Nat × PV) → List PV × Prop
  | cells, [] => (cells, True)
  | cells, (i, p) :: r =>
    match place i with
    | some (off, size) => ((fillP place (spl cells off p.cellsP) r).1, (p.solid = true ∧ p.cellsP.length = size ∧ off + size ≤ cells.length) ∧ (fillP place (spl cells off p.cellsP) r).2)
    | none => ([], False)

theorem fillP_sound {m : Mem} {ρ : Ren} {place : Nat → Option (Nat × Nat)} {S : Nat → PV} {a : Act} : ∀ (parts : List (Nat × Operand)) (cells : List PV) (vs : List Value), RepP m ρ cells vs → (∀ u ∈ vs, u.oneCell' = true) →
    (∀ x ∈ parts, Rep m ρ (evP S x.2) (a.eval x.2)) → (fillP place cells (parts.map fun x => (x.1, evP S x.2))).2 →
      ∃ us, Instr.fill place ⟨vs⟩ (parts.map fun x => (x.1, a.eval x.2)) = some ⟨us⟩ ∧ RepP m ρ (fillP place cells (parts.map fun x => (x.1, evP S x.2))).1 us ∧ ∀ u ∈ us, u.oneCell' = true
  | [], cells, vs, h, h1, _, _ => ⟨vs, rfl, h, h1⟩
  | (i, x) :: r, cells, vs, h, h1, hx, hc => by
    simp only [List.map_cons, fillP] at hc ⊢
    cases hp : place i with
    | none => simp [hp] at hc
    | some os =>
      obtain ⟨off, size⟩ := os
      simp only [hp] at hc ⊢
      obtain ⟨⟨c1, c2, c3⟩, c4⟩ := hc
      obtain ⟨e1, e2⟩ := solid_cells c1 (hx (i, x) (List.mem_cons_self ..))
      have hl := repP_len e1
      have hl2 := repP_len h
      simp only [Array.length_toList] at hl
      rw [fill_one hp (by rw [hl]; exact c2) (by omega)]
      refine fillP_sound r _ _ (repP_spl off h e1) ?_ (fun y hy => hx y (List.mem_cons_of_mem _ hy)) c4
      intro u hu
      unfold spl at hu
      simp only [List.mem_append] at hu
      rcases hu with hu | hu | hu
      · exact h1 u (List.mem_of_mem_take hu)
      · exact e2 u hu
      · exact h1 u (List.mem_of_mem_drop hu)

/-- How a struct or an array is built: what it is at first, and where its parts lie. -/
def bldA (P : Program) (t : TypeId) : Option (List Value × (List (Nat × Nat) ⊕ Nat)) :=
  match P.info? t, P.underlying t with
  | some it, some (.array _ e) =>
    match it.zero, P.info? e with
    | some z, some ie => some (z.cells.toList, .inr ie.size)
    | _, _ => none
  | some it, some (.struct fields) =>
    match it.zero, fields.toList.mapM (fun f => (P.info? f.type).map fun i => (f.offset, i.size)) with
    | some z, some places => some (z.cells.toList, .inl places)
    | _, _ => none
  | _, _ => none

def placeOf : List (Nat × Nat) ⊕ Nat → Nat → Option (Nat × Nat)
  | .inl l, i => l[i]?
  | .inr n, i => some (i * n, n)

theorem built_eq {t : TypeId} {z : List Value} {pl : List (Nat × Nat) ⊕ Nat} (h : bldA P t = some (z, pl)) (parts : List (Nat × Value)) : P.built t parts = Instr.fill (placeOf pl) ⟨z⟩ parts := by
  unfold bldA at h
  unfold Program.built
  cases hi : P.info? t with
  | none => simp [hi] at h
  | some it =>
    cases hu : P.underlying t with
    | none => simp [hi, hu] at h
    | some d =>
      cases d with
      | array n e =>
        simp only [hi, hu] at h ⊢
        cases hz : it.zero with
        | none => simp [hz] at h
        | some zz =>
          cases hie : P.info? e with
          | none => simp [hz, hie] at h
          | some ie =>
            simp only [hz, hie, Option.some.injEq, Prod.mk.injEq] at h ⊢
            obtain ⟨rfl, rfl⟩ := h
            rfl
      | struct fields =>
        simp only [hi, hu] at h ⊢
        cases hz : it.zero with
        | none => simp [hz] at h
        | some zz =>
          cases hp : fields.toList.mapM (fun f => (P.info? f.type).map fun i => (f.offset, i.size)) with
          | none => simp [hz, hp] at h
          | some places =>
            simp only [hz, hp, Option.some.injEq, Prod.mk.injEq] at h ⊢
            obtain ⟨rfl, rfl⟩ := h
            simp
            rfl
      | _ => simp [hi, hu] at h

def buildP (b : Option (List Value × (List (Nat × Nat) ⊕ Nat))) (parts : List (Nat × PV)) : PV × Prop :=
  match b with
  | some (z, pl) => (.agg (fillP (placeOf pl) (z.map cellV) parts).1, (z.all Value.oneCell' = true) ∧ (fillP (placeOf pl) (z.map cellV) parts).2)
  | none => (.junk, False)

theorem build_sound {o : Oper} {S : Nat → PV} {t : TypeId} {parts : Array (Nat × Operand)} (ho : o.op = .build t parts) (h : (buildP (bldA P t) (parts.toList.map fun x => (x.1, evP S x.2))).2) :
    PureRun P o S (buildP (bldA P t) (parts.toList.map fun x => (x.1, evP S x.2))).1 := by
  refine PureRun.still fun m ρ a w hm hx => ?_
  have h1 : ∀ x ∈ parts.toList, Rep m ρ (evP S x.2) (a.eval x.2) := fun x hx' => hx x.2 (by
    simp only [ho, Op.operands]
    rw [Array.mem_def]
    exact List.mem_map.2 ⟨x, hx', rfl⟩)
  obtain ⟨dst, op', type, pos, after, guard⟩ := o
  simp only at ho
  subst ho
  cases hb : bldA P t with
  | none => simp [buildP, hb] at h
  | some zp =>
    obtain ⟨z, pl⟩ := zp
    simp only [buildP, hb] at h ⊢
    obtain ⟨us, e1, e2, e3⟩ := fillP_sound (place := placeOf pl) parts.toList (z.map cellV) z (repP_map_cellV m ρ z) (fun u hu => List.all_eq_true.1 h.1 u hu) h1 h.2
    refine ⟨.agg ⟨us⟩, ?_, by simp only [Rep]; exact ⟨us, rfl, e2, e3⟩⟩
    have := run_build (P := P) w t (parts.map fun x => (x.1, a.eval x.2)) ⟨us⟩ (by rw [built_eq hb]; simpa using e1)
    simp only [execOp]
    simp [this]
end Go.Proofs.Ytonlehebfeilmaa.K
