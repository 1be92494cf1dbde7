/- The reckoner: what a region's operations come to, as one condition. -/
import Derived.Test.YtonlehebfeilmaaK15
namespace Go.Proofs.Ytonlehebfeilmaa.K
open Go Go.RowKit

variable {P : Program}

/-! ### Equality -/

def eqlX (P : Program) (t : TypeId) (p q : PV) : Option Bool :=
  match P.underlying t, p, q with
  | some .bool, .d (.val (.bool a)), .d (.val (.bool b)) => some (a == b)
  | some (.pointer _), .d (.val (.pointer none)), .d (.val (.pointer none)) => some true
  | some (.pointer _), .d (.cptr _), .d (.val (.pointer none)) => some false
  | some (.pointer _), .d (.val (.pointer none)), .d (.cptr _) => some false
  | some (.pointer _), .vptr _ _, .d (.val (.pointer none)) => some false
  | some (.interface _), .d (.iface _ _), .d (.val .nilIface) => some false
  | _, _, _ => none

def eqOut (op : BinOp) (b : Bool) : Bool :=
  match op with
  | .eql => b
  | _ => !b

section
variable {t : TypeId} {w : World}
theorem eqBool (hu : P.underlying t = some .bool) (a b : Bool) : (Op.equal t (.bool a) (.bool b)).run P w = .ok (a == b) w := by
  have : ∀ n, (Op.equalIn (n + 1) t (.bool a) (.bool b)).run P w = .ok (a == b) w := fun n => by simp [Op.equalIn, run_underlying hu]
  exact this 9999
theorem eqNilNil {e : TypeId} (hu : P.underlying t = some (.pointer e)) : (Op.equal t (.pointer none) (.pointer none)).run P w = .ok true w := by
  have : ∀ n, (Op.equalIn (n + 1) t (.pointer none) (.pointer none)).run P w = .ok true w := fun n => by simp [Op.equalIn, run_underlying hu]
  exact this 9999
theorem eqSomeNil {e : TypeId} (hu : P.underlying t = some (.pointer e)) (a : Addr) : (Op.equal t (.pointer (some a)) (.pointer none)).run P w = .ok false w := by
  have : ∀ n, (Op.equalIn (n + 1) t (.pointer (some a)) (.pointer none)).run P w = .ok false w := fun n => by simp [Op.equalIn, run_underlying hu]
  exact this 9999
theorem eqNilSome {e : TypeId} (hu : P.underlying t = some (.pointer e)) (a : Addr) : (Op.equal t (.pointer none) (.pointer (some a))).run P w = .ok false w := by
  have : ∀ n, (Op.equalIn (n + 1) t (.pointer none) (.pointer (some a))).run P w = .ok false w := fun n => by simp [Op.equalIn, run_underlying hu]
  exact this 9999
theorem eqIfaceNil {ms : Array (String × TypeId)} (hu : P.underlying t = some (.interface ms)) (u : TypeId) (v : Value) : (Op.equal t (.iface u v) .nilIface).run P w = .ok false w := by
  have : ∀ n, (Op.equalIn (n + 1) t (.iface u v) .nilIface).run P w = .ok false w := fun n => by simp [Op.equalIn, run_underlying hu]
  exact this 9999
end

theorem eql_run {o : Oper} {S : Nat → PV} {op : BinOp} {t u : TypeId} {x y : Operand} (ho : o.op = .binOp op t x y u) (hop : op = .eql ∨ op = .neq) {b : Bool} (h : eqlX P t (evP S x) (evP S y) = some b) : PureRun P o S (.d (.val (.bool (eqOut op b)))) := by
  refine PureRun.still fun m ρ a w _ hx => ?_
  have h1 := hx x (by simp [ho, Op.operands])
  have h2 := hx y (by simp [ho, Op.operands])
  obtain ⟨dst, op', type, pos, after, guard⟩ := o
  simp only at ho
  subst ho
  generalize evP S x = p at *
  generalize evP S y = q at *
  refine ⟨.bool (eqOut op b), ?_, by simp [Rep, RepD]⟩
  unfold eqlX at h
  split at h
  · rename_i hu
    simp only [Option.some.injEq] at h; subst h
    simp only [Rep, RepD] at h1 h2
    rcases hop with rfl | rfl <;> simp [execOp, h1, h2, eqGuard, binOp, eqBool hu, eqOut]
  · rename_i hu
    simp only [Option.some.injEq] at h; subst h
    simp only [Rep, RepD] at h1 h2
    rcases hop with rfl | rfl <;> simp [execOp, h1, h2, eqGuard, binOp, eqNilNil hu, eqOut]
  · rename_i hu
    simp only [Option.some.injEq] at h; subst h
    simp only [Rep, RepD] at h1 h2
    obtain ⟨b1, o1, e1, _⟩ := h1
    rcases hop with rfl | rfl <;> simp [execOp, e1, h2, eqGuard, binOp, eqSomeNil hu, eqOut]
  · rename_i hu
    simp only [Option.some.injEq] at h; subst h
    simp only [Rep, RepD] at h1 h2
    obtain ⟨b1, o1, e1, _⟩ := h2
    rcases hop with rfl | rfl <;> simp [execOp, e1, h1, eqGuard, binOp, eqNilSome hu, eqOut]
  · rename_i hu
    simp only [Option.some.injEq] at h; subst h
    simp only [Rep, RepD] at h1 h2
    obtain ⟨b1, c1, _, e1⟩ := h1
    rcases hop with rfl | rfl <;> simp [execOp, e1, h2, eqGuard, binOp, eqSomeNil hu, eqOut]
  · rename_i hu
    simp only [Option.some.injEq] at h; subst h
    simp only [Rep, RepD] at h1 h2
    obtain ⟨b1, e1, _⟩ := h1
    rcases hop with rfl | rfl <;> simp [execOp, e1, h2, eqGuard, binOp, eqIfaceNil hu, eqOut]
  · cases h

/-- Structs or arrays x and y are held against each other: b. -/
def EqRun (P : Program) (t : TypeId) (x y : D) (b : Bool) : Prop :=
  P.eqGuardType P.depth t = false ∧ ∀ m w v u, RepD m x v → RepD m y u → ∃ vs us, v = .agg vs ∧ u = .agg us ∧ (Op.equal t v u).run P w = .ok b w

theorem eqAgg_run {o : Oper} {S : Nat → PV} {op : BinOp} {t u : TypeId} {x y : Operand} (ho : o.op = .binOp op t x y u) (hop : op = .eql ∨ op = .neq) {dx dy : D} (hx : (evP S x).toD = some dx) (hy : (evP S y).toD = some dy) {b : Bool} (h : EqRun P t dx dy b) :
    PureRun P o S (.d (.val (.bool (eqOut op b)))) := by
  refine PureRun.still fun m ρ a w _ hxs => ?_
  have h1 := Rep.toD _ _ _ hx (hxs x (by simp [ho, Op.operands]))
  have h2 := Rep.toD _ _ _ hy (hxs y (by simp [ho, Op.operands]))
  obtain ⟨dst, op', type, pos, after, guard⟩ := o
  simp only at ho
  subst ho
  obtain ⟨hg, hr⟩ := h
  obtain ⟨vs, us, e1, e2, e3⟩ := hr m w _ _ h1 h2
  refine ⟨.bool (eqOut op b), ?_, by simp [Rep, RepD]⟩
  rw [e1, e2] at e3
  rcases hop with rfl | rfl <;> simp [execOp, e1, e2, eqGuard, hg, binOp, e3, eqOut]

/-! ### Pure operations -/

def unByte : D → UInt8
  | .val (.int _ n) => UInt8.ofNat n.toNat
  | _ => 0

def bytesOf (l : List D) : ByteArray := ⟨(l.map unByte).toArray⟩

theorem unByte_byteD (b : UInt8) : unByte (byteD b) = b := by simp [unByte, byteD]

theorem bytesOf_map (bs : List UInt8) : bytesOf (bs.map byteD) = ⟨bs.toArray⟩ := by
  unfold bytesOf
  rw [List.map_map]
  have : (unByte ∘ byteD) = id := by funext b; exact unByte_byteD b
  rw [this, List.map_id]

def isBytes (l : List D) : Prop := l = (l.map unByte).map byteD

theorem isBytes_map (bs : List UInt8) : isBytes (bs.map byteD) := by
  unfold isBytes
  rw [List.map_map, List.map_map]
  congr 1
  funext b
  simp [unByte_byteD]

def convF (P : Program) (t u : TypeId) (p : PV) : PV × Prop :=
  match P.underlying t, P.underlying u with
  | some _, some (.int k) => match p with
    | .d (.val (.int _ n)) => (.d (.val (.int k (k.wrap n))), True)
    | _ => (.junk, False)
  | some (.slice e), some .string => match p.elems with
    | some l => (.d (.val (.string (bytesOf l))), P.underlying e = some (.int .u8) ∧ isBytes l)
    | none => (.junk, False)
  | some _, some .string => match p with
    | .d (.val (.string s)) => (.d (.val (.string s)), True)
    | _ => (.junk, False)
  | _, _ => (.junk, False)

theorem conv_sound {o : Oper} {S : Nat → PV} {t u : TypeId} {x : Operand} (ho : o.op = .convert t u x) (h : (convF P t u (evP S x)).2) : PureRun P o S (convF P t u (evP S x)).1 := by
  unfold convF at h ⊢
  split at h
  · rename_i d k ht hu
    split at h
    · rename_i k' n hp
      exact conv_int ho ht hu hp
    · exact h.elim
  · rename_i e ht hu
    split at h
    · rename_i l hl
      obtain ⟨he, hb⟩ := h
      unfold isBytes at hb
      have hl' : (evP S x).elems = some ((l.map unByte).map byteD) := by rw [hl, ← hb]
      have := conv_bytes (P := P) ho ht he hu hl'
      simpa [bytesOf] using this
    · exact h.elim
  · rename_i d _ ht hu
    split at h
    · rename_i s hp
      exact conv_str ho ht hu hp
    · exact h.elim
  · exact h.elim

def slcF (P : Program) (t : TypeId) (p : PV) (lo hi mx : Option PV) : PV × Prop :=
  match P.underlying t with
  | some .string => match p, bnd 0 lo, mx with
    | .d (.val (.string s)), some l, none => match bnd s.size hi with
      | some h => (.d (.val (.string (s.extract l.toNat h.toNat))), 0 ≤ l ∧ l ≤ h ∧ h ≤ (s.size : Int))
      | none => (.junk, False)
    | _, _, _ => (.junk, False)
  | some (.slice _) => match slcA P t, p.elems, bnd 0 lo with
    | some (sz, _, _), some e, some l => match mx with
      | none => match bnd e.length hi with
        | some h => (.d (.slice ((e.drop l.toNat).take (h - l).toNat)), (0 ≤ l ∧ l ≤ h ∧ h ≤ (e.length : Int)) ∧ ∀ x ∈ e, x.cells.length = sz)
        | none => (.junk, False)
      | some (.d (.val (.int _ q))) => match hi with
        | some (.d (.val (.int _ h))) => (.full ((e.drop l.toNat).take (h - l).toNat), (0 ≤ l ∧ l ≤ h ∧ h ≤ (e.length : Int)) ∧ q = h ∧ ∀ x ∈ e, x.cells.length = sz)
        | _ => (.junk, False)
      | some _ => (.junk, False)
    | _, _, _ => (.junk, False)
  | some (.array _ _) => match arrA P t, p, bnd 0 lo, mx with
    | some (n, 1, _), .d (.cptr c), some l, none => match bnd n hi with
      | some h => ((if hi.isSome then .d (.slice ((c.drop l.toNat).take (h - l).toNat)) else .full ((c.drop l.toNat).take (h - l).toNat)), (0 ≤ l ∧ l ≤ h ∧ h ≤ (n : Int)) ∧ n ≤ c.length ∧ ∀ x ∈ c, x.flat = true)
      | none => (.junk, False)
    | _, _, _, _ => (.junk, False)
  | _ => (.junk, False)

theorem slc_sound {o : Oper} {S : Nat → PV} {t : TypeId} {x : Operand} {lo hi mx : Option Operand} (ho : o.op = .slice t x lo hi mx) (h : (slcF P t (evP S x) (lo.map (evP S)) (hi.map (evP S)) (mx.map (evP S))).2) :
    PureRun P o S (slcF P t (evP S x) (lo.map (evP S)) (hi.map (evP S)) (mx.map (evP S))).1 := by
  unfold slcF at h ⊢
  split at h
  · rename_i hu
    split at h
    · rename_i s l hp hl hm
      have hm' : mx = none := by cases mx <;> simp_all
      subst hm'
      split at h
      · rename_i hh hbh
        exact slice_string ho hu hp hl hbh h.1 h.2.1 h.2.2
      · exact h.elim
    · exact h.elim
  · rename_i e hu
    split at h
    · rename_i sz by' ag el l hs he hl
      split at h
      · rename_i hm
        have hm' : mx = none := by cases mx <;> simp_all
        subst hm'
        split at h
        · rename_i hh hbh
          exact slice_row ho hs he hl hbh h.1.1 h.1.2.1 h.1.2.2 h.2
        · exact h.elim
      · rename_i k q hm
        split at h
        · rename_i k' hh hhi
          obtain ⟨⟨c1, c2, c3⟩, rfl, c4⟩ := h
          cases mx with
          | none => simp at hm
          | some mo =>
            cases hi with
            | none => simp at hhi
            | some ho' =>
              simp only [Option.map_some, Option.some.injEq] at hm hhi
              exact slice_row3 ho hs he hl hhi hm c1 c2 c3 c4
        · exact h.elim
      · exact h.elim
    · exact h.elim
  · rename_i n e hu
    split at h
    · rename_i n' ag c l ha hp hl hm
      have hm' : mx = none := by cases mx <;> simp_all
      subst hm'
      split at h
      · rename_i hh hbh
        have := slice_array (P := P) ho ha hp hl hbh h.1.1 h.1.2.1 h.1.2.2 h.2.1 h.2.2
        cases hi <;> simpa using this
      · exact h.elim
    · exact h.elim
  · exact h.elim

def lenF (P : Program) (t : TypeId) (p : PV) : PV × Prop :=
  match P.underlying t with
  | some .string => match p with
    | .d (.val (.string s)) => (.d (.val (.int .i64 s.size)), True)
    | _ => (.junk, False)
  | some (.slice _) => match p.elems with
    | some l => (.d (.val (.int .i64 l.length)), True)
    | none => (.junk, False)
  | some (.array n _) => (.d (.val (.int .i64 n)), True)
  | some (.pointer u) => match P.underlying u with
    | some (.array n _) => (.d (.val (.int .i64 n)), True)
    | _ => (.junk, False)
  | _ => (.junk, False)

def builtinF (P : Program) (S : Nat → PV) (b : Builtin) (args : List Operand) (ts : List TypeId) : PV × Prop :=
  match b, args, ts with
  | .len, [x], [t] => lenF P t (evP S x)
  | .min, [x, y], _ => match evP S x, evP S y with
    | .d (.val (.int k i)), .d (.val (.int _ j)) => (.d (.val (.int k (if j < i then j else i))), True)
    | _, _ => (.junk, False)
  | .max, [x, y], _ => match evP S x, evP S y with
    | .d (.val (.int k i)), .d (.val (.int _ j)) => (.d (.val (.int k (if j > i then j else i))), True)
    | _, _ => (.junk, False)
  | _, _, _ => (.junk, False)

theorem arr_eq {α : Type} {a : Array α} {l : List α} (h : a.toList = l) : a = l.toArray := by subst h; simp

theorem builtin_sound {o : Oper} {S : Nat → PV} {c : Call} {b : Builtin} (ho : o.op = .call c) (hc : c.callee = .builtin b) (h : (builtinF P S b c.args.toList c.argTypes.toList).2) : PureRun P o S (builtinF P S b c.args.toList c.argTypes.toList).1 := by
  obtain ⟨callee, args, ts⟩ := c
  simp only at hc
  subst hc
  simp only at h ⊢
  unfold builtinF at h ⊢
  split at h
  · rename_i x t ha ht
    rw [arr_eq ha, arr_eq ht] at ho
    unfold lenF at h ⊢
    split at h
    · rename_i hu
      split at h
      · rename_i s hp
        exact len_string ho hu hp
      · exact h.elim
    · rename_i e hu
      split at h
      · rename_i l hp
        exact len_row ho hu hp
      · exact h.elim
    · rename_i n e hu
      exact len_array ho hu
    · rename_i u hu
      split at h
      · rename_i n e hu2
        exact len_parray ho hu hu2
      · exact h.elim
    · exact h.elim
  · rename_i x y ts' ha
    rw [arr_eq ha] at ho
    split at h
    · rename_i k i k' j hp hq
      exact min_int ho hp hq
    · exact h.elim
  · rename_i x y ts' ha
    rw [arr_eq ha] at ho
    split at h
    · rename_i k i k' j hp hq
      exact max_int ho hp hq
    · exact h.elim
  · exact h.elim

def ifaceOK (P : Program) (t : TypeId) : Bool :=
  match P.underlying t with
  | some (.interface _) => false
  | some _ => true
  | none => false

def binX (P : Program) (op : BinOp) (t : TypeId) (p q : PV) : PV × Prop :=
  match op with
  | .eql => match eqlX P t p q with
    | some b => (.d (.val (.bool b)), True)
    | none => bin .eql p q
  | .neq => match eqlX P t p q with
    | some b => (.d (.val (.bool (!b))), True)
    | none => bin .neq p q
  | op => bin op p q

theorem binX_sound {o : Oper} {S : Nat → PV} {op : BinOp} {t u : TypeId} {x y : Operand} (ho : o.op = .binOp op t x y u) (h : (binX P op t (evP S x) (evP S y)).2) : PureRun P o S (binX P op t (evP S x) (evP S y)).1 := by
  unfold binX at h ⊢
  split at h
  · split at h
    · rename_i b hb
      exact eql_run ho (.inl rfl) hb
    · rename_i hb
      exact bin_sound ho h
  · split at h
    · rename_i b hb
      exact eql_run ho (.inr rfl) hb
    · rename_i hb
      exact bin_sound ho h
  · exact bin_sound ho h

def partsP (S : Nat → PV) : List (Nat × Operand) → List PV
  | [] => []
  | x :: r => evP S x.2 :: partsP S r
def partsQ (S : Nat → PV) : List (Nat × Operand) → List (Nat × PV)
  | [] => []
  | x :: r => (x.1, evP S x.2) :: partsQ S r
def solids : List PV → Prop
  | [] => True
  | p :: r => p.solid = true ∧ solids r
def keysOf : List (Nat × Operand) → List Nat
  | [] => []
  | x :: r => x.1 :: keysOf r
theorem partsP_eq (S : Nat → PV) : ∀ l, partsP S l = l.map fun x => evP S x.2
  | [] => rfl
  | x :: r => by simp only [partsP, List.map_cons, partsP_eq S r]
theorem partsQ_eq (S : Nat → PV) : ∀ l, partsQ S l = l.map fun x => (x.1, evP S x.2)
  | [] => rfl
  | x :: r => by simp only [partsQ, List.map_cons, partsQ_eq S r]
theorem keysOf_eq : ∀ l, keysOf l = l.map (·.1)
  | [] => rfl
  | x :: r => by simp only [keysOf, List.map_cons, keysOf_eq r]
theorem solids_mem (S : Nat → PV) : ∀ l, solids (partsP S l) → ∀ x ∈ l, (evP S x.2).solid = true
  | [], _, x, hx => by cases hx
  | y :: r, h, x, hx => by
    rcases List.mem_cons.1 hx with rfl | hx
    · exact h.1
    · exact solids_mem S r h.2 x hx

def pureF (P : Program) (S : Nat → PV) (op : Op) : PV × Prop :=
  match op with
  | .move x => (evP S x, True)
  | .assign x => (evP S x, True)
  | .pick c a b => pickP (evP S c) (evP S a) (evP S b)
  | .build t parts => buildP (bldA P t) (partsQ S parts.toList)
  | .buildSlice t n parts => match rowA P t, PV.toDs (partsP S parts.toList) with
    | some (sz, _), some xs => (.full xs, keysOf parts.toList = List.range n ∧ n * sz ≤ 2 ^ 24 ∧ solids (partsP S parts.toList) ∧ ∀ x ∈ xs, x.cells.length = sz)
    | _, _ => (.junk, False)
  | .load t x => match evP S x with
    | .d (.cptr l) => loadD (tyA P t) l
    | _ => (.junk, False)
  | .nilCheck x => (evP S x, noNil (evP S x) = true)
  | .binOp op t x y _ => binX P op t (evP S x) (evP S y)
  | .unOp op _ x => un op (evP S x)
  | .convert t u x => convF P t u (evP S x)
  | .sliceToArrayPointer t x => match arrA P t, (evP S x).elems with
    | some (n, 1, _), some l => (.d (.cptr l), n ≤ l.length ∧ l ≠ [] ∧ ∀ x ∈ l, x.flat = true)
    | _, _ => (.junk, False)
  | .makeInterface t x => match (evP S x).toD with
    | some y => (.d (.iface t y), ifaceOK P t = true)
    | none => (.junk, False)
  | .makeFunc (.func f) first caps => (cloP f (caps.toList.map (evP S)), first = #[])
  | .slice t x lo hi mx => slcF P t (evP S x) (lo.map (evP S)) (hi.map (evP S)) (mx.map (evP S))
  | .fieldAddr t x f => fieldAddrP (fldA P t f) (evP S x)
  | .field t x f => fieldP (fldA P t f) (evP S x)
  | .indexAddr t x y => indexAddrP (slcA P t) (arrA P t) (evP S x) (evP S y)
  | .index t x y => ((indexP (arrA P t) (evP S x) (evP S y)).1, (arrA P t = none → P.underlying t = some .string) ∧ (indexP (arrA P t) (evP S x) (evP S y)).2)
  | .extract x i => extractP (evP S x) i
  | .call c => match c.callee with
    | .builtin b => builtinF P S b c.args.toList c.argTypes.toList
    | _ => (.junk, False)
  | _ => (.junk, False)

theorem pureF_sound {o : Oper} {S : Nat → PV} (h : (pureF P S o.op).2) : PureRun P o S (pureF P S o.op).1 := by
  obtain ⟨dst, op, type, pos, after, guard⟩ := o
  simp only at h ⊢
  cases op <;> simp only [pureF] at h ⊢ <;> try exact h.elim
  case move x => exact move_sound (.inl rfl)
  case assign x => exact move_sound (.inr rfl)
  case pick c a b => exact pick_sound rfl h
  case build t parts =>
    rw [partsQ_eq] at h ⊢
    exact build_sound rfl h
  case buildSlice t n parts =>
    split at h
    · rename_i sz by' xs h1 h2
      rw [partsP_eq] at h2
      exact buildSlice_sound rfl h1 (by rw [← keysOf_eq]; exact h.1) h.2.1 h2 (solids_mem S _ h.2.2.1) h.2.2.2
    · exact h.elim
  case load t x =>
    split at h
    · rename_i l hp
      exact load_sound rfl hp h
    · exact h.elim
  case nilCheck x => exact nilCheck_sound rfl h
  case binOp op t x y u => exact binX_sound rfl h
  case unOp op t x => exact un_sound rfl h
  case convert t u x => exact conv_sound rfl h
  case sliceToArrayPointer t x =>
    split at h
    · rename_i n ag l h1 h2
      exact toArray_sound rfl h1 h2 h.1 h.2.1 h.2.2
    · exact h.elim
  case makeInterface t x =>
    split at h
    · rename_i y hy
      unfold ifaceOK at h
      split at h
      · cases h
      · rename_i d hne hu
        exact makeInterface_sound rfl hu (by cases d <;> simp_all) hy
      · cases h
    · exact h.elim
  case makeFunc fn first caps =>
    cases fn <;> simp only at h ⊢ <;> try exact h.elim
    subst h
    exact makeFunc_sound rfl
  case slice t x lo hi mx => exact slc_sound rfl h
  case fieldAddr t x f => exact fieldAddr_sound rfl h
  case field t x f => exact field_sound rfl h
  case indexAddr t x y => exact indexAddr_sound rfl h
  case index t x y => exact index_sound rfl h.1 h.2
  case extract x i => exact extract_sound rfl h
  case call c =>
    split at h
    · rename_i b hb
      exact builtin_sound rfl hb h
    · exact h.elim
end Go.Proofs.Ytonlehebfeilmaa.K
