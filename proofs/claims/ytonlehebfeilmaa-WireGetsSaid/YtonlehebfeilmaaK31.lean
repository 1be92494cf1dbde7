/- One operation at a time, each by a law that tells its value in the form wanted. -/
import Derived.Test.YtonlehebfeilmaaK30
namespace Go.Proofs.Ytonlehebfeilmaa.K
open Go Go.RowKit

variable {P : Program} {N : Nat} {ops : Array Oper} {o : Oper} {r : List Oper} {s : St}

theorem OpSem.imp {o : Oper} {s : St} {v v' : PV} {H' : HM} {nx' : Nat} {T W : List Nat} (h : OpSem P o s v H' nx' T W) (hi : Imp v v') : OpSem P o s v' H' nx' T W :=
  ⟨h.le, h.keep, h.nil, h.sub, h.old, fun m ρ a w K Q V hf hx hK => h.sem m ρ a w K Q V hf hx fun u m' ρ' w' hD hr => hK u m' ρ' w' hD (hi _ _ _ hr)⟩

/-! ### Steps over a state's parts; d: where the value goes -/
section
variable {S : Nat → PV} {H : HM} {nx : Nat} {df : List (Nat × List PV)}
theorem XK.st {Q : PX → St → Prop} (d : Option Nat) (hd : o.dst = d) (hg : o.guard = none) (h : stepF P [] o ⟨S, H, nx, df⟩ fun v H' nx' _ _ => XK P ops r ⟨putS S d v, H', nx', df⟩ Q) : XK P ops (o :: r) ⟨S, H, nx, df⟩ Q := by subst hd; exact XK.step hg h
theorem RK.st {acc : List Rec} {K : St → List Rec → Prop} (d : Option Nat) (hd : o.dst = d) (hg : o.guard = none) (h : stepF P [] o ⟨S, H, nx, df⟩ fun v H' nx' T W => RK P ops r ⟨putS S d v, H', nx', df⟩ (⟨T, W, nx, nx'⟩ :: acc) K) : RK P ops (o :: r) ⟨S, H, nx, df⟩ acc K := by subst hd; exact RK.step hg h
theorem RQ.st {Q : St → Prop} (d : Option Nat) (hd : o.dst = d) (hg : o.guard = none) (h : stepF P [] o ⟨S, H, nx, df⟩ fun v H' nx' _ W => (W = [] ∧ nx' = nx) ∧ RQ P ops r ⟨putS S d v, H', nx', df⟩ Q) : RQ P ops (o :: r) ⟨S, H, nx, df⟩ Q := by subst hd; exact RQ.step hg h
theorem XK.as {Q : PX → St → Prop} (d : Option Nat) (hd : o.dst = d) (hg : o.guard = none) (h : stepF P [] o ⟨S, H, nx, df⟩ fun v H' nx' _ _ => ∃ v', Imp v v' ∧ XK P ops r ⟨putS S d v', H', nx', df⟩ Q) : XK P ops (o :: r) ⟨S, H, nx, df⟩ Q := by
  intro hn
  subst hd
  obtain ⟨v, H', nx', T, W, h1, v', h2, h3⟩ := stepF_sound hn h
  exact .step (.run hg (h1.imp h2)) (h3 h1.nil)
theorem RK.as {acc : List Rec} {K : St → List Rec → Prop} (d : Option Nat) (hd : o.dst = d) (hg : o.guard = none) (h : stepF P [] o ⟨S, H, nx, df⟩ fun v H' nx' T W => ∃ v', Imp v v' ∧ RK P ops r ⟨putS S d v', H', nx', df⟩ (⟨T, W, nx, nx'⟩ :: acc) K) : RK P ops (o :: r) ⟨S, H, nx, df⟩ acc K := by
  intro hn
  subst hd
  obtain ⟨v, H', nx', T, W, h1, v', h2, h3⟩ := stepF_sound hn h
  obtain ⟨s', L, h4, h5⟩ := h3 h1.nil
  exact ⟨s', _, .cons (.run hg (h1.imp h2)) h4, by simpa using h5⟩
theorem RQ.as {Q : St → Prop} (d : Option Nat) (hd : o.dst = d) (hg : o.guard = none) (h : stepF P [] o ⟨S, H, nx, df⟩ fun v H' nx' _ W => (W = [] ∧ nx' = nx) ∧ ∃ v', Imp v v' ∧ RQ P ops r ⟨putS S d v', H', nx', df⟩ Q) : RQ P ops (o :: r) ⟨S, H, nx, df⟩ Q := by
  intro hn
  subst hd
  obtain ⟨v, H', nx', T, W, h1, ⟨hw, he⟩, v', h2, h3⟩ := stepF_sound hn h
  obtain ⟨s', L, h4, h5, h6⟩ := h3 h1.nil
  refine ⟨s', _, .cons (.run hg (h1.imp h2)) h4, ?_, h6⟩
  intro R hR
  rcases List.mem_cons.1 hR with rfl | hR
  · exact ⟨hw, he.symm⟩
  · exact h5 R hR
theorem XK.fz {Q : PX → St → Prop} (d : Option Nat) (hd : o.dst = d) (hg : o.guard = none) (h : stepF P d.toList o ⟨S, H, nx, df⟩ fun v H' nx' _ _ => XK P ops r ⟨putS S d v, H', nx', df⟩ Q) : XK P ops (o :: r) ⟨S, H, nx, df⟩ Q := by subst hd; exact XK.frozen hg h
theorem XK.of {Q : PX → St → Prop} (d : Option Nat) (hd : o.dst = d) (hg : guardP ops o S = some false) (h : XK P ops r ⟨putS S d (.cond false (.d (.val (.bool false)))), H, nx, df⟩ Q) : XK P ops (o :: r) ⟨S, H, nx, df⟩ Q := by subst hd; exact XK.off hg h
theorem RK.of {acc : List Rec} {K : St → List Rec → Prop} (d : Option Nat) (hd : o.dst = d) (hg : guardP ops o S = some false) (h : RK P ops r ⟨putS S d (.cond false (.d (.val (.bool false)))), H, nx, df⟩ (⟨[], [], nx, nx⟩ :: acc) K) : RK P ops (o :: r) ⟨S, H, nx, df⟩ acc K := by subst hd; exact RK.off hg h
theorem RQ.of {Q : St → Prop} (d : Option Nat) (hd : o.dst = d) (hg : guardP ops o S = some false) (h : RQ P ops r ⟨putS S d (.cond false (.d (.val (.bool false)))), H, nx, df⟩ Q) : RQ P ops (o :: r) ⟨S, H, nx, df⟩ Q := by subst hd; exact RQ.off hg h
end

section
variable {S : Nat → PV} {H : HM} {nx : Nat} {df : List (Nat × List PV)}
variable {frz : List Nat} {k : PV → HM → Nat → List Nat → List Nat → Prop}
theorem sf_move {x : Operand} {v : PV} (ho : o.op = .move x) (hx : evP S x = v) (hk : k v H nx [] []) : stepF P frz o ⟨S, H, nx, df⟩ k := by
  unfold stepF; rw [ho]; subst hx; exact ⟨trivial, hk⟩
theorem sf_assign {x : Operand} {v : PV} (ho : o.op = .assign x) (hx : evP S x = v) (hk : k v H nx [] []) : stepF P frz o ⟨S, H, nx, df⟩ k := by
  unfold stepF; rw [ho]; subst hx; exact ⟨trivial, hk⟩
theorem sf_nilCheck {x : Operand} {v : PV} (ho : o.op = .nilCheck x) (hx : evP S x = v) (hv : noNil v = true) (hk : k v H nx [] []) : stepF P frz o ⟨S, H, nx, df⟩ k := by
  unfold stepF; rw [ho]; subst hx; exact ⟨hv, hk⟩

/-! ### Whole numbers -/
def inI (n : Int) : Prop := -9223372036854775808 ≤ n ∧ n ≤ 9223372036854775807
instance (n : Int) : Decidable (inI n) := by unfold inI; exact inferInstance
theorem wrap_in {n : Int} (h : inI n) : IntKind.i64.wrap n = n := wrap_i64 h

/-- Of what kinds integers' operations are no tests of equality. -/
theorem sf_bin {op : BinOp} {t u : TypeId} {x y : Operand} {p q v : PV} (ho : o.op = .binOp op t x y u) (hx : evP S x = p) (hy : evP S y = q) (hop : isEq op = false) (hv : (bin op p q).2) (he : (bin op p q).1 = v) (hk : k v H nx [] []) : stepF P frz o ⟨S, H, nx, df⟩ k := by
  unfold stepF; rw [ho]
  subst hx hy he
  cases op <;> first | (exact absurd hop (by decide)) | exact ⟨hv, hk⟩
theorem sf_add {t u : TypeId} {x y : Operand} {a b : Int} (ho : o.op = .binOp .add t x y u) (hx : evP S x = .d (.val (.int .i64 a))) (hy : evP S y = .d (.val (.int .i64 b))) (h : inI (a + b)) (hk : k (.d (.val (.int .i64 (a + b)))) H nx [] []) : stepF P frz o ⟨S, H, nx, df⟩ k :=
  sf_bin ho hx hy rfl rfl (by show PV.d (.val (.int .i64 (IntKind.i64.wrap (a + b)))) = _; rw [wrap_in h]) hk
theorem sf_sub {t u : TypeId} {x y : Operand} {a b : Int} (ho : o.op = .binOp .sub t x y u) (hx : evP S x = .d (.val (.int .i64 a))) (hy : evP S y = .d (.val (.int .i64 b))) (h : inI (a - b)) (hk : k (.d (.val (.int .i64 (a - b)))) H nx [] []) : stepF P frz o ⟨S, H, nx, df⟩ k :=
  sf_bin ho hx hy rfl rfl (by show PV.d (.val (.int .i64 (IntKind.i64.wrap (a - b)))) = _; rw [wrap_in h]) hk
theorem sf_mul {t u : TypeId} {x y : Operand} {a b : Int} (ho : o.op = .binOp .mul t x y u) (hx : evP S x = .d (.val (.int .i64 a))) (hy : evP S y = .d (.val (.int .i64 b))) (h : inI (a * b)) (hk : k (.d (.val (.int .i64 (a * b)))) H nx [] []) : stepF P frz o ⟨S, H, nx, df⟩ k :=
  sf_bin ho hx hy rfl rfl (by show PV.d (.val (.int .i64 (IntKind.i64.wrap (a * b)))) = _; rw [wrap_in h]) hk
theorem sf_quo {t u : TypeId} {x y : Operand} {a b : Int} (ho : o.op = .binOp .quo t x y u) (hx : evP S x = .d (.val (.int .i64 a))) (hy : evP S y = .d (.val (.int .i64 b))) (h : b ≠ 0 ∧ inI (a.tdiv b)) (hk : k (.d (.val (.int .i64 (a.tdiv b)))) H nx [] []) : stepF P frz o ⟨S, H, nx, df⟩ k :=
  sf_bin ho hx hy rfl ⟨rfl, h.1⟩ (by show PV.d (.val (.int .i64 (IntKind.i64.wrap (a.tdiv b)))) = _; rw [wrap_in h.2]) hk
theorem sf_rem {t u : TypeId} {x y : Operand} {a b : Int} (ho : o.op = .binOp .rem t x y u) (hx : evP S x = .d (.val (.int .i64 a))) (hy : evP S y = .d (.val (.int .i64 b))) (h : b ≠ 0) (hk : k (.d (.val (.int .i64 (a.tmod b)))) H nx [] []) : stepF P frz o ⟨S, H, nx, df⟩ k :=
  sf_bin ho hx hy rfl ⟨rfl, h⟩ rfl hk
def orI (a b : Int) : Int := IntKind.i64.wrap (BitVec.ofInt 64 a ||| BitVec.ofInt 64 b).toNat
theorem sf_or {t u : TypeId} {x y : Operand} {a b : Int} (ho : o.op = .binOp .or t x y u) (hx : evP S x = .d (.val (.int .i64 a))) (hy : evP S y = .d (.val (.int .i64 b))) (hk : k (.d (.val (.int .i64 (orI a b)))) H nx [] []) : stepF P frz o ⟨S, H, nx, df⟩ k :=
  sf_bin ho hx hy rfl rfl rfl hk
def andI (a b : Int) : Int := IntKind.i64.wrap (BitVec.ofInt 64 a &&& BitVec.ofInt 64 b).toNat
theorem sf_and {t u : TypeId} {x y : Operand} {a b : Int} (ho : o.op = .binOp .and t x y u) (hx : evP S x = .d (.val (.int .i64 a))) (hy : evP S y = .d (.val (.int .i64 b))) (hk : k (.d (.val (.int .i64 (andI a b)))) H nx [] []) : stepF P frz o ⟨S, H, nx, df⟩ k :=
  sf_bin ho hx hy rfl rfl rfl hk
def shlI (a b : Int) : Int := a * 2 ^ (min b.toNat 64)
def shrI (a b : Int) : Int := a.fdiv (2 ^ (min b.toNat 64))
theorem sf_shl {t u : TypeId} {x y : Operand} {a b : Int} {k' : IntKind} (ho : o.op = .binOp .shl t x y u) (hx : evP S x = .d (.val (.int .i64 a))) (hy : evP S y = .d (.val (.int k' b))) (h : 0 ≤ b ∧ inI (shlI a b)) (hk : k (.d (.val (.int .i64 (shlI a b)))) H nx [] []) : stepF P frz o ⟨S, H, nx, df⟩ k :=
  sf_bin ho hx hy rfl h.1 (by show PV.d (.val (.int .i64 (IntKind.i64.wrap (shlI a b)))) = _; rw [wrap_in h.2]) hk
theorem sf_shr {t u : TypeId} {x y : Operand} {a b : Int} {k' : IntKind} (ho : o.op = .binOp .shr t x y u) (hx : evP S x = .d (.val (.int .i64 a))) (hy : evP S y = .d (.val (.int k' b))) (h : 0 ≤ b) (hk : k (.d (.val (.int .i64 (shrI a b)))) H nx [] []) : stepF P frz o ⟨S, H, nx, df⟩ k :=
  sf_bin ho hx hy rfl h rfl hk
theorem sf_lss {t u : TypeId} {x y : Operand} {a b : Int} {kd : IntKind} (ho : o.op = .binOp .lss t x y u) (hx : evP S x = .d (.val (.int kd a))) (hy : evP S y = .d (.val (.int kd b))) (hk : k (.d (.val (.bool (decide (a < b))))) H nx [] []) : stepF P frz o ⟨S, H, nx, df⟩ k :=
  sf_bin ho hx hy rfl rfl rfl hk
theorem sf_leq {t u : TypeId} {x y : Operand} {a b : Int} {kd : IntKind} (ho : o.op = .binOp .leq t x y u) (hx : evP S x = .d (.val (.int kd a))) (hy : evP S y = .d (.val (.int kd b))) (hk : k (.d (.val (.bool (decide (a ≤ b))))) H nx [] []) : stepF P frz o ⟨S, H, nx, df⟩ k :=
  sf_bin ho hx hy rfl rfl rfl hk
theorem sf_gtr {t u : TypeId} {x y : Operand} {a b : Int} {kd : IntKind} (ho : o.op = .binOp .gtr t x y u) (hx : evP S x = .d (.val (.int kd a))) (hy : evP S y = .d (.val (.int kd b))) (hk : k (.d (.val (.bool (decide (b < a))))) H nx [] []) : stepF P frz o ⟨S, H, nx, df⟩ k :=
  sf_bin ho hx hy rfl rfl rfl hk
theorem sf_geq {t u : TypeId} {x y : Operand} {a b : Int} {kd : IntKind} (ho : o.op = .binOp .geq t x y u) (hx : evP S x = .d (.val (.int kd a))) (hy : evP S y = .d (.val (.int kd b))) (hk : k (.d (.val (.bool (decide (b ≤ a))))) H nx [] []) : stepF P frz o ⟨S, H, nx, df⟩ k :=
  sf_bin ho hx hy rfl rfl rfl hk

theorem eqlX_int {t : TypeId} {kd kd' : IntKind} {a b : Int} : eqlX P t (.d (.val (.int kd a))) (.d (.val (.int kd' b))) = none := by
  unfold eqlX; split <;> simp_all
theorem eqlX_str {t : TypeId} {a b : ByteArray} : eqlX P t (.d (.val (.string a))) (.d (.val (.string b))) = none := by
  unfold eqlX; split <;> simp_all

theorem sf_eqn {op : BinOp} {t u : TypeId} {x y : Operand} {a b : Int} {kd : IntKind} {c : Bool} (ho : o.op = .binOp op t x y u) (hx : evP S x = .d (.val (.int kd a))) (hy : evP S y = .d (.val (.int kd b))) (hop : (op = .eql ∧ c = decide (a = b)) ∨ (op = .neq ∧ c = !decide (a = b)))
    (hk : k (.d (.val (.bool c))) H nx [] []) : stepF P frz o ⟨S, H, nx, df⟩ k := by
  unfold stepF; rw [ho]
  rcases hop with ⟨rfl, rfl⟩ | ⟨rfl, rfl⟩
  · simp only [isEq, aggy, hx, hy, Bool.and_false, Bool.false_eq_true, if_false, binX, eqlX_int]
    exact ⟨rfl, hk⟩
  · simp only [isEq, aggy, hx, hy, Bool.and_false, Bool.false_eq_true, if_false, binX, eqlX_int]
    exact ⟨rfl, hk⟩
theorem sf_eq {t u : TypeId} {x y : Operand} {a b : Int} {kd : IntKind} (ho : o.op = .binOp .eql t x y u) (hx : evP S x = .d (.val (.int kd a))) (hy : evP S y = .d (.val (.int kd b))) (hk : k (.d (.val (.bool (decide (a = b))))) H nx [] []) : stepF P frz o ⟨S, H, nx, df⟩ k :=
  sf_eqn ho hx hy (.inl ⟨rfl, rfl⟩) hk
theorem sf_ne {t u : TypeId} {x y : Operand} {a b : Int} {kd : IntKind} (ho : o.op = .binOp .neq t x y u) (hx : evP S x = .d (.val (.int kd a))) (hy : evP S y = .d (.val (.int kd b))) (hk : k (.d (.val (.bool (!decide (a = b))))) H nx [] []) : stepF P frz o ⟨S, H, nx, df⟩ k :=
  sf_eqn ho hx hy (.inr ⟨rfl, rfl⟩) hk

/-! ### Texts -/
abbrev sV (l : List UInt8) : Value := .string ⟨l.toArray⟩
theorem sf_seq {t u : TypeId} {x y : Operand} {a b : List UInt8} (ho : o.op = .binOp .eql t x y u) (hx : evP S x = .d (.val (sV a))) (hy : evP S y = .d (.val (sV b))) (hk : k (.d (.val (.bool (a == b)))) H nx [] []) : stepF P frz o ⟨S, H, nx, df⟩ k := by
  unfold stepF; rw [ho]
  simp only [isEq, aggy, hx, hy, Bool.and_false, Bool.false_eq_true, if_false, binX, eqlX_str, bin, str_toList]
  exact ⟨trivial, hk⟩
theorem sf_sne {t u : TypeId} {x y : Operand} {a b : List UInt8} (ho : o.op = .binOp .neq t x y u) (hx : evP S x = .d (.val (sV a))) (hy : evP S y = .d (.val (sV b))) (hk : k (.d (.val (.bool (!(a == b))))) H nx [] []) : stepF P frz o ⟨S, H, nx, df⟩ k := by
  unfold stepF; rw [ho]
  simp only [isEq, aggy, hx, hy, Bool.and_false, Bool.false_eq_true, if_false, binX, eqlX_str, bin, str_toList]
  exact ⟨trivial, hk⟩
theorem sf_cat {t u : TypeId} {x y : Operand} {a b : List UInt8} (ho : o.op = .binOp .add t x y u) (hx : evP S x = .d (.val (sV a))) (hy : evP S y = .d (.val (sV b))) (h : a.length + b.length ≤ 9223372036854775807) (hk : k (.d (.val (sV (a ++ b)))) H nx [] []) : stepF P frz o ⟨S, H, nx, df⟩ k :=
  sf_bin ho hx hy rfl (by show ((_ + _ : Nat) : Int) ≤ IntKind.i64.max; rw [str_size, str_size, i64_max]; omega) (by show PV.d (.val (.string _)) = _; rw [str_append]) hk
theorem sf_slt {t u : TypeId} {x y : Operand} {a b : List UInt8} (ho : o.op = .binOp .lss t x y u) (hx : evP S x = .d (.val (sV a))) (hy : evP S y = .d (.val (sV b))) (hk : k (.d (.val (.bool (Op.bytesLess a b)))) H nx [] []) : stepF P frz o ⟨S, H, nx, df⟩ k :=
  sf_bin ho hx hy rfl trivial (by show PV.d (.val (.bool _)) = _; rw [str_toList, str_toList]) hk

/-! ### Truth values -/
theorem sf_beq {t u : TypeId} {x y : Operand} {a b : Bool} (ho : o.op = .binOp .eql t x y u) (ht : P.underlying t = some .bool) (hx : evP S x = .d (.val (.bool a))) (hy : evP S y = .d (.val (.bool b))) (hk : k (.d (.val (.bool (a == b)))) H nx [] []) : stepF P frz o ⟨S, H, nx, df⟩ k := by
  unfold stepF; rw [ho]
  simp only [isEq, aggy, hx, hy, Bool.and_false, Bool.false_eq_true, if_false, binX, eqlX, ht]
  exact ⟨trivial, hk⟩
theorem sf_bne {t u : TypeId} {x y : Operand} {a b : Bool} (ho : o.op = .binOp .neq t x y u) (ht : P.underlying t = some .bool) (hx : evP S x = .d (.val (.bool a))) (hy : evP S y = .d (.val (.bool b))) (hk : k (.d (.val (.bool (!(a == b))))) H nx [] []) : stepF P frz o ⟨S, H, nx, df⟩ k := by
  unfold stepF; rw [ho]
  simp only [isEq, aggy, hx, hy, Bool.and_false, Bool.false_eq_true, if_false, binX, eqlX, ht]
  exact ⟨trivial, hk⟩
theorem sf_not {t : TypeId} {x : Operand} {a : Bool} (ho : o.op = .unOp .not t x) (hx : evP S x = .d (.val (.bool a))) (hk : k (.d (.val (.bool (!a)))) H nx [] []) : stepF P frz o ⟨S, H, nx, df⟩ k := by
  unfold stepF; rw [ho]; simp only [pureF, un, hx]; exact ⟨trivial, hk⟩
theorem sf_neg {t : TypeId} {x : Operand} {a : Int} (ho : o.op = .unOp .neg t x) (hx : evP S x = .d (.val (.int .i64 a))) (h : inI (0 - a)) (hk : k (.d (.val (.int .i64 (0 - a)))) H nx [] []) : stepF P frz o ⟨S, H, nx, df⟩ k := by
  unfold stepF; rw [ho]; simp only [pureF, un, hx, wrap_in h]; exact ⟨trivial, hk⟩
theorem sf_pickT {c x y : Operand} {b u v : Bool} {p : PV} (ho : o.op = .pick c x y) (hc : evP S c = .d (.val (.bool b))) (hb : b = true) (hx : asCond (evP S x) = (true, .d (.val (.bool u)))) (hy : evP S y = p) (hp : (asCond p).2 = .d (.val (.bool v))) (hk : k (.d (.val (.bool u))) H nx [] []) : stepF P frz o ⟨S, H, nx, df⟩ k := by
  unfold stepF; rw [ho]; subst hb
  simp only [pureF, pickP, hc, hx, hy, hp, Bool.cond_true]
  exact ⟨⟨fun _ => trivial, fun h => nomatch h⟩, hk⟩
theorem sf_pickF {c x y : Operand} {b u v : Bool} {p : PV} (ho : o.op = .pick c x y) (hc : evP S c = .d (.val (.bool b))) (hb : b = false) (hx : evP S x = p) (hp : (asCond p).2 = .d (.val (.bool v))) (hy : asCond (evP S y) = (true, .d (.val (.bool u)))) (hk : k (.d (.val (.bool u))) H nx [] []) : stepF P frz o ⟨S, H, nx, df⟩ k := by
  unfold stepF; rw [ho]; subst hb
  simp only [pureF, pickP, hc, hx, hy, hp, Bool.cond_false]
  exact ⟨⟨(fun h => nomatch h), fun _ => trivial⟩, hk⟩

/-! ### Conversions -/
theorem sf_conv {t u : TypeId} {x : Operand} {p v : PV} (ho : o.op = .convert t u x) (hx : evP S x = p) (h1 : (convF P t u p).2) (h2 : (convF P t u p).1 = v) (hk : k v H nx [] []) : stepF P frz o ⟨S, H, nx, df⟩ k := by
  unfold stepF; rw [ho]; subst hx h2; exact ⟨h1, hk⟩
theorem convF_int {t u : TypeId} {d : TypeDesc} {kd kd' : IntKind} {n : Int} (ht : P.underlying t = some d) (hu : P.underlying u = some (.int kd)) : convF P t u (.d (.val (.int kd' n))) = (.d (.val (.int kd (kd.wrap n))), True) := by
  unfold convF; rw [ht, hu]
theorem sf_toI {t u : TypeId} {x : Operand} {n : Int} {kd' : IntKind} {d : TypeDesc} (ho : o.op = .convert t u x) (ht : P.underlying t = some d) (hu : P.underlying u = some (.int .i64)) (hx : evP S x = .d (.val (.int kd' n))) (h : inI n) (hk : k (.d (.val (.int .i64 n))) H nx [] []) : stepF P frz o ⟨S, H, nx, df⟩ k :=
  sf_conv ho hx (by rw [convF_int ht hu]; trivial) (by rw [convF_int ht hu, wrap_in h]) hk
def u8I (n : Int) : UInt8 := UInt8.ofNat (n % 256).toNat
theorem wrap_u8I (n : Int) : IntKind.u8.wrap n = ((u8I n).toNat : Int) := by
  rw [IntKind.wrap_u8]
  unfold u8I
  have h : (UInt8.ofNat (n % 256).toNat).toNat = (n % 256).toNat := by
    rw [UInt8.toNat_ofNat']; omega
  rw [h]; omega
theorem sf_toU8 {t u : TypeId} {x : Operand} {n : Int} {kd' : IntKind} {d : TypeDesc} (ho : o.op = .convert t u x) (ht : P.underlying t = some d) (hu : P.underlying u = some (.int .u8)) (hx : evP S x = .d (.val (.int kd' n))) (hk : k (.d (.val (.int .u8 ((u8I n).toNat : Int)))) H nx [] []) : stepF P frz o ⟨S, H, nx, df⟩ k :=
  sf_conv ho hx (by rw [convF_int ht hu]; trivial) (by rw [convF_int ht hu, wrap_u8I]) hk
theorem sf_b2s {t u e : TypeId} {x : Operand} {l : List UInt8} (ho : o.op = .convert t u x) (ht : P.underlying t = some (.slice e)) (he : P.underlying e = some (.int .u8)) (hu : P.underlying u = some .string) (hx : (evP S x).elems = some (l.map byteD)) (hk : k (.d (.val (sV l))) H nx [] []) : stepF P frz o ⟨S, H, nx, df⟩ k := by
  refine sf_conv (p := evP S x) ho rfl ?_ ?_ hk
  · unfold convF; rw [ht, hu]; simp only [hx]; exact ⟨he, isBytes_map l⟩
  · unfold convF; rw [ht, hu]; simp only [hx, bytesOf_map]
theorem sf_s2s {t u : TypeId} {x : Operand} {l : List UInt8} (ho : o.op = .convert t u x) (ht : P.underlying t = some .string) (hu : P.underlying u = some .string) (hx : evP S x = .d (.val (sV l))) (hk : k (.d (.val (sV l))) H nx [] []) : stepF P frz o ⟨S, H, nx, df⟩ k :=
  sf_conv ho hx (by unfold convF; rw [ht, hu]; trivial) (by unfold convF; rw [ht, hu]) hk

/-! ### Lengths, the lesser, the greater -/
theorem sf_builtin {c : Call} {b : Builtin} {v : PV} (ho : o.op = .call c) (hc : c.callee = .builtin b) (hb : b ≠ .append) (h1 : (builtinF P S b c.args.toList c.argTypes.toList).2) (h2 : (builtinF P S b c.args.toList c.argTypes.toList).1 = v) (hk : k v H nx [] []) : stepF P frz o ⟨S, H, nx, df⟩ k := by
  unfold stepF; rw [ho]; simp only [hc]; subst h2
  cases b <;> first | exact absurd rfl hb | exact ⟨h1, hk⟩
theorem sf_lenS {x : Operand} {t : TypeId} {l : List UInt8} (ho : o.op = .call { callee := .builtin .len, args := #[x], argTypes := #[t] }) (ht : P.underlying t = some .string) (hx : evP S x = .d (.val (sV l))) (hk : k (.d (.val (.int .i64 (l.length : Int)))) H nx [] []) : stepF P frz o ⟨S, H, nx, df⟩ k :=
  sf_builtin ho rfl (by simp) (by show (lenF P t (evP S x)).2; unfold lenF; rw [ht, hx]; trivial) (by show (lenF P t (evP S x)).1 = _; unfold lenF; rw [ht, hx]; simp [str_size]) hk
theorem sf_lenL {x : Operand} {t e : TypeId} {α : Type} {en : α → D} {l : List α} (ho : o.op = .call { callee := .builtin .len, args := #[x], argTypes := #[t] }) (ht : P.underlying t = some (.slice e)) (hx : (evP S x).elems = some (l.map en)) (hk : k (.d (.val (.int .i64 (l.length : Int)))) H nx [] []) : stepF P frz o ⟨S, H, nx, df⟩ k :=
  sf_builtin ho rfl (by simp) (by show (lenF P t (evP S x)).2; unfold lenF; rw [ht]; simp only [hx]) (by show (lenF P t (evP S x)).1 = _; unfold lenF; rw [ht]; simp only [hx, List.length_map]) hk
theorem sf_lenA {x : Operand} {t e : TypeId} {n : Nat} (ho : o.op = .call { callee := .builtin .len, args := #[x], argTypes := #[t] }) (ht : P.underlying t = some (.array n e)) (hk : k (.d (.val (.int .i64 (n : Int)))) H nx [] []) : stepF P frz o ⟨S, H, nx, df⟩ k :=
  sf_builtin ho rfl (by simp) (by show (lenF P t (evP S x)).2; unfold lenF; rw [ht]; trivial) (by show (lenF P t (evP S x)).1 = _; unfold lenF; rw [ht]) hk
def minI (a b : Int) : Int := if b < a then b else a
def maxI (a b : Int) : Int := if b > a then b else a
theorem sf_min {x y : Operand} {ts : Array TypeId} {a b : Int} {kd : IntKind} (ho : o.op = .call { callee := .builtin .min, args := #[x, y], argTypes := ts }) (hx : evP S x = .d (.val (.int kd a))) (hy : evP S y = .d (.val (.int kd b))) (hk : k (.d (.val (.int kd (minI a b)))) H nx [] []) : stepF P frz o ⟨S, H, nx, df⟩ k :=
  sf_builtin ho rfl (by simp) (by show (builtinF P S .min [x, y] _).2; simp only [builtinF, hx, hy]) (by show (builtinF P S .min [x, y] _).1 = _; simp only [builtinF, hx, hy, minI]) hk
theorem sf_max {x y : Operand} {ts : Array TypeId} {a b : Int} {kd : IntKind} (ho : o.op = .call { callee := .builtin .max, args := #[x, y], argTypes := ts }) (hx : evP S x = .d (.val (.int kd a))) (hy : evP S y = .d (.val (.int kd b))) (hk : k (.d (.val (.int kd (maxI a b)))) H nx [] []) : stepF P frz o ⟨S, H, nx, df⟩ k :=
  sf_builtin ho rfl (by simp) (by show (builtinF P S .max [x, y] _).2; simp only [builtinF, hx, hy]) (by show (builtinF P S .max [x, y] _).1 = _; simp only [builtinF, hx, hy, maxI]) hk

/-! ### Elements and parts -/
def idx {α : Type} [Inhabited α] (l : List α) (i : Int) : α := l.getD i.toNat default
def sub {α : Type} (l : List α) (lo hi : Int) : List α := (l.drop lo.toNat).take (hi - lo).toNat
theorem getD_map {α : Type} [Inhabited α] {en : α → D} {l : List α} {i : Int} (h : 0 ≤ i ∧ i < (l.length : Int)) : (l.map en).getD i.toNat default = en (idx l i) := by
  unfold idx
  have hi : i.toNat < l.length := by omega
  rw [List.getD_eq_getElem?_getD, List.getD_eq_getElem?_getD, List.getElem?_map, List.getElem?_eq_getElem hi]
  rfl
/-- How a thing lies in cells. -/
structure Lay {α : Type} (en : α → D) (c : α → List D) (n : Nat) : Prop where
  cells : ∀ x, (en x).cells = c x
  len : ∀ x, (c x).length = n
theorem lay_byte : Lay byteD (fun b => [byteD b]) 1 := ⟨fun _ => rfl, fun _ => rfl⟩
def eI (n : Int) : D := .val (.int .i64 n)
def eB (b : Bool) : D := .val (.bool b)
def eS (l : List UInt8) : D := .val (sV l)
def eL {α : Type} (en : α → D) (l : List α) : D := .slice (l.map en)
theorem lay_I : Lay eI (fun b => [.val (.int .i64 b)]) 1 := ⟨fun _ => rfl, fun _ => rfl⟩
theorem lay_B : Lay eB (fun b => [.val (.bool b)]) 1 := ⟨fun _ => rfl, fun _ => rfl⟩
theorem lay_S : Lay eS (fun b => [.val (sV b)]) 1 := ⟨fun _ => rfl, fun _ => rfl⟩
theorem lay_L {α : Type} {en : α → D} : Lay (eL en) (fun l => [.slice (l.map en)]) 1 := ⟨fun _ => rfl, fun _ => rfl⟩
theorem Lay.all {α : Type} {en : α → D} {c : α → List D} {n : Nat} (h : Lay en c n) (l : List α) : ∀ x ∈ l.map en, x.cells.length = n := by
  intro x hx
  obtain ⟨y, _, rfl⟩ := List.mem_map.1 hx
  rw [h.cells, h.len]
theorem sf_idxA {α : Type} [Inhabited α] {en : α → D} {c : α → List D} {n by' : Nat} {ag : Bool} {t : TypeId} {x y : Operand} {l : List α} {i : Int} {kd : IntKind} (ho : o.op = .indexAddr t x y) (ht : slcA P t = some (n, by', ag)) (hl : Lay en c n) (hx : (evP S x).elems = some (l.map en)) (hy : evP S y = .d (.val (.int kd i)))
    (h : 0 ≤ i ∧ i < (l.length : Int)) (hk : k (.d (.cptr (c (idx l i)))) H nx [] []) : stepF P frz o ⟨S, H, nx, df⟩ k := by
  unfold stepF; rw [ho]
  simp only [pureF, indexAddrP, ht, hx, hy]
  refine ⟨⟨by simpa using h, hl.all l⟩, ?_⟩
  rw [getD_map h, hl.cells]
  exact hk
theorem sf_idxC {n sz : Nat} {ag : Bool} {t : TypeId} {x y : Operand} {l : List D} {i : Int} {kd : IntKind} (ho : o.op = .indexAddr t x y) (hs : slcA P t = none) (ht : arrA P t = some (n, sz, ag)) (hx : evP S x = .d (.cptr l)) (hy : evP S y = .d (.val (.int kd i)))
    (h : 0 ≤ i ∧ i < (n : Int)) (hk : k (.d (.cptr (l.drop (i.toNat * sz)))) H nx [] []) : stepF P frz o ⟨S, H, nx, df⟩ k := by
  unfold stepF; rw [ho]; simp only [pureF, indexAddrP, hs, ht, hx, hy]; exact ⟨h, hk⟩
theorem sf_idxV {n sz : Nat} {ag : Bool} {t : TypeId} {x y : Operand} {id off : Nat} {i : Int} {kd : IntKind} (ho : o.op = .indexAddr t x y) (hs : slcA P t = none) (ht : arrA P t = some (n, sz, ag)) (hx : evP S x = .vptr id off) (hy : evP S y = .d (.val (.int kd i)))
    (h : 0 ≤ i ∧ i < (n : Int)) (hk : k (.vptr id (off + i.toNat * sz)) H nx [] []) : stepF P frz o ⟨S, H, nx, df⟩ k := by
  unfold stepF; rw [ho]; simp only [pureF, indexAddrP, hs, ht, hx, hy]; exact ⟨h, hk⟩
theorem sf_idxS {t : TypeId} {x y : Operand} {l : List UInt8} {i : Int} {kd : IntKind} (ho : o.op = .index t x y) (ht : P.underlying t = some .string) (ha : arrA P t = none) (hx : evP S x = .d (.val (sV l))) (hy : evP S y = .d (.val (.int kd i)))
    (h : 0 ≤ i ∧ i < (l.length : Int)) (hk : k (.d (.val (.int .u8 ((idx l i).toNat : Int)))) H nx [] []) : stepF P frz o ⟨S, H, nx, df⟩ k := by
  unfold stepF; rw [ho]
  simp only [pureF, indexP, ha, hx, hy, str_size]
  exact ⟨⟨fun _ => ht, h⟩, hk⟩
theorem sf_fldC {t : TypeId} {f off n : Nat} {ag : Bool} {x : Operand} {l : List D} (ho : o.op = .fieldAddr t x f) (ht : fldA P t f = some (off, n, ag)) (hn : n ≠ 0) (hx : evP S x = .d (.cptr l)) (hk : k (.d (.cptr (l.drop off))) H nx [] []) : stepF P frz o ⟨S, H, nx, df⟩ k := by
  unfold stepF; rw [ho]; simp only [pureF, fieldAddrP, ht, hx]; exact ⟨hn, hk⟩
theorem sf_fldV {t : TypeId} {f off n : Nat} {ag : Bool} {x : Operand} {id p : Nat} (ho : o.op = .fieldAddr t x f) (ht : fldA P t f = some (off, n, ag)) (hn : n ≠ 0) (hx : evP S x = .vptr id p) (hk : k (.vptr id (p + off)) H nx [] []) : stepF P frz o ⟨S, H, nx, df⟩ k := by
  unfold stepF; rw [ho]; simp only [pureF, fieldAddrP, ht, hx]; exact ⟨hn, hk⟩

/-- What n cells of l are: a struct or an array, or one cell's value. -/
def LdC (ag : Bool) (n : Nat) (l : List D) (d : D) : Prop := match ag with
  | true => n ≤ l.length ∧ D.agg (l.take n) = d
  | false => l ≠ [] ∧ l.headD default = d
theorem LdC.one {n : Nat} {d : D} {r : List D} : LdC false n (d :: r) d := ⟨by simp, rfl⟩
theorem sf_ldC {t : TypeId} {x : Operand} {l : List D} {ag : Bool} {n : Nat} {d : D} (ho : o.op = .load t x) (ht : tyA P t = some (ag, n)) (hx : evP S x = .d (.cptr l)) (h : LdC ag n l d) (hk : k (.d d) H nx [] []) : stepF P frz o ⟨S, H, nx, df⟩ k := by
  unfold stepF; rw [ho]; simp only [hx, ht]
  cases ag with
  | true => obtain ⟨h1, rfl⟩ := h; exact ⟨h1, hk⟩
  | false => obtain ⟨h1, rfl⟩ := h; exact ⟨h1, hk⟩
/-- What n cells of a variable are. -/
def LdV (ag : Bool) (n off : Nat) (l : List PV) (v : PV) : Prop := (off + n ≤ l.length ∧ 0 < n) ∧ partP ag l off n = v
theorem sf_ldV {t : TypeId} {x : Operand} {id off : Nat} {l : List PV} {ag : Bool} {n : Nat} {v : PV} (ho : o.op = .load t x) (ht : tyA P t = some (ag, n)) (hx : evP S x = .vptr id off) (hH : H id = some (.var l)) (h : LdV ag n off l v) (hk : k v H nx [id] []) : stepF P frz o ⟨S, H, nx, df⟩ k := by
  unfold stepF; rw [ho]; simp only [hx, ht, hH, loadV]
  obtain ⟨h1, rfl⟩ := h; exact ⟨h1, hk⟩
theorem sf_stV {t : TypeId} {x y : Operand} {id off n : Nat} {ag : Bool} {l c l' : List PV} {v : PV} (ho : o.op = .store t x y) (ht : tyA P t = some (ag, n)) (hx : evP S x = .vptr id off) (hH : H id = some (.var l)) (hy : evP S y = v) (hs : v.solid = true) (hc : v.cellsP = c) (hn : c.length = n) (hf : off + n ≤ l.length) (hl : spl l off c = l')
    (hk : k .junk (putH H id (some (.var l'))) nx [id] [id]) : stepF P frz o ⟨S, H, nx, df⟩ k := by
  unfold stepF; rw [ho]; simp only [hx, ht, hH, hy, hc, hl]
  exact ⟨⟨hs, hn, hf⟩, hk⟩
theorem sf_alloc {t : TypeId} {z : List Value} {l : List PV} (ho : o.op = .alloc t) (ht : zeroA P t = some z) (h1 : z.all Value.oneCell' = true) (hl : z.map cellV = l) (hk : k (.vptr nx 0) (putH H nx (some (.var l))) (nx + 1) [] []) : stepF P frz o ⟨S, H, nx, df⟩ k := by
  unfold stepF; rw [ho]; simp only [ht, hl]; exact ⟨h1, hk⟩
theorem sf_boxF {t : TypeId} {x : Operand} {v : PV} {ds : List D} (ho : o.op = .box t x) (hf : frozenDst frz o.dst = true) (hx : evP S x = v) (hs : v.solid = true) (hd : PV.toDs v.cellsP = some ds) (hk : k (.d (.cptr ds)) H nx [] []) : stepF P frz o ⟨S, H, nx, df⟩ k := by
  unfold stepF; rw [ho]; simp only [hx, hd]; rw [if_pos hf]; exact ⟨hs, hk⟩
theorem sf_boxV {t : TypeId} {x : Operand} {v : PV} {c : List PV} (ho : o.op = .box t x) (hf : frozenDst frz o.dst = false) (hx : evP S x = v) (hs : v.solid = true) (hc : v.cellsP = c) (hk : k (.vptr nx 0) (putH H nx (some (.var c))) (nx + 1) [] []) : stepF P frz o ⟨S, H, nx, df⟩ k := by
  unfold stepF; rw [ho]; simp only [hx, hc]; rw [if_neg (by rw [hf]; simp)]; exact ⟨hs, hk⟩
theorem sf_extract {x : Operand} {i : Nat} {l : List D} {d : D} (ho : o.op = .extract x i) (hx : evP S x = .d (.tuple l)) (h : l[i]? = some d) (hk : k (.d d) H nx [] []) : stepF P frz o ⟨S, H, nx, df⟩ k := by
  unfold stepF; rw [ho]; simp only [pureF, extractP, hx]
  have hi := (List.getElem?_eq_some_iff.1 h).1
  refine ⟨hi, ?_⟩
  rw [List.getD_eq_getElem?_getD, h]; exact hk
theorem sf_extractP {x : Operand} {i : Nat} {l : List PV} {d : PV} (ho : o.op = .extract x i) (hx : evP S x = .tuple l) (h : l[i]? = some d) (hk : k d H nx [] []) : stepF P frz o ⟨S, H, nx, df⟩ k := by
  unfold stepF; rw [ho]; simp only [pureF, extractP, hx]
  have hi := (List.getElem?_eq_some_iff.1 h).1
  refine ⟨hi, ?_⟩
  rw [List.getD_eq_getElem?_getD, h]; exact hk

/-! ### Parts of texts and rows -/
theorem sf_subS {t : TypeId} {x : Operand} {lo hi : Option Operand} {l : List UInt8} {a b : Int} (ho : o.op = .slice t x lo hi none) (ht : P.underlying t = some .string) (hx : evP S x = .d (.val (sV l))) (ha : bnd 0 (lo.map (evP S)) = some a) (hb : bnd (l.length : Int) (hi.map (evP S)) = some b)
    (h : 0 ≤ a ∧ a ≤ b ∧ b ≤ (l.length : Int)) (hk : k (.d (.val (sV (sub l a b)))) H nx [] []) : stepF P frz o ⟨S, H, nx, df⟩ k := by
  unfold stepF; rw [ho]
  simp only [pureF, slcF, ht, hx, ha, str_size, Option.map_none, hb]
  refine ⟨h, ?_⟩
  rw [str_extract]
  have e : b.toNat - a.toNat = (b - a).toNat := by omega
  rw [e]
  exact hk
theorem sf_subL {α : Type} {en : α → D} {c : α → List D} {n by' : Nat} {ag : Bool} {t e : TypeId} {x : Operand} {lo hi : Option Operand} {l : List α} {a b : Int} (ho : o.op = .slice t x lo hi none) (hu : P.underlying t = some (.slice e)) (ht : slcA P t = some (n, by', ag)) (hl : Lay en c n) (hx : (evP S x).elems = some (l.map en))
    (ha : bnd 0 (lo.map (evP S)) = some a) (hb : bnd (l.length : Int) (hi.map (evP S)) = some b) (h : 0 ≤ a ∧ a ≤ b ∧ b ≤ (l.length : Int)) (hk : k (.d (.slice ((sub l a b).map en))) H nx [] []) : stepF P frz o ⟨S, H, nx, df⟩ k := by
  unfold stepF; rw [ho]
  simp only [pureF, slcF, hu, ht, hx, ha, Option.map_none, List.length_map, hb]
  refine ⟨⟨h, hl.all l⟩, ?_⟩
  rw [← List.map_drop, ← List.map_take]
  exact hk
theorem sf_subL3 {α : Type} {en : α → D} {c : α → List D} {n by' : Nat} {ag : Bool} {t e : TypeId} {x hi mx : Operand} {lo : Option Operand} {l : List α} {a b : Int} {kd kd' : IntKind} (ho : o.op = .slice t x lo (some hi) (some mx)) (hu : P.underlying t = some (.slice e)) (ht : slcA P t = some (n, by', ag)) (hl : Lay en c n) (hx : (evP S x).elems = some (l.map en))
    (ha : bnd 0 (lo.map (evP S)) = some a) (hb : evP S hi = .d (.val (.int kd b))) (hm : evP S mx = .d (.val (.int kd' b))) (h : 0 ≤ a ∧ a ≤ b ∧ b ≤ (l.length : Int)) (hk : k (.full ((sub l a b).map en)) H nx [] []) : stepF P frz o ⟨S, H, nx, df⟩ k := by
  unfold stepF; rw [ho]
  simp only [pureF, slcF, hu, ht, hx, ha, Option.map_some, hb, hm, List.length_map]
  refine ⟨⟨h, trivial, hl.all l⟩, ?_⟩
  rw [← List.map_drop, ← List.map_take]
  exact hk

/-! ### New rows; appending -/
theorem sf_row {α : Type} {en : α → D} {c : α → List D} {n by' : Nat} {t : TypeId} {sz : Nat} {parts : Array (Nat × Operand)} {l : List α} (ho : o.op = .buildSlice t sz parts) (ht : rowA P t = some (n, by')) (hl : Lay en c n) (hx : PV.toDs (partsP S parts.toList) = some (l.map en)) (h1 : keysOf parts.toList = List.range sz) (h2 : sz * n ≤ 2 ^ 24)
    (h3 : solids (partsP S parts.toList)) (hk : k (.full (l.map en)) H nx [] []) : stepF P frz o ⟨S, H, nx, df⟩ k := by
  unfold stepF; rw [ho]; simp only [pureF, ht, hx]
  exact ⟨⟨h1, h2, h3, hl.all l⟩, hk⟩
theorem sf_appO {α : Type} {en : α → D} {c : α → List D} {n by' id : Nat} {t u : TypeId} {d : TypeDesc} {x y : Operand} {l l2 : List α} (ho : o.op = .call { callee := .builtin .append, args := #[x, y], argTypes := #[t, u] }) (ht : rowA P t = some (n, by')) (hu : P.underlying u = some d) (hd : notInt d = true) (hl : Lay en c n)
    (hx : evP S x = .own id (l.map en)) (hH : H id = some (.spare n l.length)) (hy : (evP S y).more = some (l2.map en)) (h : (l.length + l2.length) * by' ≤ 140737488355328) (hb : 0 < by')
    (hk : k (.own nx ((l ++ l2).map en)) (putH (putH H id none) nx (some (.spare n (l ++ l2).length))) (nx + 1) [id] [id]) : stepF P frz o ⟨S, H, nx, df⟩ k := by
  unfold stepF; rw [ho]
  simp only [appendF, ht, hu, hy, hx, List.length_map]
  refine ⟨⟨hd, hH, hl.all l, hl.all l2⟩, ⟨h, ?_⟩, ?_⟩
  · have : (l.length + l2.length) * 1 ≤ (l.length + l2.length) * by' := Nat.mul_le_mul_left _ hb
    rw [maxLen_val]; omega
  · rw [← List.map_append, ← List.length_append]; exact hk
theorem sf_appF {α : Type} {en : α → D} {c : α → List D} {n by' : Nat} {t u : TypeId} {d : TypeDesc} {x y : Operand} {l l2 : List α} (ho : o.op = .call { callee := .builtin .append, args := #[x, y], argTypes := #[t, u] }) (ht : rowA P t = some (n, by')) (hu : P.underlying u = some d) (hd : notInt d = true) (hl : Lay en c n)
    (hx : evP S x = .full (l.map en)) (hy : (evP S y).more = some (l2.map en)) (h : (l.length + l2.length) * by' ≤ 140737488355328 ∧ (l2 = [] → l = [])) (hb : 0 < by')
    (hk : k (.own nx ((l ++ l2).map en)) (putH H nx (some (.spare n (l ++ l2).length))) (nx + 1) [] []) : stepF P frz o ⟨S, H, nx, df⟩ k := by
  unfold stepF; rw [ho]
  simp only [appendF, ht, hu, hy, hx, List.length_map]
  refine ⟨⟨hd, hl.all l, hl.all l2⟩, ⟨h.1, ?_, ?_⟩, ?_⟩
  · have : (l.length + l2.length) * 1 ≤ (l.length + l2.length) * by' := Nat.mul_le_mul_left _ hb
    rw [maxLen_val]; omega
  · intro e; rw [h.2 (List.map_eq_nil_iff.1 e)]; rfl
  · rw [← List.map_append, ← List.length_append]; exact hk

/-! ### Structs and arrays made; function values -/
theorem sf_build {t : TypeId} {parts : Array (Nat × Operand)} {v : PV} (ho : o.op = .build t parts) (h1 : (buildP (bldA P t) (partsQ S parts.toList)).2) (h2 : (buildP (bldA P t) (partsQ S parts.toList)).1 = v) (hk : k v H nx [] []) : stepF P frz o ⟨S, H, nx, df⟩ k := by
  unfold stepF; rw [ho]; subst h2; exact ⟨h1, hk⟩
theorem sf_func {f : Nat} {caps : Array Operand} {v : PV} (ho : o.op = .makeFunc (.func f) #[] caps) (h : cloP f (caps.toList.map (evP S)) = v) (hk : k v H nx [] []) : stepF P frz o ⟨S, H, nx, df⟩ k := by
  unfold stepF; rw [ho]; subst h; exact ⟨rfl, hk⟩
theorem sf_aggeq {t u : TypeId} {x y : Operand} {dx dy : D} {b : Bool} (ho : o.op = .binOp .eql t x y u) (ha : aggy (evP S x) = true) (hx : (evP S x).toD = some dx) (hy : (evP S y).toD = some dy) (h : EqRun P t dx dy b) (hk : k (.d (.val (.bool b))) H nx [] []) : stepF P frz o ⟨S, H, nx, df⟩ k := by
  unfold stepF; rw [ho]; simp only [isEq, ha, Bool.and_self, if_true, hx, hy]; exact ⟨b, h, hk⟩
theorem sf_aggne {t u : TypeId} {x y : Operand} {dx dy : D} {b : Bool} (ho : o.op = .binOp .neq t x y u) (ha : aggy (evP S x) = true) (hx : (evP S x).toD = some dx) (hy : (evP S y).toD = some dy) (h : EqRun P t dx dy b) (hk : k (.d (.val (.bool (!b)))) H nx [] []) : stepF P frz o ⟨S, H, nx, df⟩ k := by
  unfold stepF; rw [ho]; simp only [isEq, ha, Bool.and_self, if_true, hx, hy]; exact ⟨b, h, hk⟩
theorem sf_call {c : Call} {f : Nat} {ds : List D} {d : D} (ho : o.op = .call c) (hc : c.callee = .value (.func f)) (he : entersB P f = true) (hd : PV.toDs (c.args.toList.map (evP S)) = some ds) (hF : Fun P f ds d) (hk : k (.d d) H nx [] []) : stepF P frz o ⟨S, H, nx, df⟩ k := by
  unfold stepF; rw [ho]; simp only [hc, hd]; exact ⟨he, d, hF, hk⟩
theorem sf_clo {c : Call} {t : Nat} {f : Nat} {ds caps : List D} {d : D} (ho : o.op = .call c) (hc : c.callee = .value (.tmp t)) (ht : S t = .d (.clo f caps)) (he : entersB P f = true) (hd : PV.toDs (c.args.toList.map (evP S)) = some ds) (hF : Fun P f (ds ++ caps) d) (hk : k (.d d) H nx [] []) : stepF P frz o ⟨S, H, nx, df⟩ k := by
  unfold stepF; rw [ho]; simp only [hc, evP, ht, hd]; exact ⟨he, d, hF, hk⟩
end
end Go.Proofs.Ytonlehebfeilmaa.K
