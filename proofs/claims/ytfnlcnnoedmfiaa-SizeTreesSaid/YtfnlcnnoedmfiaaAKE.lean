import Derived.Test.YtfnlcnnoedmfiaaAKD
import Derived.ChangeKeysEq
import Derived.Laws.StructEq
/- Words of 32 and 64 bits; laws of any operation (stepO); writable rows; structs and arrays held against each other. -/
namespace Go.Proofs.Ytfnlcnnoedmfiaa.K
open Go Go.RowKit
set_option linter.unusedVariables false
set_option linter.unusedSimpArgs false
set_option linter.unusedSectionVars false
variable {P : Program} {N : Nat} {ops : Array Oper} {o : Oper} {r : List Oper}
def stepO (P : Program) (o : Oper) (s : St) (k : PV → HM → Nat → List Nat → List Nat → Prop) : Prop :=
  (∀ i, s.nx ≤ i → s.H i = none) → ∃ v H' nx' T W, OpSem P o s v H' nx' T W ∧ k v H' nx' T W
section
variable {S : Nat → PV} {H : HM} {nx : Nat} {df : List (Nat × List PV)}
theorem XK.so {Q : PX → St → Prop} (d : Option Nat) (hd : o.dst = d) (hg : o.guard = none) (h : stepO P o ⟨S, H, nx, df⟩ fun v H' nx' _ _ => XK P ops r ⟨putS S d v, H', nx', df⟩ Q) : XK P ops (o :: r) ⟨S, H, nx, df⟩ Q := by
  intro hn
  subst hd
  obtain ⟨v, H', nx', T, W, h1, h3⟩ := h hn
  exact .step (.run hg h1) (h3 h1.nil)
end
section
variable {S : Nat → PV} {H : HM} {nx : Nat} {df : List (Nat × List PV)} {frz : List Nat} {k : PV → HM → Nat → List Nat → List Nat → Prop}
class Wk (kd : IntKind) (w : outParam Nat) : Prop where
  bits : kd.bits = w
  wrap : ∀ n : Int, kd.wrap n = ((BitVec.ofInt w n).toNat : Int)
  pos : 0 < w
instance : Wk .u32 32 := ⟨rfl, fun n => by rw [IntKind.wrap_u32, BitVec.toNat_ofInt]; omega, by decide⟩
instance : Wk .u64 64 := ⟨rfl, fun n => by rw [IntKind.wrap_u64, BitVec.toNat_ofInt]; omega, by decide⟩
variable {kd : IntKind} {w : Nat} [Wk kd w]
omit [Wk kd w] in
theorem ofInt_wd (a : BitVec w) : BitVec.ofInt w (a.toNat : Int) = a := by
  apply BitVec.eq_of_toNat_eq
  rw [BitVec.toNat_ofInt]
  have := a.isLt
  rw [Int.emod_eq_of_lt (by omega) (by exact_mod_cast this)]; simp
theorem sf_wadd' {t u : TypeId} {x y : Operand} {a b : BitVec w} (ho : o.op = .binOp .add t x y u) (hx : evP S x = .d (.val (.int kd (a.toNat : Int)))) (hy : evP S y = .d (.val (.int kd (b.toNat : Int)))) (hk : k (.d (.val (.int kd ((a + b).toNat : Int)))) H nx [] []) : stepF P frz o ⟨S, H, nx, df⟩ k :=
  sf_bin ho hx hy rfl rfl (by show PV.d (.val (.int kd (kd.wrap ((a.toNat : Int) + (b.toNat : Int))))) = _; rw [Wk.wrap (kd := kd), BitVec.ofInt_add, ofInt_wd, ofInt_wd]) hk
theorem sf_wsub' {t u : TypeId} {x y : Operand} {a b : BitVec w} (ho : o.op = .binOp .sub t x y u) (hx : evP S x = .d (.val (.int kd (a.toNat : Int)))) (hy : evP S y = .d (.val (.int kd (b.toNat : Int)))) (hk : k (.d (.val (.int kd ((a - b).toNat : Int)))) H nx [] []) : stepF P frz o ⟨S, H, nx, df⟩ k :=
  sf_bin ho hx hy rfl rfl (by show PV.d (.val (.int kd (kd.wrap ((a.toNat : Int) - (b.toNat : Int))))) = _; rw [Wk.wrap (kd := kd), Int.sub_eq_add_neg, BitVec.ofInt_add, BitVec.ofInt_neg, ofInt_wd, ofInt_wd, ← BitVec.sub_eq_add_neg]) hk
theorem sf_wmul' {t u : TypeId} {x y : Operand} {a b : BitVec w} (ho : o.op = .binOp .mul t x y u) (hx : evP S x = .d (.val (.int kd (a.toNat : Int)))) (hy : evP S y = .d (.val (.int kd (b.toNat : Int)))) (hk : k (.d (.val (.int kd ((a * b).toNat : Int)))) H nx [] []) : stepF P frz o ⟨S, H, nx, df⟩ k :=
  sf_bin ho hx hy rfl rfl (by show PV.d (.val (.int kd (kd.wrap ((a.toNat : Int) * (b.toNat : Int))))) = _; rw [Wk.wrap (kd := kd), BitVec.ofInt_mul, ofInt_wd, ofInt_wd]) hk
omit [Wk kd w] in
theorem wd_ne {b : BitVec w} (h : b ≠ 0) : (b.toNat : Int) ≠ 0 := by
  intro e; apply h; apply BitVec.eq_of_toNat_eq; simp; omega
theorem sf_wquo' {t u : TypeId} {x y : Operand} {a b : BitVec w} (ho : o.op = .binOp .quo t x y u) (hx : evP S x = .d (.val (.int kd (a.toNat : Int)))) (hy : evP S y = .d (.val (.int kd (b.toNat : Int)))) (h : b ≠ 0) (hk : k (.d (.val (.int kd ((a / b).toNat : Int)))) H nx [] []) : stepF P frz o ⟨S, H, nx, df⟩ k := by
  refine sf_bin ho hx hy rfl ⟨rfl, wd_ne h⟩ ?_ hk
  show PV.d (.val (.int kd (kd.wrap ((a.toNat : Int).tdiv (b.toNat : Int))))) = _
  have e : (a.toNat : Int).tdiv (b.toNat : Int) = ((a / b).toNat : Int) := by rw [BitVec.toNat_udiv]; rfl
  rw [e, Wk.wrap (kd := kd), ofInt_wd]
omit [Wk kd w] in
theorem sf_wrem' {t u : TypeId} {x y : Operand} {a b : BitVec w} (ho : o.op = .binOp .rem t x y u) (hx : evP S x = .d (.val (.int kd (a.toNat : Int)))) (hy : evP S y = .d (.val (.int kd (b.toNat : Int)))) (h : b ≠ 0) (hk : k (.d (.val (.int kd ((a % b).toNat : Int)))) H nx [] []) : stepF P frz o ⟨S, H, nx, df⟩ k := by
  refine sf_bin ho hx hy rfl ⟨rfl, wd_ne h⟩ ?_ hk
  show PV.d (.val (.int kd ((a.toNat : Int).tmod (b.toNat : Int)))) = _
  have e : (a.toNat : Int).tmod (b.toNat : Int) = ((a % b).toNat : Int) := by rw [BitVec.toNat_umod]; rfl
  rw [e]
theorem sf_wand' {t u : TypeId} {x y : Operand} {a b : BitVec w} (ho : o.op = .binOp .and t x y u) (hx : evP S x = .d (.val (.int kd (a.toNat : Int)))) (hy : evP S y = .d (.val (.int kd (b.toNat : Int)))) (hk : k (.d (.val (.int kd ((a &&& b).toNat : Int)))) H nx [] []) : stepF P frz o ⟨S, H, nx, df⟩ k := by
  have hb := Wk.bits (kd := kd)
  subst hb
  refine sf_bin ho hx hy rfl rfl ?_ hk
  show PV.d (.val (.int kd (kd.wrap (BitVec.ofInt kd.bits a.toNat &&& BitVec.ofInt kd.bits b.toNat).toNat))) = _
  rw [ofInt_wd, ofInt_wd, Wk.wrap (kd := kd), ofInt_wd]
theorem sf_wor' {t u : TypeId} {x y : Operand} {a b : BitVec w} (ho : o.op = .binOp .or t x y u) (hx : evP S x = .d (.val (.int kd (a.toNat : Int)))) (hy : evP S y = .d (.val (.int kd (b.toNat : Int)))) (hk : k (.d (.val (.int kd ((a ||| b).toNat : Int)))) H nx [] []) : stepF P frz o ⟨S, H, nx, df⟩ k := by
  have hb := Wk.bits (kd := kd)
  subst hb
  refine sf_bin ho hx hy rfl rfl ?_ hk
  show PV.d (.val (.int kd (kd.wrap (BitVec.ofInt kd.bits a.toNat ||| BitVec.ofInt kd.bits b.toNat).toNat))) = _
  rw [ofInt_wd, ofInt_wd, Wk.wrap (kd := kd), ofInt_wd]
theorem sf_wxor' {t u : TypeId} {x y : Operand} {a b : BitVec w} (ho : o.op = .binOp .xor t x y u) (hx : evP S x = .d (.val (.int kd (a.toNat : Int)))) (hy : evP S y = .d (.val (.int kd (b.toNat : Int)))) (hk : k (.d (.val (.int kd ((a ^^^ b).toNat : Int)))) H nx [] []) : stepF P frz o ⟨S, H, nx, df⟩ k := by
  have hb := Wk.bits (kd := kd)
  subst hb
  refine sf_bin ho hx hy rfl rfl ?_ hk
  show PV.d (.val (.int kd (kd.wrap (BitVec.ofInt kd.bits a.toNat ^^^ BitVec.ofInt kd.bits b.toNat).toNat))) = _
  rw [ofInt_wd, ofInt_wd, Wk.wrap (kd := kd), ofInt_wd]
theorem sf_toW {t u : TypeId} {x : Operand} {kd' : IntKind} {n : Int} (ho : o.op = .convert t u x) (ht : P.underlying t = some (.int kd')) (hu : P.underlying u = some (.int kd)) (hx : evP S x = .d (.val (.int kd' n))) (hk : k (.d (.val (.int kd ((BitVec.ofInt w n).toNat : Int)))) H nx [] []) : stepF P frz o ⟨S, H, nx, df⟩ k := by
  unfold stepF; rw [ho]
  simp only [pureF, convF, ht, hu, hx]
  refine ⟨trivial, ?_⟩
  rw [Wk.wrap (kd := kd)]; exact hk
end
end Go.Proofs.Ytfnlcnnoedmfiaa.K
