import Derived.Test.YtoeppofkmcdknaaS6KD
import Derived.ChangeKeysEq
import Derived.Laws.StructEq
/- Words of 32 and 64 bits; laws of any operation (stepO); writable rows; structs and arrays held against each other. -/
namespace Go.Proofs.Ytoeppofkmcdknaa.K
open Go Go.RowKit
set_option linter.unusedVariables false
set_option linter.unusedSimpArgs false
set_option linter.unusedSectionVars false
variable {P : Program} {N : Nat} {ops : Array Oper} {o : Oper} {r : List Oper}
def stepO (P : Program) (o : Oper) (s : St) (k : PV → HM → Nat → List Nat → List Nat → Prop) : Prop :=
  (∀ i, s.nx ≤ i → s.H i = none) → ∃ v H' nx' T W, OpSem P o s v H' nx' T W ∧ k v H' nx' T W
section
variable {S : Nat → PV} {H : HM} {nx : Nat} {df : List (Nat × List PV)}
theorem XK.so {Q : PX → St → Prop} (d : Option Nat) (hd : o.dst = d) (hg : o.guard = none) (h : stepO P o ⟨S, H, nx, df⟩ fun v H' nx' _ _ => XK P ops r ⟨putS S d v, H', nx', df⟩ Q) : XK P ops (o :: r) ⟨S, H, nx, df⟩ Q := by
  intro hn
  subst hd
  obtain ⟨v, H', nx', T, W, h1, h3⟩ := h hn
  exact .step (.run hg h1) (h3 h1.nil)
end
section
variable {S : Nat → PV} {H : HM} {nx : Nat} {df : List (Nat × List PV)} {k : PV → HM → Nat → List Nat → List Nat → Prop}
theorem so_pure {v v' : PV} (h : PureRun P o S v) (hi : Imp v v') (hk : k v' H nx [] []) : stepO P o ⟨S, H, nx, df⟩ k :=
  fun hn => ⟨_, _, _, _, _, (pure_step (s := ⟨S, H, nx, df⟩) hn h.op).imp hi, hk⟩
theorem idLt {s : St} {id : Nat} {h : HO} (hn : ∀ i, s.nx ≤ i → s.H i = none) (hH : s.H id = some h) : id < s.nx := by
  rcases Nat.lt_or_ge id s.nx with h' | h'
  · exact h'
  · rw [hn id h'] at hH; cases hH
theorem so_idxR {t : TypeId} {x y : Operand} {id off n sz by' : Nat} {ag : Bool} {i : Int} {kd : IntKind} (ho : o.op = .indexAddr t x y) (ht : slcA P t = some (sz, by', ag)) (hx : evP S x = .vrow id off n) (hy : evP S y = .d (.val (.int kd i)))
    (h : 0 ≤ i ∧ i < (n : Int)) (hk : k (.vptr id (off + i.toNat * sz)) H nx [] []) : stepO P o ⟨S, H, nx, df⟩ k := by
  refine so_pure (v := .vptr id (off + i.toNat * sz)) ?_ Imp.refl hk
  refine PureRun.still fun m ρ a w hm hx' => ?_
  have e1 := hx' x (by simp [ho, Op.operands])
  have e2 := hx' y (by simp [ho, Op.operands])
  obtain ⟨dst, op', type, pos, after, guard⟩ := o
  simp only at ho
  subst ho
  rw [hx] at e1
  rw [hy] at e2
  simp only [Rep, RepD] at e1 e2
  obtain ⟨e, inf, hu, het, hi, _, _⟩ := slcA_spec ht
  have hsz := (tyA_spec het w).2
  obtain ⟨h3, h4⟩ := h
  rcases e1 with ⟨b, c, kk, hr, ev, _⟩ | ⟨h0, _⟩
  · refine ⟨.pointer (some ⟨b, off + i.toNat * sz, none⟩), ?_, by simp only [Rep]; exact ⟨b, c, hr, rfl⟩⟩
    simp [execOp, Instr.indexAt, e2, asIntOf, ev, run_underlying hu, hsz, h3, h4, addr_add]
  · omega
end
section
variable {S : Nat → PV} {H : HM} {nx : Nat} {df : List (Nat × List PV)} {frz : List Nat} {k : PV → HM → Nat → List Nat → List Nat → Prop}
class Wk (kd : IntKind) (w : outParam Nat) : Prop where
  bits : kd.bits = w
  wrap : ∀ n : Int, kd.wrap n = ((BitVec.ofInt w n).toNat : Int)
  pos : 0 < w
instance : Wk .u32 32 := ⟨rfl, fun n => by rw [IntKind.wrap_u32, BitVec.toNat_ofInt]; omega, by decide⟩
instance : Wk .u64 64 := ⟨rfl, fun n => by rw [IntKind.wrap_u64, BitVec.toNat_ofInt]; omega, by decide⟩
variable {kd : IntKind} {w : Nat} [Wk kd w]
end
end Go.Proofs.Ytoeppofkmcdknaa.K
