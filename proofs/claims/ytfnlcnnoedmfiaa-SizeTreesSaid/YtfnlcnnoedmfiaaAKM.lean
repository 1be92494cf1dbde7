import Derived.Test.YtfnlcnnoedmfiaaAKL
import Derived.KernelRfl
/- Short names of what the walks say often. -/
namespace Go.Proofs.Ytfnlcnnoedmfiaa.K
open Go Go.RowKit
set_option linter.unusedVariables false
set_option linter.unusedSectionVars false
set_option linter.unusedSimpArgs false
theorem zL {n : Nat} : 0 ≤ n := Nat.zero_le n
theorem g3 {α β γ δ : Type} {a : α} {b : β} {c : γ} {d : δ} {p : PV} : (a = a ∧ b = b ∧ c = c) ∧ d = d ∧ Imp p p := ⟨⟨rfl, rfl, rfl⟩, rfl, Imp.refl⟩
theorem nm0 {g : Prop} {p : Nat → Prop} : g → ∀ i ∈ ([] : List Nat), p i := fun _ _ hi => nomatch hi
theorem cda {a b : Bool} (h : (a && b) = true) : a = true := (Bool.and_eq_true_iff.mp h).1
theorem cdb {a b c : Bool} (h : ((a && b) && c) = true) : a = true := cda (cda h)
theorem QW.rT {P : Program} {N id : Nat} {ops : Array Oper} {s : St} {Q : PX → St → Prop} (hok : dstsIn ops N = true) (h : XK P ops ops.toList s Q) : QW P N 0 (.region id ops false) s Q := QW.region (Nat.zero_le _) (PW.regT hok h)
theorem QW.sT {P : Program} {N id : Nat} {ops : Array Oper} {y : Code} {s : St} {Q : PX → St → Prop} (hok : dstsIn ops N = true) (h : XK P ops ops.toList s (PX.then (fun s' => QW P N 0 y s' Q) Q)) : QW P N 0 (.seq (.region id ops false) y) s Q := QW.seq (QW.rT hok h)
theorem XK.nz {P : Program} {ops : Array Oper} {s : St} {next : St → Prop} {Q : PX → St → Prop} (h : next s) : XK P ops [] s (PX.then next Q) := XK.nil (nrm h)
abbrev pI (n : Int) : PV := .d (.val (.int .i64 n))
abbrev pS (l : List UInt8) : PV := .d (.val (sV l))
abbrev pB (b : Bool) : PV := .d (.val (.bool b))
theorem iC {p : PV} {A : Prop} (h : A) : Imp p p ∧ A := ⟨Imp.refl, h⟩
theorem xs {P : Program} {ops : Array Oper} {o : Oper} {r : List Oper} {S : Nat → PV} {H : HM} {nx : Nat} {df : List (Nat × List PV)} {Q : PX → St → Prop} (d : Nat) (h0 : (o.dst, o.guard) = (some d, none)) (h : stepF P [] o ⟨S, H, nx, df⟩ fun v H' nx' _ _ => XK P ops r ⟨putS S (some d) v, H', nx', df⟩ Q) : XK P ops (o :: r) ⟨S, H, nx, df⟩ Q := XK.st (some d) (congrArg Prod.fst h0) (congrArg Prod.snd h0) h
theorem bL {a b : Nat} (h : Nat.ble a b = true := by exact rfl) : a ≤ b := Nat.le_of_ble_eq_true h
section
variable {P : Program} {N id : Nat} {ops : Array Oper} {o : Oper} {r : List Oper} {x : Operand} {y : Code} {S : Nat → PV} {H : HM} {nx b : Nat} {df : List (Nat × List PV)} {s : St} {next : St → Prop} {Q : PX → St → Prop}
theorem rG (h : XK P ops ops.toList s Q) (hok : dstsIn ops N = true := by kernel_rfl) : QW P N 0 (.region id ops false) s Q := QW.rT hok h
theorem sR (h : XK P ops ops.toList s (PX.then (fun s' => QW P N 0 y s' Q) Q)) (hok : dstsIn ops N = true := by kernel_rfl) : QW P N 0 (.seq (.region id ops false) y) s Q := QW.sT hok h
theorem xm (d : Nat) (v : PV) (k : XK P ops r ⟨putS S (some d) v, H, nx, df⟩ Q) (h0 : (o.dst, o.guard) = (some d, none) := by exact rfl) (ho : o.op = .move x := by exact rfl) (hx : evP S x = v := by exact rfl) : XK P ops (o :: r) ⟨S, H, nx, df⟩ Q := xs d h0 (sf_move ho hx k)
theorem xa (d : Nat) (v : PV) (k : XK P ops r ⟨putS S (some d) v, H, nx, df⟩ Q) (h0 : (o.dst, o.guard) = (some d, none) := by exact rfl) (ho : o.op = .assign x := by exact rfl) (hx : evP S x = v := by exact rfl) : XK P ops (o :: r) ⟨S, H, nx, df⟩ Q := xs d h0 (sf_assign ho hx k)
theorem xz (d : Nat) (v : PV) (k : next ⟨putS S (some d) v, H, nx, df⟩) (h0 : (o.dst, o.guard) = (some d, none) := by exact rfl) (ho : o.op = .assign x := by exact rfl) (hx : evP S x = v := by exact rfl) : XK P ops [o] ⟨S, H, nx, df⟩ (PX.then next Q) := xs d h0 (sf_assign ho hx (XK.nz k))
theorem xg {g : Bool} (d : Nat) (v : PV) (hd : o.dst = some d) (hg : guardP ops o S = some g) (h : g = true → stepF P [] o ⟨unS S, H, nx, df⟩ fun v' H' nx' T' W => (W = [] ∧ nx' = nx ∧ T' = []) ∧ H' = H ∧ Imp v' v)
    (k : XK P ops r ⟨putS S (some d) (.cond g v), H, nx, df⟩ Q) (hc : condsOK g S o.op.operands.toList := by repeat (first | exact trivial | refine ⟨fun q => by first | rfl | exact q | exact cda q | exact cdb q, ?_⟩)) : XK P ops (o :: r) ⟨S, H, nx, df⟩ Q := XK.gd (T := []) (some d) hd hg hc h nm0 k
end
end Go.Proofs.Ytfnlcnnoedmfiaa.K
