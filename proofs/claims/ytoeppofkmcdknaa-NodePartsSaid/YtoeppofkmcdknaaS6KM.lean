import Derived.Test.YtoeppofkmcdknaaS6KL
/- Short names of what the walks say often. -/
namespace Go.Proofs.Ytoeppofkmcdknaa.K
open Go Go.RowKit
set_option linter.unusedVariables false
set_option linter.unusedSectionVars false
theorem g3 {α β γ δ : Type} {a : α} {b : β} {c : γ} {d : δ} {p : PV} : (a = a ∧ b = b ∧ c = c) ∧ d = d ∧ Imp p p := ⟨⟨rfl, rfl, rfl⟩, rfl, Imp.refl⟩
theorem nm0 {g : Prop} {p : Nat → Prop} : g → ∀ i ∈ ([] : List Nat), p i := fun _ _ hi => nomatch hi
theorem cda {a b : Bool} (h : (a && b) = true) : a = true := (Bool.and_eq_true_iff.mp h).1
theorem cdb {a b c : Bool} (h : ((a && b) && c) = true) : a = true := cda (cda h)
theorem XK.nz {P : Program} {ops : Array Oper} {s : St} {next : St → Prop} {Q : PX → St → Prop} (h : next s) : XK P ops [] s (PX.then next Q) := XK.nil (nrm h)
end Go.Proofs.Ytoeppofkmcdknaa.K
