import Derived.Test.YtoeppofkmcdknaaCKI
/- Small laws for the printed walks. -/
namespace Go.Proofs.Ytoeppofkmcdknaa.K
open Go Go.RowKit
set_option linter.unusedVariables false
set_option linter.unusedSimpArgs false
set_option linter.unusedSectionVars false
variable {P : Program}
section
variable {N : Nat} {ops : Array Oper} {o : Oper} {r : List Oper} {S : Nat → PV} {H : HM} {nx : Nat} {df : List (Nat × List PV)}
theorem XK.nt {Q : PX → St → Prop} {t e u : TypeId} {x : Operand} {α : Type} {en : α → D} {l : List α} (d : Option Nat) (hd : o.dst = d) (hg : o.guard = none) (ho : o.op = .binOp .eql t x (.const (.slice none 0 0)) u) (hu : P.underlying t = some (.slice e)) (hx : evP S x = .d (.slice (l.map en)))
    (h0 : l = [] → XK P ops r ⟨putS S d (.d (.val (.bool true))), H, nx, df⟩ Q) (h1 : XK P ops r ⟨putS S d (.d (.val (.bool false))), H, nx, df⟩ Q) : XK P ops (o :: r) ⟨S, H, nx, df⟩ Q := by
  subst hd
  refine XK.nilTest (s := ⟨S, H, nx, df⟩) hg ho (.inl rfl) hu hx fun b hb => ?_
  cases b with
  | true => exact h0 (by cases l with | nil => rfl | cons y ys => simp at hb)
  | false => exact h1
end
end Go.Proofs.Ytoeppofkmcdknaa.K
