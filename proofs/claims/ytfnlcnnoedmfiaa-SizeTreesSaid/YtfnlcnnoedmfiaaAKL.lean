import Derived.Test.YtfnlcnnoedmfiaaAKK
/- Rows of one's own that are written in place. -/
namespace Go.Proofs.Ytfnlcnnoedmfiaa.K
open Go Go.RowKit
set_option linter.unusedVariables false
set_option linter.unusedSimpArgs false
set_option linter.unusedSectionVars false
variable {P : Program}
def rowC (l : List D) : List PV := (l.flatMap D.cells).map PV.d
section
variable {α : Type} {en : α → D} {c : α → List D} {sz : Nat}
theorem rowC_len (hl : Lay en c sz) : ∀ l : List α, (rowC (l.map en)).length = l.length * sz
  | [] => by simp [rowC]
  | x :: r => by
    have := rowC_len hl r
    have e : rowC ((x :: r).map en) = (c x).map PV.d ++ rowC (r.map en) := by simp [rowC, hl.cells]
    rw [e, List.length_append, List.length_map, hl.len, this, List.length_cons, Nat.succ_mul, Nat.add_comm]
end
variable {N b : Nat}
end Go.Proofs.Ytfnlcnnoedmfiaa.K
