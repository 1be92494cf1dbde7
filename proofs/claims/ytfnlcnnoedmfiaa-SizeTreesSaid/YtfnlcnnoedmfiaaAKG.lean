import Derived.Test.YtfnlcnnoedmfiaaAKF
/- Elements of arrays within variables; bytes copied; the last field. -/
namespace Go.Proofs.Ytfnlcnnoedmfiaa.K
open Go Go.RowKit
set_option linter.unusedVariables false
set_option linter.unusedSimpArgs false
set_option linter.unusedSectionVars false
variable {P : Program}
section
variable {n : Nat} {α : Type} {en : α → D}
theorem spl_arr0 {a : Arr n α} {i : Int} {x : α} (h : 0 ≤ i ∧ i < (n : Int)) : spl ((a.1.map en).map PV.d) (i.toNat * 1) [PV.d (en x)] = ((a.put i x).1.map en).map PV.d := by
  have := spl_arr (en := en) (a := a) (x := x) h
  rwa [Nat.zero_add] at this
theorem le_seg {l : List PV} {i : Int} {m tot : Nat} (h : 0 ≤ i ∧ i < (n : Int)) (hl : l.length = tot) (hm : m + n ≤ tot) : m + i.toNat * 1 + 1 ≤ l.length := by omega
end
end Go.Proofs.Ytfnlcnnoedmfiaa.K
