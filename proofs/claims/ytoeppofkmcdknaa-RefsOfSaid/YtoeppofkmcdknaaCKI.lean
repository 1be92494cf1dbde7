import Derived.Test.YtoeppofkmcdknaaCKH
/- New rows: made with room, made of parts as one's own; pointers against nil. -/
namespace Go.Proofs.Ytoeppofkmcdknaa.K
open Go Go.RowKit
set_option linter.unusedVariables false
set_option linter.unusedSimpArgs false
set_option linter.unusedSectionVars false
variable {P : Program}
section
variable {o : Oper} {S : Nat → PV} {H : HM} {nx : Nat} {df : List (Nat × List PV)} {frz : List Nat} {k : PV → HM → Nat → List Nat → List Nat → Prop}
theorem v2s_arr {n : Nat} {a : Arr n UInt8} {p q : Int} (h : 0 ≤ p ∧ p ≤ q ∧ q ≤ (n : Int)) : (((a.1.map byteD).map PV.d).drop (0 + p.toNat)).take (q - p).toNat = ((sub a.1 p q).map byteD).map .d := by
  unfold sub
  rw [Nat.zero_add, ← List.map_drop, ← List.map_drop, ← List.map_take, ← List.map_take]
theorem v2s_arrL {n : Nat} {a : Arr n UInt8} {p q : Int} (h : 0 ≤ p ∧ p ≤ q ∧ q ≤ (n : Int)) : (sub a.1 p q).length = (q - p).toNat := by
  unfold sub
  rw [List.length_take, List.length_drop, a.2]; omega
end
end Go.Proofs.Ytoeppofkmcdknaa.K
