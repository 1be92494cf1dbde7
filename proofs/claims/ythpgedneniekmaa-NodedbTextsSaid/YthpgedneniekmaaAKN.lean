import Derived.Test.YthpgedneniekmaaAKM
/- A row that is made and is one's own, so that it may be appended to. -/
namespace Go.Proofs.Ythpgedneniekmaa.K
open Go Go.RowKit
set_option linter.unusedVariables false
set_option linter.unusedSimpArgs false
set_option linter.unusedSectionVars false
variable {P : Program}
def e32 (x : BitVec 32) : D := .val (.int .u32 (x.toNat : Int))
def e64 (x : BitVec 64) : D := .val (.int .u64 (x.toNat : Int))
theorem lay_64 : Lay e64 (fun x => [.val (.int .u64 (x.toNat : Int))]) 1 := ⟨fun _ => rfl, fun _ => rfl⟩
end Go.Proofs.Ythpgedneniekmaa.K
