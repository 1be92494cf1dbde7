/- The row of SizeTrees: whatever the input, the law's function returns true, and the input reads as it did. No condition. -/
import Derived.Test.YtfnlcnnoedmfiaaRows
import Derived.WalkKit
import Derived.ProofKit
import Derived.OpenShut
import Derived.Test.YtfnlcnnoedmfiaaAOSizeTrees
namespace Go.Proofs.Ytfnlcnnoedmfiaa.sizeTrees
open Go.ChangeShapes Go.WideShapes Go.ChangeAt Go.RowKit
set_option linter.unusedVariables false
theorem laid : laidOutB Try.prog = true := by kernel_rfl
theorem rec : ∀ t ∈ Try.f3.params.toList, Try.prog.readableRec t = true ∧ t < Try.prog.types.size := of_decide_eq_true (by kernel_rfl)
theorem own : ownKnob Try.prog.godebug = none := by kernel_rfl
set_option maxRecDepth 100000 in
theorem lifted (os : Os) (started : os.Started) (H : Type) (enc : TypeId × Value → H) :
    ReturnsInHanded {} Try.checked os 3 .any (Rows.sizeTreesSpec.pre6 enc Try.prog Try.f3 Rows.sizeTreesRow.domain false) (Rows.sizeTreesSpec.post enc Try.prog Try.f3 false true false false) := by
  refine returnsInHanded_of_change (C := Try.checked) own started (by kernel_rfl) Try.func3
    (ChangeSpec.witness6 (enc := enc) (C := Try.checked) false ⟨#[], #[.slice none 0 0, .agg #[.int .u8 0, .int .u8 0, .int .u8 0, .int .u8 0, .int .u8 0, .int .u8 0, .int .u8 0, .int .u8 0, .int .u8 0, .int .u8 0, .int .u8 0, .int .u8 0, .int .u8 0, .int .u8 0, .int .u8 0, .int .u8 0, .int .u8 0, .int .u8 0, .int .u8 0, .int .u8 0, .int .u8 0, .int .u8 0, .int .u8 0, .int .u8 0, .int .u8 0, .int .u8 0, .int .u8 0, .int .u8 0, .int .u8 0, .int .u8 0, .int .u8 0, .int .u8 0]], []⟩ 8 (by kernel_rfl) (by kernel_rfl) (by kernel_rfl) (by kernel_rfl)) ?_
  intro W base args ds gs before hval0 hW hcnd _
  have hval : ∀ (j : Nat) t v, Try.f3.params[j]? = some t → args[j]? = some v → Value.okWide Try.prog W .any base t v := hval0
  have hW' := hW
  obtain ⟨p, q, hA0, hV, rfl, hfz, hnd⟩ := hW
  have hA : DataW.TrodAll enc Try.prog W 0 (fun _ => true) true Try.f3.params.toList args.toList ds p := hA0
  rw [Try.params3] at hA hval
  obtain ⟨v0, vs0, d0, ds0, p0, q0, hargs, rfl, rfl, t0, r0⟩ := trodAll_cons hA
  obtain ⟨v1, vs1, d1, ds1, p1, q1, rfl, rfl, rfl, t1, r1⟩ := trodAll_cons r0
  obtain ⟨rfl, rfl, rfl⟩ := trodAll_nil r1
  obtain rfl : args = #[v0, v1] := by cases args; simp_all
  obtain ⟨rfl, rfl⟩ := trodVars_none hV
  obtain ⟨l0, c0, e0⟩ := K.open_arg ((K.Ty.slice (K.Ty.st [(K.Ty.arr 32 (K.Ty.int .u8)), K.Ty.str]))) (by kernel_rfl) (hval 0 22 v0 rfl rfl) t0
  obtain ⟨l, hl, rfl⟩ := K.op_SizeTrees0 c0
  obtain ⟨l1, c1, e1⟩ := K.open_arg ((K.Ty.arr 32 (K.Ty.int .u8))) (by kernel_rfl) (hval 1 24 v1 rfl rfl) t1
  obtain ⟨k, rfl⟩ := K.op_SizeTrees1 c1
  clear hA0 hval0
  simp only [List.append_nil] at hW'
  refine K.law_calls (t := 4) (K.SizeTrees_fun l k) ?_ laid rec hW' rfl rfl rfl rfl rfl Try.underlying4
  exact ⟨v0, _, rfl, e0, v1, _, rfl, e1, rfl⟩
theorem over : Rows.sizeTreesRow.holds Try.pinned (OpenSpec.ofChange Rows.sizeTreesSpec) :=
  OpenClaim.holds_of_wide 3 Try.f3 rfl rfl rfl rfl rfl rfl rfl ⟨rfl, rfl, rfl, rfl, rfl⟩ rfl rfl rfl rfl rfl (by kernel_rfl) Try.func3 (by kernel_rfl)
    (of_decide_eq_true (by kernel_rfl)) (by unfold Func.isWrapper; first | (rw [if_pos (by decide +kernel)]; kernel_rfl) | (rw [if_neg (by decide +kernel)]; exact ⟨rfl, rfl⟩))
    (fun os started H enc _ => lifted os started H enc)
theorem proved : Rows.SizeTreesSaid :=
  over
#print axioms proved
end Go.Proofs.Ytfnlcnnoedmfiaa.sizeTrees
