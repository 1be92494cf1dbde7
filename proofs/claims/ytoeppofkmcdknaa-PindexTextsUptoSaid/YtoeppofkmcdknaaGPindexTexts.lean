/- The row of PindexTexts in its second form: the law's function returns true, and the input reads as it did, whatever the input is. Condition: what it reads is of bulk at most 1048576. -/
import Derived.Test.YtoeppofkmcdknaaRows
import Derived.WalkKit
import Derived.ProofKit
import Derived.OpenShut
import Derived.JoinedCond
import Derived.Test.YtoeppofkmcdknaaGOPindexTexts
namespace Go.Proofs.Ytoeppofkmcdknaa.pindexTexts
open Go.ChangeShapes Go.WideShapes Go.ChangeAt Go.RowKit
set_option linter.unusedVariables false
theorem laid : laidOutB Try.prog = true := by kernel_rfl
theorem rec : ∀ t ∈ Try.f10.params.toList, Try.prog.readableRec t = true ∧ t < Try.prog.types.size := of_decide_eq_true (by kernel_rfl)
theorem own : ownKnob Try.prog.godebug = none := by kernel_rfl
set_option maxRecDepth 100000 in
theorem lifted (os : Os) (started : os.Started) (H : Type) (enc : TypeId × Value → H) (F0 : Stop.Interp) :
    ReturnsInHanded {} Try.checked os 10 .any ((Rows.OpenSpec.upto Rows.pindexTextsSpec).pre6 enc Try.prog Try.f10 Rows.pindexTextsUptoRow.domain false) (((Rows.OpenSpec.upto Rows.pindexTextsSpec).at F0).post enc Try.prog Try.f10 false true false false) := by
  refine returnsInHanded_of_cond (C := Try.checked) (s := Rows.OpenSpec.upto Rows.pindexTextsSpec) (k := Rows.uptoSmall) rfl own started (by kernel_rfl) Try.func10
    (OpenSpec.witness (enc := enc) (C := Try.checked) (s := Rows.OpenSpec.upto Rows.pindexTextsSpec) (k := Rows.uptoSmall) rfl false ⟨#[], #[.slice none 0 0, .agg #[.int .u8 0, .int .u8 0, .int .u8 0, .int .u8 0, .int .u8 0, .int .u8 0, .int .u8 0, .int .u8 0, .int .u8 0, .int .u8 0, .int .u8 0, .int .u8 0, .int .u8 0, .int .u8 0, .int .u8 0, .int .u8 0, .int .u8 0, .int .u8 0, .int .u8 0, .int .u8 0, .int .u8 0, .int .u8 0, .int .u8 0, .int .u8 0, .int .u8 0, .int .u8 0, .int .u8 0, .int .u8 0, .int .u8 0, .int .u8 0, .int .u8 0, .int .u8 0], .string ⟨#[]⟩], []⟩ 8 (by kernel_rfl) (by kernel_rfl) (by kernel_rfl)
      (x := ([.nil, .agg [.lit (.int .u8 0), .lit (.int .u8 0), .lit (.int .u8 0), .lit (.int .u8 0), .lit (.int .u8 0), .lit (.int .u8 0), .lit (.int .u8 0), .lit (.int .u8 0), .lit (.int .u8 0), .lit (.int .u8 0), .lit (.int .u8 0), .lit (.int .u8 0), .lit (.int .u8 0), .lit (.int .u8 0), .lit (.int .u8 0), .lit (.int .u8 0), .lit (.int .u8 0), .lit (.int .u8 0), .lit (.int .u8 0), .lit (.int .u8 0), .lit (.int .u8 0), .lit (.int .u8 0), .lit (.int .u8 0), .lit (.int .u8 0), .lit (.int .u8 0), .lit (.int .u8 0), .lit (.int .u8 0), .lit (.int .u8 0), .lit (.int .u8 0), .lit (.int .u8 0), .lit (.int .u8 0), .lit (.int .u8 0)], .lit (.string [])], [], [])) (by kernel_rfl) (by kernel_rfl) (by kernel_rfl)) ?_
  intro W base args ds gs before hval0 hW hcnd hkk _
  have hval : ∀ (j : Nat) t v, Try.f10.params[j]? = some t → args[j]? = some v → Value.okWide Try.prog W .any base t v := hval0
  have hW' := hW
  obtain ⟨p, q, hA0, hV, rfl, hfz, hnd⟩ := hW
  have hA : DataW.TrodAll enc Try.prog W 0 (fun _ => true) true Try.f10.params.toList args.toList ds p := hA0
  rw [Try.params10] at hA hval
  obtain ⟨v0, vs0, d0, ds0, p0, q0, hargs, rfl, rfl, t0, r0⟩ := trodAll_cons hA
  obtain ⟨v1, vs1, d1, ds1, p1, q1, rfl, rfl, rfl, t1, r1⟩ := trodAll_cons r0
  obtain ⟨v2, vs2, d2, ds2, p2, q2, rfl, rfl, rfl, t2, r2⟩ := trodAll_cons r1
  obtain ⟨rfl, rfl, rfl⟩ := trodAll_nil r2
  obtain rfl : args = #[v0, v1, v2] := by cases args; simp_all
  obtain ⟨rfl, rfl⟩ := trodVars_none hV
  obtain ⟨l0, c0, e0⟩ := K.open_arg ((K.Ty.slice (K.Ty.st [(K.Ty.int .i64), (K.Ty.st [(K.Ty.arr 32 (K.Ty.int .u8)), (K.Ty.int .i64), K.Ty.str])]))) (by kernel_rfl) (hval 0 68 v0 rfl rfl) t0
  obtain ⟨l, hl, rfl⟩ := K.op_PindexTexts0 c0
  obtain ⟨l1, c1, e1⟩ := K.open_arg ((K.Ty.arr 32 (K.Ty.int .u8))) (by kernel_rfl) (hval 1 35 v1 rfl rfl) t1
  obtain ⟨a, rfl⟩ := K.op_PindexTexts1 c1
  obtain ⟨l2, c2, e2⟩ := K.open_arg (K.Ty.str) (by kernel_rfl) (hval 2 9 v2 rfl rfl) t2
  obtain ⟨t, ht, rfl⟩ := K.op_PindexTexts2 c2
  obtain ⟨bytes, hb1, hb2⟩ := K.bulk_str Try.underlying9 t2 e2
  clear hA0 hval0
  simp only [List.append_nil] at hW' hkk
  have hbig : t.length ≤ 1048576 := by
    have h9 := of_decide_eq_true hkk
    rw [hb1] at h9
    simp only [Rows.uptoBulkAll, Rows.uptoBulk] at h9
    omega
  refine K.law_calls (t := 4) (K.PindexTexts_fun l a t hbig) ?_ laid rec hW' rfl rfl rfl rfl rfl Try.underlying4
  exact ⟨v0, _, rfl, e0, v1, _, rfl, e1, v2, _, rfl, e2, rfl⟩
theorem over : Rows.pindexTextsUptoRow.holds Try.pinned (Rows.OpenSpec.upto Rows.pindexTextsSpec) :=
  OpenClaim.holds_of_cond 10 Try.f10 rfl rfl rfl rfl rfl rfl rfl ⟨rfl, rfl, rfl, rfl, rfl⟩ rfl rfl rfl rfl rfl (by kernel_rfl) Try.func10 (by kernel_rfl)
    (of_decide_eq_true (by kernel_rfl)) (by unfold Func.isWrapper; first | (rw [if_pos (by decide +kernel)]; kernel_rfl) | (rw [if_neg (by decide +kernel)]; exact ⟨rfl, rfl⟩))
    (fun os started H enc _ F0 => lifted os started H enc F0)
theorem proved : Rows.PindexTextsUptoSaid :=
  over
#print axioms proved
end Go.Proofs.Ytoeppofkmcdknaa.pindexTexts
