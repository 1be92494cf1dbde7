/- The row of TreeOpens: whatever the input, the law's function returns true, and the input reads as it did. No condition. -/
import Derived.Test.YtlfjfoknbjcncaaGreatRows
import Derived.WalkKit
import Derived.ProofKit
import Derived.OpenShut
import Derived.Test.YtlfjfoknbjcncaaGreatHG8
namespace Go.Proofs.YtlfjfoknbjcncaaGreat.treeOpens
open Go.ChangeShapes Go.WideShapes Go.ChangeAt Go.RowKit
set_option linter.unusedVariables false
theorem laid:laidOutB Tryz.prog=true:=by kernel_rfl
theorem rec:∀ t∈Tryz.f5.params.toList,Tryz.prog.readableRec t=true∧t<Tryz.prog.types.size:=of_decide_eq_true (by kernel_rfl)
theorem own:ownKnob Tryz.prog.godebug=none:=by kernel_rfl
set_option maxRecDepth 100000 in
theorem lifted (os:Os) (started:os.Started) (H:Type) (enc:TypeId×Value→H):
  ReturnsInHanded {} Tryz.checked os 5 .any (Rows.treeOpensSpec.pre6 enc Tryz.prog Tryz.f5 Rows.treeOpensRow.domain false) (Rows.treeOpensSpec.post enc Tryz.prog Tryz.f5 false true false false):=by
 refine returnsInHanded_of_change (C:=Tryz.checked) own started (by kernel_rfl) Tryz.func5
  (ChangeSpec.witness6 (enc:=enc) (C:=Tryz.checked) false ⟨#[], #[.slice none 0 0, .agg #[.int .u8 0, .int .u8 0, .int .u8 0, .int .u8 0, .int .u8 0, .int .u8 0, .int .u8 0, .int .u8 0, .int .u8 0, .int .u8 0, .int .u8 0, .int .u8 0, .int .u8 0, .int .u8 0, .int .u8 0, .int .u8 0, .int .u8 0, .int .u8 0, .int .u8 0, .int .u8 0, .int .u8 0, .int .u8 0, .int .u8 0, .int .u8 0, .int .u8 0, .int .u8 0, .int .u8 0, .int .u8 0, .int .u8 0, .int .u8 0, .int .u8 0, .int .u8 0]],[]⟩ 8 (by kernel_rfl) (by kernel_rfl) (by kernel_rfl) (by kernel_rfl)) ?_
 intro W base args ds gs before Uj hW abX _
 have hval:∀ (j:Nat) t v,Tryz.f5.params[j]? =some t→args[j]? =some v→Value.okWide Tryz.prog W .any base t v:=Uj
 have Ur:=hW
 obtain ⟨p,q,UF,hV,rfl,hfz,hnd⟩:=hW
 have hA:DataW.TrodAll enc Tryz.prog W 0 (fun _=>true) true Tryz.f5.params.toList args.toList ds p:=UF
 rw [Tryz.params5] at hA hval
 obtain ⟨v0,Xb,d0,ds0,p0,q0,hargs,rfl,rfl,t0,r0⟩:=trodAll_cons hA
 obtain ⟨v1,vs1,d1,ds1,p1,q1,rfl,rfl,rfl,t1,r1⟩:=trodAll_cons r0
 obtain ⟨rfl,rfl,rfl⟩:=trodAll_nil r1
 obtain rfl:args= #[v0,v1]:=by cases args;simp_all
 obtain ⟨rfl,rfl⟩:=trodVars_none hV
 obtain ⟨l0,c0,e0⟩:=K.JB ((K.Ty.slice (K.Ty.st [(K.Ty.arr 32 (K.Ty.int .u8)),K.Ty.str]))) (by kernel_rfl) (hval 0 26 v0 rfl rfl) t0
 obtain ⟨l,hl,rfl⟩:=K.IV c0
 obtain ⟨l1,c1,e1⟩:=K.JB ((K.Ty.arr 32 (K.Ty.int .u8))) (by kernel_rfl) (hval 1 28 v1 rfl rfl) t1
 obtain ⟨key,rfl⟩:=K.IW c1
 clear UF Uj
 simp only [List.append_nil] at Ur
 refine K.NZ (t:=4) (K.IX l key) ?_ laid rec Ur rfl rfl rfl rfl rfl Tryz.underlying4
 exact ⟨v0,_,rfl,e0,v1,_,rfl,e1,rfl⟩
theorem Z4:Rows.treeOpensRow.holds Tryz.pinned (OpenSpec.ofChange Rows.treeOpensSpec):=
 OpenClaim.holds_of_wide 5 Tryz.f5 rfl rfl rfl rfl rfl rfl rfl ⟨rfl,rfl,rfl,rfl,rfl⟩ rfl rfl rfl rfl rfl (by kernel_rfl) Tryz.func5 (by kernel_rfl)
  (of_decide_eq_true (by kernel_rfl)) (by unfold Func.isWrapper;first | (rw [if_pos (by decide+kernel)];kernel_rfl) | (rw [if_neg (by decide+kernel)];exact ⟨rfl,rfl⟩))
  (fun os started H enc _=>lifted os started H enc)
theorem proved:Rows.TreeOpensSaid:=
 Z4
#print axioms proved
end Go.Proofs.YtlfjfoknbjcncaaGreat.treeOpens
