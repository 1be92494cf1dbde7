/- The row of TreeDoes: whatever the input, the law's function returns true, and the input reads as it did. No condition. -/
import Derived.Test.YtlfjfoknbjcncaaGreatRows
import Derived.WalkKit
import Derived.ProofKit
import Derived.OpenShut
import Derived.Test.YtlfjfoknbjcncaaGreatGG9
namespace Go.Proofs.YtlfjfoknbjcncaaGreat.treeDoes
open Go.ChangeShapes Go.WideShapes Go.ChangeAt Go.RowKit
set_option linter.unusedVariables false
theorem laid:laidOutB Tryz.prog=true:=by kernel_rfl
theorem rec:∀ t∈Tryz.f3.params.toList,Tryz.prog.readableRec t=true∧t<Tryz.prog.types.size:=of_decide_eq_true (by kernel_rfl)
theorem own:ownKnob Tryz.prog.godebug=none:=by kernel_rfl
set_option maxRecDepth 100000 in
theorem lifted (os:Os) (started:os.Started) (H:Type) (enc:TypeId×Value→H):
  ReturnsInHanded {} Tryz.checked os 3 .any (Rows.treeDoesSpec.pre6 enc Tryz.prog Tryz.f3 Rows.treeDoesRow.domain false) (Rows.treeDoesSpec.post enc Tryz.prog Tryz.f3 false true false false):=by
 refine returnsInHanded_of_change (C:=Tryz.checked) own started (by kernel_rfl) Tryz.func3
  (ChangeSpec.witness6 (enc:=enc) (C:=Tryz.checked) false ⟨#[], #[.slice none 0 0],[]⟩ 8 (by kernel_rfl) (by kernel_rfl) (by kernel_rfl) (by kernel_rfl)) ?_
 intro W base args ds gs before Ur hW ab1 _
 have hval:∀ (j:Nat) t v,Tryz.f3.params[j]? =some t→args[j]? =some v→Value.okWide Tryz.prog W .any base t v:=Ur
 have Uy:=hW
 obtain ⟨p,q,UK,hV,rfl,hfz,hnd⟩:=hW
 have hA:DataW.TrodAll enc Tryz.prog W 0 (fun _=>true) true Tryz.f3.params.toList args.toList ds p:=UK
 rw [Tryz.params3] at hA hval
 obtain ⟨v0,Xe,d0,ds0,p0,q0,hargs,rfl,rfl,t0,r0⟩:=trodAll_cons hA
 obtain ⟨rfl,rfl,rfl⟩:=trodAll_nil r0
 obtain rfl:args= #[v0]:=by cases args;simp_all
 obtain ⟨rfl,rfl⟩:=trodVars_none hV
 obtain ⟨l0,c0,e0⟩:=K.Qe ((K.Ty.slice (K.Ty.st [(K.Ty.int .i64),(K.Ty.arr 32 (K.Ty.int .u8)),K.Ty.str]))) (by kernel_rfl) (hval 0 22 v0 rfl rfl) t0
 obtain ⟨l,hl,rfl⟩:=K.IL c0
 clear UK Ur
 simp only [List.append_nil] at Uy
 refine K.Ny (t:=4) (K.IM l) ?_ laid rec Uy rfl rfl rfl rfl rfl Tryz.underlying4
 exact ⟨v0,_,rfl,e0,rfl⟩
theorem Z2:Rows.treeDoesRow.holds Tryz.pinned (OpenSpec.ofChange Rows.treeDoesSpec):=
 OpenClaim.holds_of_wide 3 Tryz.f3 rfl rfl rfl rfl rfl rfl rfl ⟨rfl,rfl,rfl,rfl,rfl⟩ rfl rfl rfl rfl rfl (by kernel_rfl) Tryz.func3 (by kernel_rfl)
  (of_decide_eq_true (by kernel_rfl)) (by unfold Func.isWrapper;first | (rw [if_pos (by decide+kernel)];kernel_rfl) | (rw [if_neg (by decide+kernel)];exact ⟨rfl,rfl⟩))
  (fun os started H enc _=>lifted os started H enc)
theorem proved:Rows.TreeDoesSaid:=
 Z2
#print axioms proved
end Go.Proofs.YtlfjfoknbjcncaaGreat.treeDoes
