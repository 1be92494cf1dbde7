/- The references of layers 03 and 07. -/
import Derived.Test.YtlfjfoknbjcncaaGreatGG6
import Derived.KernelRfl
namespace Go.Proofs.YtlfjfoknbjcncaaGreat.K
open Go Go.RowKit
set_option linter.unusedSimpArgs false
set_option linter.unusedVariables false
set_option maxRecDepth 20000
set_option maxHeartbeats 4000000
namespace TT
theorem OA:aN Tryz.prog 36=true:=by kernel_rfl
theorem OB:aN Tryz.prog 65=true:=by kernel_rfl
theorem OC:aN Tryz.prog 66=true:=by kernel_rfl
theorem mV:aN Tryz.prog 90=true:=by kernel_rfl
theorem Hj:aN Tryz.prog 91=true:=by kernel_rfl
theorem ta:aN Tryz.prog 92=true:=by kernel_rfl
theorem OD:aN Tryz.prog 93=true:=by kernel_rfl
theorem VY:Tryz.f20.results.toList=[.tmp 2]:=rfl
theorem VZ:Tryz.f36.results.toList=[.tmp 2]:=rfl
theorem V0:Tryz.f65.results.toList=[.tmp 2]:=rfl
theorem V1:Tryz.f66.results.toList=[.tmp 4]:=rfl
theorem V4:Tryz.f90.results.toList=[.tmp 4]:=rfl
theorem V5:Tryz.f91.results.toList=[.tmp 4]:=rfl
theorem V6:Tryz.f92.results.toList=[.tmp 2]:=rfl
theorem V7:Tryz.f93.results.toList=[.tmp 2]:=rfl
theorem nc:oE Tryz.prog 113=some (1,8):=by kernel_rfl
theorem fI:l6 Tryz.prog 113=some (1,8,false):=by kernel_rfl
theorem gF:jC Tryz.prog 112=some (false,1):=by kernel_rfl
theorem y9:Program.underlying Tryz.prog 113=some (.slice 112):=by kernel_rfl
end TT
inductive BM where
 | S
 | L1 (v3:(List UInt8))
 | L2 (eF:(List UInt8)) (v4:(BitVec 64)) (v5:(List UInt8)) (v6:Int)
noncomputable def fh (s0:(List UInt8)):BM→Option (BM⊕(List UInt8))
 | .S=>
  gO (s0.length+([128]:List UInt8).length≤9223372036854775807) (
  some (.inl (.L1 (s0++([128]:List UInt8)))))
 | .L1 v3=>
  (bif (!decide (((v3.length:Int).tmod (64:Int))=(56:Int))) then
  gO (v3.length+([0]:List UInt8).length≤9223372036854775807) (
  some (.inl (.L1 (v3++([0]:List UInt8)))))
  else
  gO (bA ((8:Int)*(s0.length:Int))) (
  some (.inl (.L2 v3 (BitVec.ofInt 64 ((8:Int)*(s0.length:Int))) ([]:List UInt8) (0)))))
 | .L2 eF v4 v5 v6=>
  (bif (decide (v6<(8:Int))) then
  gO (([(gb ((v4%(256:BitVec 64)).toNat:Int))]:List UInt8).length+v5.length≤9223372036854775807) (
  gO (bA (v6+(1:Int))) (
  some (.inl (.L2 eF (v4/(256:BitVec 64)) (([(gb ((v4%(256:BitVec 64)).toNat:Int))]:List UInt8)++v5) (v6+(1:Int))))))
  else
  gO (eF.length+v5.length≤9223372036854775807) (
  some (.inr (eF++v5))))
noncomputable def xN (s0:(List UInt8)):Option (List UInt8):=gU (fh s0) .S
theorem Fy (s0:(List UInt8)) (r:(List UInt8)) (h:xN s0=some r):bE Tryz.prog 65 [.val (sV s0)] (.val (sV r)):=by
 refine bE.aU Tryz.func65 rfl (by simp [Tryz.ntmps65]) ?_
 rw [Tryz.ntmps65,TT.V0]
 refine QW.view (s':=⟨aF [(0,pS s0)],aj [],0,[]⟩) (View.init (by rfl)) zL ?_
 replace h:=cG h
 obtain ⟨_,h⟩:=h
 obtain ⟨c8,rfl,h9⟩:=aQ h;replace h:=h9;clear h9;rw [fh] at h
 refine sR ?_
 refine xz 2 (pS ([]:List UInt8)) ?_
 refine sR ?_
 refine xm 7 (pS s0) ?_
 obtain ⟨nM,h⟩:=gG h
 refine xs 8 rfl (ld (a:=s0) (b:=([128]:List UInt8)) rfl rfl rfl nM ?_)
 refine xz 3 (pS (s0++([128]:List UInt8))) ?_
 refine QW.seq ?_
 refine QW.block ?_
 refine QW.loop (fun k σ=>∃ v3:(List UInt8),k≤c8∧run (fh s0) k (.L1 v3)=some r∧σ=⟨aF [(0,pS s0),(3,pS v3)],aj [],0,[]⟩) c8 zL ⟨⟨aF [(0,pS s0),(3,pS (s0++([128]:List UInt8)))],aj [],0,[]⟩,View.mk 0 [] _ _ _ rfl rfl (by decide) (iC (iC trivial)) trivial rfl zL rfl,(s0++([128]:List UInt8)),Nat.le_refl _,jG h,rfl⟩ ?_
 rintro S9 _ ⟨v3,Ta,h,rfl⟩
 obtain ⟨k_2,rfl,h9⟩:=aQ h;replace h:=h9;clear h9;rw [fh] at h
 refine QW.seq ?_
 refine sR ?_
 refine xm 9 (pS v3) ?_
 refine xs 10 rfl (gB (l:=v3) rfl TT.bZ rfl ?_)
 refine xs 11 rfl (wS (a:=(v3.length:Int)) (b:=(64:Int)) rfl rfl rfl (by decide) ?_)
 refine xs 12 rfl (oa (a:=((v3.length:Int).tmod (64:Int))) (b:=(56:Int)) rfl rfl rfl ?_)
 refine XK.nz ?_
 refine QW.cond (t:=(!decide (((v3.length:Int).tmod (64:Int))=(56:Int)))) rfl zL (fun dW=>?_) (fun dW=>?_)
 ·replace h:=eX h dW
  refine QW.skip zL (aY ?_)
  refine QW.block ?_
  refine rG ?_
  refine xm 13 (pS v3) ?_
  obtain ⟨lY,h⟩:=gG h
  refine xs 14 rfl (ld (a:=v3) (b:=([0]:List UInt8)) rfl rfl rfl lY ?_)
  refine xa 3 (pS (v3++([0]:List UInt8))) ?_
  refine XK.nil (gC (aY ?_))
  exact ⟨k_2,by omega,⟨aF [(0,pS s0),(3,pS (v3++([0]:List UInt8)))],aj [],0,[]⟩,View.mk 0 [] _ _ _ rfl rfl (by decide) (iC (iC trivial)) trivial rfl zL rfl,(v3++([0]:List UInt8)),by omega,jG h,rfl⟩
 ·replace h:=eY h dW
  refine QW.exit zL (eA (eA (jY (aY ?_))))
  refine sR ?_
  refine xm 15 (pS s0) ?_
  refine xs 16 rfl (gB (l:=s0) rfl TT.bZ rfl ?_)
  obtain ⟨mR,h⟩:=gG h
  refine xs 17 rfl (AV (a:=(8:Int)) (b:=(s0.length:Int)) rfl rfl rfl mR ?_)
  refine xs 18 rfl (wY (n:=((8:Int)*(s0.length:Int))) rfl TT.kY TT.s4 rfl ?_)
  refine xz 4 (.d (.val (.int .u64 ((BitVec.ofInt 64 ((8:Int)*(s0.length:Int))).toNat:Int)))) ?_
  refine sR ?_
  refine xz 5 (pS ([]:List UInt8)) ?_
  refine QW.seq ?_
  refine sR ?_
  refine xz 6 (pI (0)) ?_
  refine QW.block ?_
  refine QW.loop (fun k σ=>∃ eF:(List UInt8),∃ v4:(BitVec 64),∃ v5:(List UInt8),∃ v6:Int,k≤k_2∧run (fh s0) k (.L2 eF v4 v5 v6)=some r∧σ=⟨aF [(3,pS eF),(4, .d (.val (.int .u64 (v4.toNat:Int)))),(5,pS v5),(6,pI v6)],aj [],0,[]⟩) k_2 zL ⟨⟨aF [(3,pS v3),(4, .d (.val (.int .u64 ((BitVec.ofInt 64 ((8:Int)*(s0.length:Int))).toNat:Int)))),(5,pS ([]:List UInt8)),(6,pI (0))],aj [],0,[]⟩,View.mk 0 [] _ _ _ rfl rfl (by decide) (iC (iC (iC (iC trivial)))) trivial rfl zL rfl,v3,(BitVec.ofInt 64 ((8:Int)*(s0.length:Int))),([]:List UInt8),0,Nat.le_refl _,jG h,rfl⟩ ?_
  rintro Zr _ ⟨eF,v4,v5,v6,Zs,h,rfl⟩
  obtain ⟨XR,rfl,h9⟩:=aQ h;replace h:=h9;clear h9;rw [fh] at h
  refine QW.seq ?_
  refine sR ?_
  refine xm 19 (pI v6) ?_
  refine xs 20 rfl (cK (a:=v6) (b:=(8:Int)) rfl rfl rfl ?_)
  refine XK.nz ?_
  refine QW.cond (t:=(decide (v6<(8:Int)))) rfl zL (fun rS=>?_) (fun rS=>?_)
  ·replace h:=eX h rS
   refine QW.skip zL (aY ?_)
   refine QW.seq ?_
   refine QW.block ?_
   refine sR ?_
   refine xm 23 (.d (.val (.int .u64 (v4.toNat:Int)))) ?_
   refine xs 24 rfl (A0 (a:=v4) (b:=(256:BitVec 64)) rfl rfl rfl (by decide) ?_)
   refine xs 25 rfl (nR (n:=((v4%(256:BitVec 64)).toNat:Int)) rfl TT.s4 TT.dV rfl ?_)
   refine xs 26 rfl (dU (en:=U) (l:=([(gb ((v4%(256:BitVec 64)).toNat:Int))]:List UInt8)) rfl TT.e9 bH rfl rfl (by decide) (by simp [dg,cQ,aB,dK,PV.cz,cu,aF,jz,iL,jP,bV,Value.oneCell']) ?_)
   refine xs 27 rfl (nK (l:=([(gb ((v4%(256:BitVec 64)).toNat:Int))]:List UInt8)) rfl TT.bC TT.dV TT.bZ rfl ?_)
   refine xm 28 (pS v5) ?_
   obtain ⟨rM,h⟩:=gG h
   refine xs 29 rfl (ld (a:=([(gb ((v4%(256:BitVec 64)).toNat:Int))]:List UInt8)) (b:=v5) rfl rfl rfl rM ?_)
   refine xz 5 (pS (([(gb ((v4%(256:BitVec 64)).toNat:Int))]:List UInt8)++v5)) ?_
   refine rG ?_
   refine xm 30 (.d (.val (.int .u64 (v4.toNat:Int)))) ?_
   refine xs 31 rfl (AZ (a:=v4) (b:=(256:BitVec 64)) rfl rfl rfl (by decide) ?_)
   refine xa 4 (.d (.val (.int .u64 ((v4/(256:BitVec 64)).toNat:Int)))) ?_
   refine XK.nil (gC (aY ?_))
   refine rG ?_
   refine xm 21 (pI v6) ?_
   obtain ⟨rN,h⟩:=gG h
   refine xs 22 rfl (bY (a:=v6) (b:=(1:Int)) rfl rfl rfl rN ?_)
   refine xz 6 (pI (v6+(1:Int))) ?_
   exact ⟨XR,by omega,⟨aF [(3,pS eF),(4, .d (.val (.int .u64 ((v4/(256:BitVec 64)).toNat:Int)))),(5,pS (([(gb ((v4%(256:BitVec 64)).toNat:Int))]:List UInt8)++v5)),(6,pI (v6+(1:Int)))],aj [],0,[]⟩,View.mk 0 [] _ _ _ rfl rfl (by decide) (iC (iC (iC (iC trivial)))) trivial rfl zL rfl,eF,(v4/(256:BitVec 64)),(([(gb ((v4%(256:BitVec 64)).toNat:Int))]:List UInt8)++v5),(v6+(1:Int)),by omega,jG h,rfl⟩
  ·replace h:=eY h rS
   refine QW.exit zL (eA (eA (jY (aY ?_))))
   refine sR ?_
   refine xm 32 (pS eF) ?_
   refine xm 33 (pS v5) ?_
   obtain ⟨oq,h⟩:=gG h
   refine xs 34 rfl (ld (a:=eF) (b:=v5) rfl rfl rfl oq ?_)
   refine xz 2 (pS (eF++v5)) ?_
   refine QW.ret zL ?_
   obtain rfl:=sG h
   exact Ends.one (.inr rfl) rfl (aG.tmp rfl) rfl rfl
inductive BN where
 | S
 | L1 (jT:(BitVec 64)) (v5:Int)
noncomputable def ki (x0:(BitVec 64)) (n1:Int):BN→Option (BN⊕(BitVec 64))
 | .S=>
  some (.inl (.L1 x0 (0)))
 | .L1 jT v5=>
  (bif (decide (v5<n1)) then
  gO (bA (v5+(1:Int))) (
  some (.inl (.L1 ((jT/(2:BitVec 64))+((jT%(2:BitVec 64))*(2147483648:BitVec 64))) (v5+(1:Int)))))
  else
  some (.inr jT))
noncomputable def dI (x0:(BitVec 64)) (n1:Int):Option (BitVec 64):=gU (ki x0 n1) .S
theorem iw (x0:(BitVec 64)) (n1:Int) (r:(BitVec 64)) (h:dI x0 n1=some r):bE Tryz.prog 90 [.val (.int .u64 (x0.toNat:Int)), .val (.int .i64 n1)] (.val (.int .u64 (r.toNat:Int))):=by
 refine bE.aU Tryz.func90 rfl (by simp [Tryz.ntmps90]) ?_
 rw [Tryz.ntmps90,TT.V4]
 refine QW.view (s':=⟨aF [(0, .d (.val (.int .u64 (x0.toNat:Int)))),(1,pI n1)],aj [],0,[]⟩) (View.init (by rfl)) zL ?_
 replace h:=cG h
 obtain ⟨_,h⟩:=h
 obtain ⟨c8,rfl,h9⟩:=aQ h;replace h:=h9;clear h9;rw [ki] at h
 refine sR ?_
 refine xz 4 (.d (.val (.int .u64 ((0:BitVec 64).toNat:Int)))) ?_
 refine QW.seq ?_
 refine sR ?_
 refine xz 5 (pI (0)) ?_
 refine QW.block ?_
 refine QW.loop (fun k σ=>∃ jT:(BitVec 64),∃ v5:Int,k≤c8∧run (ki x0 n1) k (.L1 jT v5)=some r∧σ=⟨aF [(0, .d (.val (.int .u64 (jT.toNat:Int)))),(1,pI n1),(5,pI v5)],aj [],0,[]⟩) c8 zL ⟨⟨aF [(0, .d (.val (.int .u64 (x0.toNat:Int)))),(1,pI n1),(5,pI (0))],aj [],0,[]⟩,View.mk 0 [] _ _ _ rfl rfl (by decide) (iC (iC (iC trivial))) trivial rfl zL rfl,x0,0,Nat.le_refl _,jG h,rfl⟩ ?_
 rintro pZ _ ⟨jT,v5,p4,h,rfl⟩
 obtain ⟨k_1,rfl,h9⟩:=aQ h;replace h:=h9;clear h9;rw [ki] at h
 refine QW.seq ?_
 refine sR ?_
 refine xm 6 (pI v5) ?_
 refine xm 7 (pI n1) ?_
 refine xs 8 rfl (cK (a:=v5) (b:=n1) rfl rfl rfl ?_)
 refine XK.nz ?_
 refine QW.cond (t:=(decide (v5<n1))) rfl zL (fun cv=>?_) (fun cv=>?_)
 ·replace h:=eX h cv
  refine QW.skip zL (aY ?_)
  refine QW.seq ?_
  refine QW.block ?_
  refine rG ?_
  refine xm 11 (.d (.val (.int .u64 (jT.toNat:Int)))) ?_
  refine xs 12 rfl (AZ (a:=jT) (b:=(2:BitVec 64)) rfl rfl rfl (by decide) ?_)
  refine xm 13 (.d (.val (.int .u64 (jT.toNat:Int)))) ?_
  refine xs 14 rfl (A0 (a:=jT) (b:=(2:BitVec 64)) rfl rfl rfl (by decide) ?_)
  refine xs 15 rfl (D6 (a:=(jT%(2:BitVec 64))) (b:=(2147483648:BitVec 64)) rfl rfl rfl ?_)
  refine xs 16 rfl (fT (a:=(jT/(2:BitVec 64))) (b:=((jT%(2:BitVec 64))*(2147483648:BitVec 64))) rfl rfl rfl ?_)
  refine xa 0 (.d (.val (.int .u64 (((jT/(2:BitVec 64))+((jT%(2:BitVec 64))*(2147483648:BitVec 64))).toNat:Int)))) ?_
  refine XK.nil (gC (aY ?_))
  refine rG ?_
  refine xm 9 (pI v5) ?_
  obtain ⟨dP,h⟩:=gG h
  refine xs 10 rfl (bY (a:=v5) (b:=(1:Int)) rfl rfl rfl dP ?_)
  refine xz 5 (pI (v5+(1:Int))) ?_
  exact ⟨k_1,by omega,⟨aF [(0, .d (.val (.int .u64 (((jT/(2:BitVec 64))+((jT%(2:BitVec 64))*(2147483648:BitVec 64))).toNat:Int)))),(1,pI n1),(5,pI (v5+(1:Int)))],aj [],0,[]⟩,View.mk 0 [] _ _ _ rfl rfl (by decide) (iC (iC (iC trivial))) trivial rfl zL rfl,((jT/(2:BitVec 64))+((jT%(2:BitVec 64))*(2147483648:BitVec 64))),(v5+(1:Int)),by omega,jG h,rfl⟩
 ·replace h:=eY h cv
  refine QW.exit zL (eA (eA (jY (aY ?_))))
  refine sR ?_
  refine xm 17 (.d (.val (.int .u64 (jT.toNat:Int)))) ?_
  refine xz 4 (.d (.val (.int .u64 (jT.toNat:Int)))) ?_
  refine QW.ret zL ?_
  obtain rfl:=sG h
  exact Ends.one (.inr rfl) rfl (aG.tmp rfl) rfl rfl
inductive Av where
 | S
 | L1 (jT:(BitVec 64)) (v5:Int)
noncomputable def iV (x0:(BitVec 64)) (n1:Int):Av→Option (Av⊕(BitVec 64))
 | .S=>
  some (.inl (.L1 x0 (0)))
 | .L1 jT v5=>
  (bif (decide (v5<n1)) then
  gO (bA (v5+(1:Int))) (
  some (.inl (.L1 (jT/(2:BitVec 64)) (v5+(1:Int)))))
  else
  some (.inr jT))
noncomputable def ng (x0:(BitVec 64)) (n1:Int):Option (BitVec 64):=gU (iV x0 n1) .S
theorem yw (x0:(BitVec 64)) (n1:Int) (r:(BitVec 64)) (h:ng x0 n1=some r):bE Tryz.prog 91 [.val (.int .u64 (x0.toNat:Int)), .val (.int .i64 n1)] (.val (.int .u64 (r.toNat:Int))):=by
 refine bE.aU Tryz.func91 rfl (by simp [Tryz.ntmps91]) ?_
 rw [Tryz.ntmps91,TT.V5]
 refine QW.view (s':=⟨aF [(0, .d (.val (.int .u64 (x0.toNat:Int)))),(1,pI n1)],aj [],0,[]⟩) (View.init (by rfl)) zL ?_
 replace h:=cG h
 obtain ⟨_,h⟩:=h
 obtain ⟨c8,rfl,h9⟩:=aQ h;replace h:=h9;clear h9;rw [iV] at h
 refine sR ?_
 refine xz 4 (.d (.val (.int .u64 ((0:BitVec 64).toNat:Int)))) ?_
 refine QW.seq ?_
 refine sR ?_
 refine xz 5 (pI (0)) ?_
 refine QW.block ?_
 refine QW.loop (fun k σ=>∃ jT:(BitVec 64),∃ v5:Int,k≤c8∧run (iV x0 n1) k (.L1 jT v5)=some r∧σ=⟨aF [(0, .d (.val (.int .u64 (jT.toNat:Int)))),(1,pI n1),(5,pI v5)],aj [],0,[]⟩) c8 zL ⟨⟨aF [(0, .d (.val (.int .u64 (x0.toNat:Int)))),(1,pI n1),(5,pI (0))],aj [],0,[]⟩,View.mk 0 [] _ _ _ rfl rfl (by decide) (iC (iC (iC trivial))) trivial rfl zL rfl,x0,0,Nat.le_refl _,jG h,rfl⟩ ?_
 rintro pZ _ ⟨jT,v5,p4,h,rfl⟩
 obtain ⟨k_1,rfl,h9⟩:=aQ h;replace h:=h9;clear h9;rw [iV] at h
 refine QW.seq ?_
 refine sR ?_
 refine xm 6 (pI v5) ?_
 refine xm 7 (pI n1) ?_
 refine xs 8 rfl (cK (a:=v5) (b:=n1) rfl rfl rfl ?_)
 refine XK.nz ?_
 refine QW.cond (t:=(decide (v5<n1))) rfl zL (fun cv=>?_) (fun cv=>?_)
 ·replace h:=eX h cv
  refine QW.skip zL (aY ?_)
  refine QW.seq ?_
  refine QW.block ?_
  refine rG ?_
  refine xm 11 (.d (.val (.int .u64 (jT.toNat:Int)))) ?_
  refine xs 12 rfl (AZ (a:=jT) (b:=(2:BitVec 64)) rfl rfl rfl (by decide) ?_)
  refine xa 0 (.d (.val (.int .u64 ((jT/(2:BitVec 64)).toNat:Int)))) ?_
  refine XK.nil (gC (aY ?_))
  refine rG ?_
  refine xm 9 (pI v5) ?_
  obtain ⟨dP,h⟩:=gG h
  refine xs 10 rfl (bY (a:=v5) (b:=(1:Int)) rfl rfl rfl dP ?_)
  refine xz 5 (pI (v5+(1:Int))) ?_
  exact ⟨k_1,by omega,⟨aF [(0, .d (.val (.int .u64 ((jT/(2:BitVec 64)).toNat:Int)))),(1,pI n1),(5,pI (v5+(1:Int)))],aj [],0,[]⟩,View.mk 0 [] _ _ _ rfl rfl (by decide) (iC (iC (iC trivial))) trivial rfl zL rfl,(jT/(2:BitVec 64)),(v5+(1:Int)),by omega,jG h,rfl⟩
 ·replace h:=eY h cv
  refine QW.exit zL (eA (eA (jY (aY ?_))))
  refine sR ?_
  refine xm 13 (.d (.val (.int .u64 (jT.toNat:Int)))) ?_
  refine xz 4 (.d (.val (.int .u64 (jT.toNat:Int)))) ?_
  refine QW.ret zL ?_
  obtain rfl:=sG h
  exact Ends.one (.inr rfl) rfl (aG.tmp rfl) rfl rfl
noncomputable def kA (x0:(BitVec 64)):Option (BitVec 64):=
  some (x0%(4294967296:BitVec 64))
theorem nh (x0:(BitVec 64)) (r:(BitVec 64)) (h:kA x0=some r):bE Tryz.prog 92 [.val (.int .u64 (x0.toNat:Int))] (.val (.int .u64 (r.toNat:Int))):=by
 refine bE.aU Tryz.func92 rfl (by simp [Tryz.ntmps92]) ?_
 rw [Tryz.ntmps92,TT.V6]
 refine QW.view (s':=⟨aF [(0, .d (.val (.int .u64 (x0.toNat:Int))))],aj [],0,[]⟩) (View.init (by rfl)) zL ?_
 unfold kA at h
 refine sR ?_
 refine xz 2 (.d (.val (.int .u64 ((0:BitVec 64).toNat:Int)))) ?_
 refine sR ?_
 refine xm 3 (.d (.val (.int .u64 (x0.toNat:Int)))) ?_
 refine xs 4 rfl (A0 (a:=x0) (b:=(4294967296:BitVec 64)) rfl rfl rfl (by decide) ?_)
 refine xz 2 (.d (.val (.int .u64 ((x0%(4294967296:BitVec 64)).toNat:Int)))) ?_
 refine QW.ret zL ?_
 obtain rfl:=sO h
 exact Ends.one (.inr rfl) rfl (aG.tmp rfl) rfl rfl
noncomputable def za (i0:Int):Option (BitVec 64):=
  gO (0≤i0∧i0<(([(1116352408:BitVec 64),(1899447441:BitVec 64),(3049323471:BitVec 64),(3921009573:BitVec 64),(961987163:BitVec 64),(1508970993:BitVec 64),(2453635748:BitVec 64),(2870763221:BitVec 64),(3624381080:BitVec 64),(310598401:BitVec 64),(607225278:BitVec 64),(1426881987:BitVec 64),(1925078388:BitVec 64),(2162078206:BitVec 64),(2614888103:BitVec 64),(3248222580:BitVec 64),(3835390401:BitVec 64),(4022224774:BitVec 64),(264347078:BitVec 64),(604807628:BitVec 64),(770255983:BitVec 64),(1249150122:BitVec 64),(1555081692:BitVec 64),(1996064986:BitVec 64),(2554220882:BitVec 64),(2821834349:BitVec 64),(2952996808:BitVec 64),(3210313671:BitVec 64),(3336571891:BitVec 64),(3584528711:BitVec 64),(113926993:BitVec 64),(338241895:BitVec 64),(666307205:BitVec 64),(773529912:BitVec 64),(1294757372:BitVec 64),(1396182291:BitVec 64),(1695183700:BitVec 64),(1986661051:BitVec 64),(2177026350:BitVec 64),(2456956037:BitVec 64),(2730485921:BitVec 64),(2820302411:BitVec 64),(3259730800:BitVec 64),(3345764771:BitVec 64),(3516065817:BitVec 64),(3600352804:BitVec 64),(4094571909:BitVec 64),(275423344:BitVec 64),(430227734:BitVec 64),(506948616:BitVec 64),(659060556:BitVec 64),(883997877:BitVec 64),(958139571:BitVec 64),(1322822218:BitVec 64),(1537002063:BitVec 64),(1747873779:BitVec 64),(1955562222:BitVec 64),(2024104815:BitVec 64),(2227730452:BitVec 64),(2361852424:BitVec 64),(2428436474:BitVec 64),(2756734187:BitVec 64),(3204031479:BitVec 64),(3329325298:BitVec 64)]:List (BitVec 64)).length:Int)) (
  some (idx ([(1116352408:BitVec 64),(1899447441:BitVec 64),(3049323471:BitVec 64),(3921009573:BitVec 64),(961987163:BitVec 64),(1508970993:BitVec 64),(2453635748:BitVec 64),(2870763221:BitVec 64),(3624381080:BitVec 64),(310598401:BitVec 64),(607225278:BitVec 64),(1426881987:BitVec 64),(1925078388:BitVec 64),(2162078206:BitVec 64),(2614888103:BitVec 64),(3248222580:BitVec 64),(3835390401:BitVec 64),(4022224774:BitVec 64),(264347078:BitVec 64),(604807628:BitVec 64),(770255983:BitVec 64),(1249150122:BitVec 64),(1555081692:BitVec 64),(1996064986:BitVec 64),(2554220882:BitVec 64),(2821834349:BitVec 64),(2952996808:BitVec 64),(3210313671:BitVec 64),(3336571891:BitVec 64),(3584528711:BitVec 64),(113926993:BitVec 64),(338241895:BitVec 64),(666307205:BitVec 64),(773529912:BitVec 64),(1294757372:BitVec 64),(1396182291:BitVec 64),(1695183700:BitVec 64),(1986661051:BitVec 64),(2177026350:BitVec 64),(2456956037:BitVec 64),(2730485921:BitVec 64),(2820302411:BitVec 64),(3259730800:BitVec 64),(3345764771:BitVec 64),(3516065817:BitVec 64),(3600352804:BitVec 64),(4094571909:BitVec 64),(275423344:BitVec 64),(430227734:BitVec 64),(506948616:BitVec 64),(659060556:BitVec 64),(883997877:BitVec 64),(958139571:BitVec 64),(1322822218:BitVec 64),(1537002063:BitVec 64),(1747873779:BitVec 64),(1955562222:BitVec 64),(2024104815:BitVec 64),(2227730452:BitVec 64),(2361852424:BitVec 64),(2428436474:BitVec 64),(2756734187:BitVec 64),(3204031479:BitVec 64),(3329325298:BitVec 64)]:List (BitVec 64)) i0))
theorem KG (i0:Int) (r:(BitVec 64)) (h:za i0=some r):bE Tryz.prog 93 [.val (.int .i64 i0)] (.val (.int .u64 (r.toNat:Int))):=by
 refine bE.aU Tryz.func93 rfl (by simp [Tryz.ntmps93]) ?_
 rw [Tryz.ntmps93,TT.V7]
 refine QW.view (s':=⟨aF [(0,pI i0)],aj [],0,[]⟩) (View.init (by rfl)) zL ?_
 unfold za at h
 refine sR ?_
 refine xz 2 (.d (.val (.int .u64 ((0:BitVec 64).toNat:Int)))) ?_
 refine sR ?_
 refine xs 4 rfl (dU (en:=ee) (l:=([(1116352408:BitVec 64),(1899447441:BitVec 64),(3049323471:BitVec 64),(3921009573:BitVec 64),(961987163:BitVec 64),(1508970993:BitVec 64),(2453635748:BitVec 64),(2870763221:BitVec 64),(3624381080:BitVec 64),(310598401:BitVec 64),(607225278:BitVec 64),(1426881987:BitVec 64),(1925078388:BitVec 64),(2162078206:BitVec 64),(2614888103:BitVec 64),(3248222580:BitVec 64),(3835390401:BitVec 64),(4022224774:BitVec 64),(264347078:BitVec 64),(604807628:BitVec 64),(770255983:BitVec 64),(1249150122:BitVec 64),(1555081692:BitVec 64),(1996064986:BitVec 64),(2554220882:BitVec 64),(2821834349:BitVec 64),(2952996808:BitVec 64),(3210313671:BitVec 64),(3336571891:BitVec 64),(3584528711:BitVec 64),(113926993:BitVec 64),(338241895:BitVec 64),(666307205:BitVec 64),(773529912:BitVec 64),(1294757372:BitVec 64),(1396182291:BitVec 64),(1695183700:BitVec 64),(1986661051:BitVec 64),(2177026350:BitVec 64),(2456956037:BitVec 64),(2730485921:BitVec 64),(2820302411:BitVec 64),(3259730800:BitVec 64),(3345764771:BitVec 64),(3516065817:BitVec 64),(3600352804:BitVec 64),(4094571909:BitVec 64),(275423344:BitVec 64),(430227734:BitVec 64),(506948616:BitVec 64),(659060556:BitVec 64),(883997877:BitVec 64),(958139571:BitVec 64),(1322822218:BitVec 64),(1537002063:BitVec 64),(1747873779:BitVec 64),(1955562222:BitVec 64),(2024104815:BitVec 64),(2227730452:BitVec 64),(2361852424:BitVec 64),(2428436474:BitVec 64),(2756734187:BitVec 64),(3204031479:BitVec 64),(3329325298:BitVec 64)]:List (BitVec 64))) rfl TT.nc fA rfl rfl (by decide) (by simp [dg,cQ,aB,dK,PV.cz,cu,aF,jz,iL,jP,bV,Value.oneCell']) ?_)
 refine xz 3 (.full (([(1116352408:BitVec 64),(1899447441:BitVec 64),(3049323471:BitVec 64),(3921009573:BitVec 64),(961987163:BitVec 64),(1508970993:BitVec 64),(2453635748:BitVec 64),(2870763221:BitVec 64),(3624381080:BitVec 64),(310598401:BitVec 64),(607225278:BitVec 64),(1426881987:BitVec 64),(1925078388:BitVec 64),(2162078206:BitVec 64),(2614888103:BitVec 64),(3248222580:BitVec 64),(3835390401:BitVec 64),(4022224774:BitVec 64),(264347078:BitVec 64),(604807628:BitVec 64),(770255983:BitVec 64),(1249150122:BitVec 64),(1555081692:BitVec 64),(1996064986:BitVec 64),(2554220882:BitVec 64),(2821834349:BitVec 64),(2952996808:BitVec 64),(3210313671:BitVec 64),(3336571891:BitVec 64),(3584528711:BitVec 64),(113926993:BitVec 64),(338241895:BitVec 64),(666307205:BitVec 64),(773529912:BitVec 64),(1294757372:BitVec 64),(1396182291:BitVec 64),(1695183700:BitVec 64),(1986661051:BitVec 64),(2177026350:BitVec 64),(2456956037:BitVec 64),(2730485921:BitVec 64),(2820302411:BitVec 64),(3259730800:BitVec 64),(3345764771:BitVec 64),(3516065817:BitVec 64),(3600352804:BitVec 64),(4094571909:BitVec 64),(275423344:BitVec 64),(430227734:BitVec 64),(506948616:BitVec 64),(659060556:BitVec 64),(883997877:BitVec 64),(958139571:BitVec 64),(1322822218:BitVec 64),(1537002063:BitVec 64),(1747873779:BitVec 64),(1955562222:BitVec 64),(2024104815:BitVec 64),(2227730452:BitVec 64),(2361852424:BitVec 64),(2428436474:BitVec 64),(2756734187:BitVec 64),(3204031479:BitVec 64),(3329325298:BitVec 64)]:List (BitVec 64)).map ee)) ?_
 refine sR ?_
 refine xm 5 (.full (([(1116352408:BitVec 64),(1899447441:BitVec 64),(3049323471:BitVec 64),(3921009573:BitVec 64),(961987163:BitVec 64),(1508970993:BitVec 64),(2453635748:BitVec 64),(2870763221:BitVec 64),(3624381080:BitVec 64),(310598401:BitVec 64),(607225278:BitVec 64),(1426881987:BitVec 64),(1925078388:BitVec 64),(2162078206:BitVec 64),(2614888103:BitVec 64),(3248222580:BitVec 64),(3835390401:BitVec 64),(4022224774:BitVec 64),(264347078:BitVec 64),(604807628:BitVec 64),(770255983:BitVec 64),(1249150122:BitVec 64),(1555081692:BitVec 64),(1996064986:BitVec 64),(2554220882:BitVec 64),(2821834349:BitVec 64),(2952996808:BitVec 64),(3210313671:BitVec 64),(3336571891:BitVec 64),(3584528711:BitVec 64),(113926993:BitVec 64),(338241895:BitVec 64),(666307205:BitVec 64),(773529912:BitVec 64),(1294757372:BitVec 64),(1396182291:BitVec 64),(1695183700:BitVec 64),(1986661051:BitVec 64),(2177026350:BitVec 64),(2456956037:BitVec 64),(2730485921:BitVec 64),(2820302411:BitVec 64),(3259730800:BitVec 64),(3345764771:BitVec 64),(3516065817:BitVec 64),(3600352804:BitVec 64),(4094571909:BitVec 64),(275423344:BitVec 64),(430227734:BitVec 64),(506948616:BitVec 64),(659060556:BitVec 64),(883997877:BitVec 64),(958139571:BitVec 64),(1322822218:BitVec 64),(1537002063:BitVec 64),(1747873779:BitVec 64),(1955562222:BitVec 64),(2024104815:BitVec 64),(2227730452:BitVec 64),(2361852424:BitVec 64),(2428436474:BitVec 64),(2756734187:BitVec 64),(3204031479:BitVec 64),(3329325298:BitVec 64)]:List (BitVec 64)).map ee)) ?_
 refine xm 6 (pI i0) ?_
 obtain ⟨nM,h⟩:=bk h
 refine xs 7 rfl (bN (l:=([(1116352408:BitVec 64),(1899447441:BitVec 64),(3049323471:BitVec 64),(3921009573:BitVec 64),(961987163:BitVec 64),(1508970993:BitVec 64),(2453635748:BitVec 64),(2870763221:BitVec 64),(3624381080:BitVec 64),(310598401:BitVec 64),(607225278:BitVec 64),(1426881987:BitVec 64),(1925078388:BitVec 64),(2162078206:BitVec 64),(2614888103:BitVec 64),(3248222580:BitVec 64),(3835390401:BitVec 64),(4022224774:BitVec 64),(264347078:BitVec 64),(604807628:BitVec 64),(770255983:BitVec 64),(1249150122:BitVec 64),(1555081692:BitVec 64),(1996064986:BitVec 64),(2554220882:BitVec 64),(2821834349:BitVec 64),(2952996808:BitVec 64),(3210313671:BitVec 64),(3336571891:BitVec 64),(3584528711:BitVec 64),(113926993:BitVec 64),(338241895:BitVec 64),(666307205:BitVec 64),(773529912:BitVec 64),(1294757372:BitVec 64),(1396182291:BitVec 64),(1695183700:BitVec 64),(1986661051:BitVec 64),(2177026350:BitVec 64),(2456956037:BitVec 64),(2730485921:BitVec 64),(2820302411:BitVec 64),(3259730800:BitVec 64),(3345764771:BitVec 64),(3516065817:BitVec 64),(3600352804:BitVec 64),(4094571909:BitVec 64),(275423344:BitVec 64),(430227734:BitVec 64),(506948616:BitVec 64),(659060556:BitVec 64),(883997877:BitVec 64),(958139571:BitVec 64),(1322822218:BitVec 64),(1537002063:BitVec 64),(1747873779:BitVec 64),(1955562222:BitVec 64),(2024104815:BitVec 64),(2227730452:BitVec 64),(2361852424:BitVec 64),(2428436474:BitVec 64),(2756734187:BitVec 64),(3204031479:BitVec 64),(3329325298:BitVec 64)]:List (BitVec 64))) (i:=i0) rfl TT.fI fA rfl rfl nM ?_)
 refine xs 8 rfl (aC (d:= .val (.int .u64 ((idx ([(1116352408:BitVec 64),(1899447441:BitVec 64),(3049323471:BitVec 64),(3921009573:BitVec 64),(961987163:BitVec 64),(1508970993:BitVec 64),(2453635748:BitVec 64),(2870763221:BitVec 64),(3624381080:BitVec 64),(310598401:BitVec 64),(607225278:BitVec 64),(1426881987:BitVec 64),(1925078388:BitVec 64),(2162078206:BitVec 64),(2614888103:BitVec 64),(3248222580:BitVec 64),(3835390401:BitVec 64),(4022224774:BitVec 64),(264347078:BitVec 64),(604807628:BitVec 64),(770255983:BitVec 64),(1249150122:BitVec 64),(1555081692:BitVec 64),(1996064986:BitVec 64),(2554220882:BitVec 64),(2821834349:BitVec 64),(2952996808:BitVec 64),(3210313671:BitVec 64),(3336571891:BitVec 64),(3584528711:BitVec 64),(113926993:BitVec 64),(338241895:BitVec 64),(666307205:BitVec 64),(773529912:BitVec 64),(1294757372:BitVec 64),(1396182291:BitVec 64),(1695183700:BitVec 64),(1986661051:BitVec 64),(2177026350:BitVec 64),(2456956037:BitVec 64),(2730485921:BitVec 64),(2820302411:BitVec 64),(3259730800:BitVec 64),(3345764771:BitVec 64),(3516065817:BitVec 64),(3600352804:BitVec 64),(4094571909:BitVec 64),(275423344:BitVec 64),(430227734:BitVec 64),(506948616:BitVec 64),(659060556:BitVec 64),(883997877:BitVec 64),(958139571:BitVec 64),(1322822218:BitVec 64),(1537002063:BitVec 64),(1747873779:BitVec 64),(1955562222:BitVec 64),(2024104815:BitVec 64),(2227730452:BitVec 64),(2361852424:BitVec 64),(2428436474:BitVec 64),(2756734187:BitVec 64),(3204031479:BitVec 64),(3329325298:BitVec 64)]:List (BitVec 64)) i0).toNat:Int))) rfl TT.gF rfl (di.one) ?_)
 refine xz 2 (.d (.val (.int .u64 ((idx ([(1116352408:BitVec 64),(1899447441:BitVec 64),(3049323471:BitVec 64),(3921009573:BitVec 64),(961987163:BitVec 64),(1508970993:BitVec 64),(2453635748:BitVec 64),(2870763221:BitVec 64),(3624381080:BitVec 64),(310598401:BitVec 64),(607225278:BitVec 64),(1426881987:BitVec 64),(1925078388:BitVec 64),(2162078206:BitVec 64),(2614888103:BitVec 64),(3248222580:BitVec 64),(3835390401:BitVec 64),(4022224774:BitVec 64),(264347078:BitVec 64),(604807628:BitVec 64),(770255983:BitVec 64),(1249150122:BitVec 64),(1555081692:BitVec 64),(1996064986:BitVec 64),(2554220882:BitVec 64),(2821834349:BitVec 64),(2952996808:BitVec 64),(3210313671:BitVec 64),(3336571891:BitVec 64),(3584528711:BitVec 64),(113926993:BitVec 64),(338241895:BitVec 64),(666307205:BitVec 64),(773529912:BitVec 64),(1294757372:BitVec 64),(1396182291:BitVec 64),(1695183700:BitVec 64),(1986661051:BitVec 64),(2177026350:BitVec 64),(2456956037:BitVec 64),(2730485921:BitVec 64),(2820302411:BitVec 64),(3259730800:BitVec 64),(3345764771:BitVec 64),(3516065817:BitVec 64),(3600352804:BitVec 64),(4094571909:BitVec 64),(275423344:BitVec 64),(430227734:BitVec 64),(506948616:BitVec 64),(659060556:BitVec 64),(883997877:BitVec 64),(958139571:BitVec 64),(1322822218:BitVec 64),(1537002063:BitVec 64),(1747873779:BitVec 64),(1955562222:BitVec 64),(2024104815:BitVec 64),(2227730452:BitVec 64),(2361852424:BitVec 64),(2428436474:BitVec 64),(2756734187:BitVec 64),(3204031479:BitVec 64),(3329325298:BitVec 64)]:List (BitVec 64)) i0).toNat:Int)))) ?_
 refine QW.ret zL ?_
 obtain rfl:=sO h
 exact Ends.one (.inr rfl) rfl (aG.tmp rfl) rfl rfl
inductive Aw where
 | S
 | L1 (bl:(List (BitVec 64))) (v6:Int)
 | L3 (od:(List (BitVec 64))) (nO:Int) (j5:(BitVec 64)) (kO:Int)
 | J2 (xO:(List (BitVec 64))) (fu:Int)
 | L4 (kW:(List (BitVec 64))) (v11:(List (BitVec 64))) (j4:Int)
 | L5 (qJ:(List (BitVec 64))) (Ax:(List (BitVec 64))) (v20:Int)
noncomputable def bW (h0:(List (BitVec 64))) (s1:(List UInt8)):Aw→Option (Aw⊕(List (BitVec 64)))
 | .S=>
  some (.inl (.L1 ([]:(List (BitVec 64))) (0)))
 | .L1 bl v6=>
  (bif (decide (v6<(64:Int))) then
  (bif (decide (v6<(16:Int))) then
  gO (bA ((4:Int)*v6)) (
  some (.inl (.L3 bl v6 (0:BitVec 64) ((4:Int)*v6))))
  else
  gO (bA (v6-(15:Int))) (
  gO (0≤(v6-(15:Int))∧(v6-(15:Int))<(bl.length:Int)) (
  gO (bA (v6-(2:Int))) (
  gO (0≤(v6-(2:Int))∧(v6-(2:Int))<(bl.length:Int)) (
  ((dI (idx bl (v6-(15:Int))) (7)).bind fun (x_16:(BitVec 64))=>
  ((dI (idx bl (v6-(15:Int))) (18)).bind fun (x_18:(BitVec 64))=>
  ((ng (idx bl (v6-(15:Int))) (3)).bind fun (x_20:(BitVec 64))=>
  ((dI (idx bl (v6-(2:Int))) (17)).bind fun (x_22:(BitVec 64))=>
  ((dI (idx bl (v6-(2:Int))) (19)).bind fun (x_24:(BitVec 64))=>
  ((ng (idx bl (v6-(2:Int))) (10)).bind fun (yu:(BitVec 64))=>
  gO (bA (v6-(16:Int))) (
  gO (0≤(v6-(16:Int))∧(v6-(16:Int))<(bl.length:Int)) (
  gO (bA (v6-(7:Int))) (
  gO (0≤(v6-(7:Int))∧(v6-(7:Int))<(bl.length:Int)) (
  ((kA ((((idx bl (v6-(16:Int)))+((x_16^^^x_18)^^^x_20))+(idx bl (v6-(7:Int))))+((x_22^^^x_24)^^^yu))).bind fun (sJ:(BitVec 64))=>
  gO ((bl.length+([sJ]:List (BitVec 64)).length)*8≤140737488355328) (
  some (.inl (.J2 (bl++([sJ]:List (BitVec 64))) v6)))))))))))))))))))
  else
  gO ((([]:List (BitVec 64)).length+h0.length)*8≤140737488355328) (
  some (.inl (.L4 bl (([]:List (BitVec 64))++h0) (0)))))
 | .L3 od nO j5 kO=>
  gO (bA ((4:Int)*nO)) (
  gO (bA (((4:Int)*nO)+(4:Int))) (
  (bif (decide (kO<(((4:Int)*nO)+(4:Int)))) then
  gO (0≤kO∧kO<(s1.length:Int)) (
  gO (bA (kO+(1:Int))) (
  some (.inl (.L3 od nO (((256:BitVec 64)*j5)+(BitVec.ofInt 64 ((idx s1 kO).toNat:Int))) (kO+(1:Int))))))
  else
  gO ((od.length+([j5]:List (BitVec 64)).length)*8≤140737488355328) (
  some (.inl (.J2 (od++([j5]:List (BitVec 64))) nO))))))
 | .J2 xO fu=>
  gO (bA (fu+(1:Int))) (
  some (.inl (.L1 xO (fu+(1:Int)))))
 | .L4 kW v11 j4=>
  (bif (decide (j4<(64:Int))) then
  gO (0≤(4:Int)∧(4:Int)<(v11.length:Int)) (
  gO (0≤(0:Int)∧(0:Int)<(v11.length:Int)) (
  gO (0≤(5:Int)∧(5:Int)<(v11.length:Int)) (
  gO (0≤(6:Int)∧(6:Int)<(v11.length:Int)) (
  gO (0≤(1:Int)∧(1:Int)<(v11.length:Int)) (
  gO (0≤(2:Int)∧(2:Int)<(v11.length:Int)) (
  gO (0≤(1:Int)∧(1:Int)<(v11.length:Int)) (
  gO (0≤(2:Int)∧(2:Int)<(v11.length:Int)) (
  gO (0≤(7:Int)∧(7:Int)<(v11.length:Int)) (
  ((dI (idx v11 (4:Int)) (6)).bind fun (Dm:(BitVec 64))=>
  ((dI (idx v11 (4:Int)) (11)).bind fun (Dp:(BitVec 64))=>
  ((dI (idx v11 (4:Int)) (25)).bind fun (E6:(BitVec 64))=>
  ((za j4).bind fun (Mp:(BitVec 64))=>
  gO (0≤j4∧j4<(kW.length:Int)) (
  ((kA (((((idx v11 (7:Int))+((Dm^^^Dp)^^^E6))+(((idx v11 (4:Int))&&& (idx v11 (5:Int)))||| (((4294967295:BitVec 64)-(idx v11 (4:Int)))&&& (idx v11 (6:Int)))))+Mp)+(idx kW j4))).bind fun (Ay:(BitVec 64))=>
  ((dI (idx v11 (0:Int)) (2)).bind fun (Ju:(BitVec 64))=>
  ((dI (idx v11 (0:Int)) (13)).bind fun (Jv:(BitVec 64))=>
  ((dI (idx v11 (0:Int)) (22)).bind fun (Mq:(BitVec 64))=>
  ((kA (((Ju^^^Jv)^^^Mq)+((((idx v11 (0:Int))&&& (idx v11 (1:Int)))||| ((idx v11 (0:Int))&&& (idx v11 (2:Int))))||| ((idx v11 (1:Int))&&& (idx v11 (2:Int)))))).bind fun (Jw:(BitVec 64))=>
  ((kA (Ay+Jw)).bind fun (Hl:(BitVec 64))=>
  gO (0≤(0:Int)∧(0:Int)<(v11.length:Int)) (
  gO (0≤(1:Int)∧(1:Int)<(v11.length:Int)) (
  gO (0≤(2:Int)∧(2:Int)<(v11.length:Int)) (
  gO (0≤(3:Int)∧(3:Int)<(v11.length:Int)) (
  ((kA ((idx v11 (3:Int))+Ay)).bind fun (Ho:(BitVec 64))=>
  gO (0≤(4:Int)∧(4:Int)<(v11.length:Int)) (
  gO (0≤(5:Int)∧(5:Int)<(v11.length:Int)) (
  gO (0≤(6:Int)∧(6:Int)<(v11.length:Int)) (
  gO (bA (j4+(1:Int))) (
  some (.inl (.L4 kW ([Hl,(idx v11 (0:Int)),(idx v11 (1:Int)),(idx v11 (2:Int)),Ho,(idx v11 (4:Int)),(idx v11 (5:Int)),(idx v11 (6:Int))]:List (BitVec 64)) (j4+(1:Int)))))))))))))))))))))))))))))))))
  else
  some (.inl (.L5 v11 ([]:(List (BitVec 64))) (0))))
 | .L5 qJ Ax v20=>
  (bif (decide (v20<(8:Int))) then
  gO (0≤v20∧v20<(h0.length:Int)) (
  gO (0≤v20∧v20<(qJ.length:Int)) (
  ((kA ((idx h0 v20)+(idx qJ v20))).bind fun (Dq:(BitVec 64))=>
  gO ((Ax.length+([Dq]:List (BitVec 64)).length)*8≤140737488355328) (
  gO (bA (v20+(1:Int))) (
  some (.inl (.L5 qJ (Ax++([Dq]:List (BitVec 64))) (v20+(1:Int)))))))))
  else
  some (.inr Ax))
noncomputable def wh (h0:(List (BitVec 64))) (s1:(List UInt8)):Option (List (BitVec 64)):=gU (bW h0 s1) .S
theorem Ei (h0:(List (BitVec 64))) (s1:(List UInt8)) (r:(List (BitVec 64))) (h:wh h0 s1=some r):bE Tryz.prog 66 [.slice (h0.map ee), .val (sV s1)] (.slice (r.map ee)):=by
 refine bE.aU Tryz.func66 rfl (by simp [Tryz.ntmps66]) ?_
 rw [Tryz.ntmps66,TT.V1]
 refine QW.view (s':=⟨aF [(0, .d (.slice (h0.map ee))),(1,pS s1)],aj [],0,[]⟩) (View.init (by rfl)) zL ?_
 replace h:=cG h
 obtain ⟨_,h⟩:=h
 obtain ⟨c8,rfl,h9⟩:=aQ h;replace h:=h9;clear h9;rw [bW] at h
 refine sR ?_
 refine xz 4 (.full (([]:(List (BitVec 64))).map ee)) ?_
 refine sR ?_
 refine xz 5 (.full (([]:(List (BitVec 64))).map ee)) ?_
 refine QW.seq ?_
 refine sR ?_
 refine xz 6 (pI (0)) ?_
 refine QW.block ?_
 refine QW.loop (fun k σ=>∃ bl:(List (BitVec 64)),∃ v6:Int,k≤c8∧run (bW h0 s1) k (.L1 bl v6)=some r∧σ=⟨aF [(0, .d (.slice (h0.map ee))),(1,pS s1),(5, .own 0 (bl.map ee)),(6,pI v6)],aj [.spare 1 bl.length],1,[]⟩) c8 zL ⟨⟨aF [(0, .d (.slice (h0.map ee))),(1,pS s1),(5, .own 0 (([]:(List (BitVec 64))).map ee)),(6,pI (0))],aj [.spare 1 ([]:(List (BitVec 64))).length],1,[]⟩,View.trans (View.buf 5 1 rfl zL) (View.mk 1 [0] _ _ _ rfl rfl (by decide) (iC (iC (iC (iC trivial)))) (And.intro rfl trivial) rfl zL rfl),([]:(List (BitVec 64))),0,Nat.le_refl _,jG h,rfl⟩ ?_
 rintro pZ _ ⟨bl,v6,p4,h,rfl⟩
 obtain ⟨k_1,rfl,h9⟩:=aQ h;replace h:=h9;clear h9;rw [bW] at h
 refine QW.seq ?_
 refine sR ?_
 refine xm 21 (pI v6) ?_
 refine xs 22 rfl (cK (a:=v6) (b:=(64:Int)) rfl rfl rfl ?_)
 refine XK.nz ?_
 refine QW.cond (t:=(decide (v6<(64:Int)))) rfl zL (fun cv=>?_) (fun cv=>?_)
 ·replace h:=eX h cv
  refine QW.skip zL (aY ?_)
  refine QW.rH (fun s'=>∃ xO:(List (BitVec 64)),∃ fu:Int,∃ k:Nat,k≤k_1∧run (bW h0 s1) k (.J2 xO fu)=some r∧s'=⟨aF [(0, .d (.slice (h0.map ee))),(1,pS s1),(5, .own 0 (xO.map ee)),(6,pI fu)],aj [.spare 1 xO.length],1,[]⟩) ?_ ?_
  ·refine QW.block ?_
   refine QW.seq ?_
   refine sR ?_
   refine xm 25 (pI v6) ?_
   refine xs 26 rfl (cK (a:=v6) (b:=(16:Int)) rfl rfl rfl ?_)
   refine XK.nz ?_
   refine QW.cond (t:=(decide (v6<(16:Int)))) rfl zL (fun dW=>?_) (fun dW=>?_)
   ·replace h:=eX h dW
    refine sR ?_
    refine xz 7 (.d (.val (.int .u64 ((0:BitVec 64).toNat:Int)))) ?_
    refine QW.seq ?_
    refine sR ?_
    refine xm 27 (pI v6) ?_
    obtain ⟨lY,h⟩:=gG h
    refine xs 28 rfl (AV (a:=(4:Int)) (b:=v6) rfl rfl rfl lY ?_)
    refine xz 8 (pI ((4:Int)*v6)) ?_
    refine QW.block ?_
    refine QW.loop (fun k σ=>∃ od:(List (BitVec 64)),∃ nO:Int,∃ j5:(BitVec 64),∃ kO:Int,k≤k_1∧run (bW h0 s1) k (.L3 od nO j5 kO)=some r∧σ=⟨aF [(0, .d (.slice (h0.map ee))),(1,pS s1),(5, .own 0 (od.map ee)),(6,pI nO),(7, .d (.val (.int .u64 (j5.toNat:Int)))),(8,pI kO)],aj [.spare 1 od.length],1,[]⟩) k_1 zL ⟨⟨aF [(0, .d (.slice (h0.map ee))),(1,pS s1),(5, .own 0 (bl.map ee)),(6,pI v6),(7, .d (.val (.int .u64 ((0:BitVec 64).toNat:Int)))),(8,pI ((4:Int)*v6))],aj [.spare 1 bl.length],1,[]⟩,View.mk 1 [0] _ _ _ rfl rfl (by decide) (iC (iC (iC (iC (iC (iC trivial)))))) (And.intro rfl trivial) rfl zL rfl,bl,v6,(0:BitVec 64),((4:Int)*v6),Nat.le_refl _,jG h,rfl⟩ ?_
    rintro Tl _ ⟨od,nO,j5,kO,Tm,h,rfl⟩
    obtain ⟨Ft,rfl,h9⟩:=aQ h;replace h:=h9;clear h9;rw [bW] at h
    refine QW.seq ?_
    refine sR ?_
    refine xm 29 (pI kO) ?_
    refine xm 30 (pI nO) ?_
    obtain ⟨lZ,h⟩:=gG h
    refine xs 31 rfl (AV (a:=(4:Int)) (b:=nO) rfl rfl rfl lZ ?_)
    obtain ⟨mc,h⟩:=gG h
    refine xs 32 rfl (bY (a:=((4:Int)*nO)) (b:=(4:Int)) rfl rfl rfl mc ?_)
    refine xs 33 rfl (cK (a:=kO) (b:=(((4:Int)*nO)+(4:Int))) rfl rfl rfl ?_)
    refine XK.nz ?_
    refine QW.cond (t:=(decide (kO<(((4:Int)*nO)+(4:Int))))) rfl zL (fun rV=>?_) (fun rV=>?_)
    ·replace h:=eX h rV
     refine QW.skip zL (aY ?_)
     refine QW.seq ?_
     refine QW.block ?_
     refine rG ?_
     refine xm 36 (.d (.val (.int .u64 (j5.toNat:Int)))) ?_
     refine xs 37 rfl (D6 (a:=(256:BitVec 64)) (b:=j5) rfl rfl rfl ?_)
     refine xm 38 (pS s1) ?_
     refine xm 39 (pI kO) ?_
     obtain ⟨rN,h⟩:=gG h
     refine xs 40 rfl (lI (l:=s1) (i:=kO) rfl TT.bZ TT.nL rfl rfl rN ?_)
     refine xs 41 rfl (wY (n:=((idx s1 kO).toNat:Int)) rfl TT.dV TT.s4 rfl ?_)
     refine xs 42 rfl (fT (a:=((256:BitVec 64)*j5)) (b:=(BitVec.ofInt 64 ((idx s1 kO).toNat:Int))) rfl rfl rfl ?_)
     refine xa 7 (.d (.val (.int .u64 ((((256:BitVec 64)*j5)+(BitVec.ofInt 64 ((idx s1 kO).toNat:Int))).toNat:Int)))) ?_
     refine XK.nil (gC (aY ?_))
     refine rG ?_
     refine xm 34 (pI kO) ?_
     obtain ⟨oq,h⟩:=gG h
     refine xs 35 rfl (bY (a:=kO) (b:=(1:Int)) rfl rfl rfl oq ?_)
     refine xz 8 (pI (kO+(1:Int))) ?_
     exact ⟨Ft,by omega,⟨aF [(0, .d (.slice (h0.map ee))),(1,pS s1),(5, .own 0 (od.map ee)),(6,pI nO),(7, .d (.val (.int .u64 ((((256:BitVec 64)*j5)+(BitVec.ofInt 64 ((idx s1 kO).toNat:Int))).toNat:Int)))),(8,pI (kO+(1:Int)))],aj [.spare 1 od.length],1,[]⟩,View.mk 1 [0] _ _ _ rfl rfl (by decide) (iC (iC (iC (iC (iC (iC trivial)))))) (And.intro rfl trivial) rfl zL rfl,od,nO,(((256:BitVec 64)*j5)+(BitVec.ofInt 64 ((idx s1 kO).toNat:Int))),(kO+(1:Int)),by omega,jG h,rfl⟩
    ·replace h:=eY h rV
     refine QW.exit zL (eA (eA (jY (aY ?_))))
     refine sR ?_
     refine xm 43 (.own 0 (od.map ee)) ?_
     refine xm 44 (.d (.val (.int .u64 (j5.toNat:Int)))) ?_
     refine xs 45 rfl (dU (en:=ee) (l:=([j5]:List (BitVec 64))) rfl TT.nc fA rfl rfl (by decide) (by simp [dg,cQ,aB,dK,PV.cz,cu,aF,jz,iL,jP,bV,Value.oneCell']) ?_)
     obtain ⟨vG,h⟩:=gG h
     refine xs 46 rfl (iJ (en:=ee) (l:=od) (l2:=([j5]:List (BitVec 64))) rfl TT.nc TT.y9 rfl fA rfl rfl rfl vG (by decide) ?_)
     refine xz 5 (.own 1 ((od++([j5]:List (BitVec 64))).map ee)) ?_
     refine QW.exit zL (eA (jY (aY ?_)))
     exact ⟨⟨aF [(0, .d (.slice (h0.map ee))),(1,pS s1),(5, .own 0 ((od++([j5]:List (BitVec 64))).map ee)),(6,pI nO)],aj [.spare 1 (od++([j5]:List (BitVec 64))).length],1,[]⟩,View.mk 1 [1] _ _ _ rfl rfl (by decide) (iC (iC (iC (iC trivial)))) (And.intro rfl trivial) rfl zL rfl,(od++([j5]:List (BitVec 64))),nO,Ft,by omega,jG h,rfl⟩
   ·replace h:=eY h dW
    refine QW.skip zL (aY ?_)
    refine sR ?_
    refine xm 47 (.own 0 (bl.map ee)) ?_
    refine xm 48 (pI v6) ?_
    obtain ⟨mX,h⟩:=gG h
    refine xs 49 rfl (nJ (a:=v6) (b:=(15:Int)) rfl rfl rfl mX ?_)
    obtain ⟨nE,h⟩:=gG h
    refine xs 50 rfl (bN (l:=bl) (i:=(v6-(15:Int))) rfl TT.fI fA rfl rfl nE ?_)
    refine xs 51 rfl (aC (d:= .val (.int .u64 ((idx bl (v6-(15:Int))).toNat:Int))) rfl TT.gF rfl (di.one) ?_)
    refine xz 9 (.d (.val (.int .u64 ((idx bl (v6-(15:Int))).toNat:Int)))) ?_
    refine sR ?_
    refine xm 52 (.own 0 (bl.map ee)) ?_
    refine xm 53 (pI v6) ?_
    obtain ⟨rL,h⟩:=gG h
    refine xs 54 rfl (nJ (a:=v6) (b:=(2:Int)) rfl rfl rfl rL ?_)
    obtain ⟨vH,h⟩:=gG h
    refine xs 55 rfl (bN (l:=bl) (i:=(v6-(2:Int))) rfl TT.fI fA rfl rfl vH ?_)
    refine xs 56 rfl (aC (d:= .val (.int .u64 ((idx bl (v6-(2:Int))).toNat:Int))) rfl TT.gF rfl (di.one) ?_)
    refine xz 10 (.d (.val (.int .u64 ((idx bl (v6-(2:Int))).toNat:Int)))) ?_
    refine sR ?_
    refine xm 57 (.d (.val (.int .u64 ((idx bl (v6-(15:Int))).toNat:Int)))) ?_
    obtain ⟨x_16,G0,h⟩:=bG h
    refine xs 58 rfl (aA rfl rfl TT.mV rfl (iw (idx bl (v6-(15:Int))) (7) _ G0) ?_)
    refine xm 59 (.d (.val (.int .u64 ((idx bl (v6-(15:Int))).toNat:Int)))) ?_
    obtain ⟨x_18,xF,h⟩:=bG h
    refine xs 60 rfl (aA rfl rfl TT.mV rfl (iw (idx bl (v6-(15:Int))) (18) _ xF) ?_)
    refine xs 61 rfl (j6 (a:=x_16) (b:=x_18) rfl rfl rfl ?_)
    refine xm 62 (.d (.val (.int .u64 ((idx bl (v6-(15:Int))).toNat:Int)))) ?_
    obtain ⟨x_20,yY,h⟩:=bG h
    refine xs 63 rfl (aA rfl rfl TT.Hj rfl (yw (idx bl (v6-(15:Int))) (3) _ yY) ?_)
    refine xs 64 rfl (j6 (a:=(x_16^^^x_18)) (b:=x_20) rfl rfl rfl ?_)
    refine xz 9 (.d (.val (.int .u64 (((x_16^^^x_18)^^^x_20).toNat:Int)))) ?_
    refine QW.seq ?_
    refine QW.view (s':=⟨aF [(0, .d (.slice (h0.map ee))),(1,pS s1),(5, .own 0 (bl.map ee)),(6,pI v6),(9, .d (.val (.int .u64 (((x_16^^^x_18)^^^x_20).toNat:Int)))),(10, .d (.val (.int .u64 ((idx bl (v6-(2:Int))).toNat:Int))))],aj [.spare 1 bl.length],1,[]⟩) (View.mk 1 [0] _ _ _ rfl rfl (by decide) (iC (iC (iC (iC (iC (iC trivial)))))) (And.intro rfl trivial) rfl zL rfl) zL ?_
    refine rG ?_
    refine xm 65 (.d (.val (.int .u64 ((idx bl (v6-(2:Int))).toNat:Int)))) ?_
    obtain ⟨x_22,vO,h⟩:=bG h
    refine xs 66 rfl (aA rfl rfl TT.mV rfl (iw (idx bl (v6-(2:Int))) (17) _ vO) ?_)
    refine xm 67 (.d (.val (.int .u64 ((idx bl (v6-(2:Int))).toNat:Int)))) ?_
    obtain ⟨x_24,Hg,h⟩:=bG h
    refine xs 68 rfl (aA rfl rfl TT.mV rfl (iw (idx bl (v6-(2:Int))) (19) _ Hg) ?_)
    refine xs 69 rfl (j6 (a:=x_22) (b:=x_24) rfl rfl rfl ?_)
    refine xm 70 (.d (.val (.int .u64 ((idx bl (v6-(2:Int))).toNat:Int)))) ?_
    obtain ⟨yu,Oy,h⟩:=bG h
    refine xs 71 rfl (aA rfl rfl TT.Hj rfl (yw (idx bl (v6-(2:Int))) (10) _ Oy) ?_)
    refine xs 72 rfl (j6 (a:=(x_22^^^x_24)) (b:=yu) rfl rfl rfl ?_)
    refine xz 10 (.d (.val (.int .u64 (((x_22^^^x_24)^^^yu).toNat:Int)))) ?_
    refine QW.region zL (PW.tN (id:=16) dh (M:=_) rfl (by kernel_rfl) ?_)
    refine RK.st (some 73) rfl rfl (au (v:= .own 0 (bl.map ee)) rfl rfl ?_)
    refine RK.st (some 74) rfl rfl (au (v:= .own 0 (bl.map ee)) rfl rfl ?_)
    refine RK.st (some 75) rfl rfl (au (v:=pI v6) rfl rfl ?_)
    obtain ⟨Tz,h⟩:=gG h
    refine RK.st (some 76) rfl rfl (nJ (a:=v6) (b:=(16:Int)) rfl rfl rfl Tz ?_)
    obtain ⟨sF,h⟩:=gG h
    refine RK.st (some 77) rfl rfl (bN (l:=bl) (i:=(v6-(16:Int))) rfl TT.fI fA rfl rfl sF ?_)
    refine RK.st (some 78) rfl rfl (aC (d:= .val (.int .u64 ((idx bl (v6-(16:Int))).toNat:Int))) rfl TT.gF rfl (di.one) ?_)
    refine RK.st (some 79) rfl rfl (au (v:= .d (.val (.int .u64 (((x_16^^^x_18)^^^x_20).toNat:Int)))) rfl rfl ?_)
    refine RK.st (some 80) rfl rfl (fT (a:=(idx bl (v6-(16:Int)))) (b:=((x_16^^^x_18)^^^x_20)) rfl rfl rfl ?_)
    refine RK.st (some 81) rfl rfl (au (v:= .own 0 (bl.map ee)) rfl rfl ?_)
    refine RK.st (some 82) rfl rfl (au (v:=pI v6) rfl rfl ?_)
    obtain ⟨EX,h⟩:=gG h
    refine RK.st (some 83) rfl rfl (nJ (a:=v6) (b:=(7:Int)) rfl rfl rfl EX ?_)
    obtain ⟨L0,h⟩:=gG h
    refine RK.st (some 84) rfl rfl (bN (l:=bl) (i:=(v6-(7:Int))) rfl TT.fI fA rfl rfl L0 ?_)
    refine RK.st (some 85) rfl rfl (aC (d:= .val (.int .u64 ((idx bl (v6-(7:Int))).toNat:Int))) rfl TT.gF rfl (di.one) ?_)
    refine RK.st (some 86) rfl rfl (fT (a:=((idx bl (v6-(16:Int)))+((x_16^^^x_18)^^^x_20))) (b:=(idx bl (v6-(7:Int)))) rfl rfl rfl ?_)
    refine RK.st (some 87) rfl rfl (au (v:= .d (.val (.int .u64 (((x_22^^^x_24)^^^yu).toNat:Int)))) rfl rfl ?_)
    refine RK.st (some 88) rfl rfl (fT (a:=(((idx bl (v6-(16:Int)))+((x_16^^^x_18)^^^x_20))+(idx bl (v6-(7:Int))))) (b:=((x_22^^^x_24)^^^yu)) rfl rfl rfl ?_)
    obtain ⟨sJ,Oz,h⟩:=bG h
    refine RK.st (some 89) rfl rfl (aA rfl rfl TT.ta rfl (nh ((((idx bl (v6-(16:Int)))+((x_16^^^x_18)^^^x_20))+(idx bl (v6-(7:Int))))+((x_22^^^x_24)^^^yu)) _ Oz) ?_)
    refine RK.st (some 90) rfl rfl (dU (en:=ee) (l:=([sJ]:List (BitVec 64))) rfl TT.nc fA rfl rfl (by decide) (by simp [dg,cQ,aB,dK,PV.cz,cu,aF,jz,iL,jP,bV,Value.oneCell']) ?_)
    obtain ⟨EZ,h⟩:=gG h
    refine RK.st (some 91) rfl rfl (iJ (en:=ee) (l:=bl) (l2:=([sJ]:List (BitVec 64))) rfl TT.nc TT.y9 rfl fA rfl rfl rfl EZ (by decide) ?_)
    refine RK.st (some 5) rfl rfl (cq (v:= .own 1 ((bl++([sJ]:List (BitVec 64))).map ee)) rfl rfl ?_)
    refine RK.nil ⟨gl.last 18 (by simp) (by simp) (by rfl),(gC (aY ?_))⟩
    exact ⟨⟨aF [(0, .d (.slice (h0.map ee))),(1,pS s1),(5, .own 0 ((bl++([sJ]:List (BitVec 64))).map ee)),(6,pI v6)],aj [.spare 1 (bl++([sJ]:List (BitVec 64))).length],1,[]⟩,View.mk 1 [1] _ _ _ rfl rfl (by decide) (iC (iC (iC (iC trivial)))) (And.intro rfl trivial) rfl zL rfl,(bl++([sJ]:List (BitVec 64))),v6,k_1,by omega,jG h,rfl⟩
  ·rintro _ ⟨xO,fu,aa9,aba,h,rfl⟩
   obtain ⟨Zt,rfl,h9⟩:=aQ h;replace h:=h9;clear h9;rw [bW] at h
   refine rG ?_
   refine xm 23 (pI fu) ?_
   obtain ⟨Zu,h⟩:=gG h
   refine xs 24 rfl (bY (a:=fu) (b:=(1:Int)) rfl rfl rfl Zu ?_)
   refine xz 6 (pI (fu+(1:Int))) ?_
   exact ⟨Zt,by omega,⟨aF [(0, .d (.slice (h0.map ee))),(1,pS s1),(5, .own 0 (xO.map ee)),(6,pI (fu+(1:Int)))],aj [.spare 1 xO.length],1,[]⟩,View.mk 1 [0] _ _ _ rfl rfl (by decide) (iC (iC (iC (iC trivial)))) (And.intro rfl trivial) rfl zL rfl,xO,(fu+(1:Int)),by omega,jG h,rfl⟩
 ·replace h:=eY h cv
  refine QW.exit zL (eA (eA (jY (aY ?_))))
  refine sR ?_
  refine xs 92 rfl (dU (en:=ee) (l:=([]:List (BitVec 64))) rfl TT.nc fA rfl rfl (by decide) (by simp [dg,cQ,aB,dK,PV.cz,cu,aF,jz,iL,jP,bV,Value.oneCell']) ?_)
  refine xm 93 (.d (.slice (h0.map ee))) ?_
  obtain ⟨Te,h⟩:=gG h
  refine xs 94 rfl (Gp (en:=ee) (l:=([]:List (BitVec 64))) (l2:=h0) rfl TT.nc TT.y9 rfl fA rfl rfl ⟨Te,fun _=>rfl⟩ (by decide) ?_)
  refine xz 11 (.own 1 ((([]:List (BitVec 64))++h0).map ee)) ?_
  refine QW.seq ?_
  refine sR ?_
  refine xz 12 (pI (0)) ?_
  refine QW.block ?_
  refine QW.loop (fun k σ=>∃ kW:(List (BitVec 64)),∃ v11:(List (BitVec 64)),∃ j4:Int,k≤k_1∧run (bW h0 s1) k (.L4 kW v11 j4)=some r∧σ=⟨aF [(0, .d (.slice (h0.map ee))),(5, .own 0 (kW.map ee)),(11, .d (.slice (v11.map ee))),(12,pI j4)],aj [.spare 1 kW.length],1,[]⟩) k_1 zL ⟨⟨aF [(0, .d (.slice (h0.map ee))),(5, .own 0 (bl.map ee)),(11, .d (.slice ((([]:List (BitVec 64))++h0).map ee))),(12,pI (0))],aj [.spare 1 bl.length],1,[]⟩,View.mk 1 [0] _ _ _ rfl rfl (by decide) (iC (iC (And.intro (iy.cW rfl) (iC trivial)))) (And.intro rfl trivial) rfl zL rfl,bl,(([]:List (BitVec 64))++h0),0,Nat.le_refl _,jG h,rfl⟩ ?_
  rintro abb _ ⟨kW,v11,j4,abc,h,rfl⟩
  obtain ⟨TA,rfl,h9⟩:=aQ h;replace h:=h9;clear h9;rw [bW] at h
  refine QW.seq ?_
  refine sR ?_
  refine xm 95 (pI j4) ?_
  refine xs 96 rfl (cK (a:=j4) (b:=(64:Int)) rfl rfl rfl ?_)
  refine XK.nz ?_
  refine QW.cond (t:=(decide (j4<(64:Int)))) rfl zL (fun Cv=>?_) (fun Cv=>?_)
  ·replace h:=eX h Cv
   refine QW.skip zL (aY ?_)
   refine QW.seq ?_
   refine QW.block ?_
   refine sR ?_
   refine xm 99 (.d (.slice (v11.map ee))) ?_
   obtain ⟨TB,h⟩:=gG h
   refine xs 100 rfl (bN (l:=v11) (i:=(4:Int)) rfl TT.fI fA rfl rfl TB ?_)
   refine xs 101 rfl (aC (d:= .val (.int .u64 ((idx v11 (4:Int)).toNat:Int))) rfl TT.gF rfl (di.one) ?_)
   refine xz 13 (.d (.val (.int .u64 ((idx v11 (4:Int)).toNat:Int)))) ?_
   refine sR ?_
   refine xm 102 (.d (.slice (v11.map ee))) ?_
   obtain ⟨S6,h⟩:=gG h
   refine xs 103 rfl (bN (l:=v11) (i:=(0:Int)) rfl TT.fI fA rfl rfl S6 ?_)
   refine xs 104 rfl (aC (d:= .val (.int .u64 ((idx v11 (0:Int)).toNat:Int))) rfl TT.gF rfl (di.one) ?_)
   refine xz 14 (.d (.val (.int .u64 ((idx v11 (0:Int)).toNat:Int)))) ?_
   refine QW.seq ?_
   refine QW.region zL (PW.kC (id:=23) dh (M:=_) rfl (by kernel_rfl) ?_)
   refine RQ.st (some 105) rfl rfl (au (v:= .d (.val (.int .u64 ((idx v11 (4:Int)).toNat:Int)))) rfl rfl ⟨⟨rfl,rfl⟩,?_⟩)
   refine RQ.st (some 106) rfl rfl (au (v:= .d (.slice (v11.map ee))) rfl rfl ⟨⟨rfl,rfl⟩,?_⟩)
   obtain ⟨Zv,h⟩:=gG h
   refine RQ.st (some 107) rfl rfl (bN (l:=v11) (i:=(5:Int)) rfl TT.fI fA rfl rfl Zv ⟨⟨rfl,rfl⟩,?_⟩)
   refine RQ.st (some 108) rfl rfl (aC (d:= .val (.int .u64 ((idx v11 (5:Int)).toNat:Int))) rfl TT.gF rfl (di.one) ⟨⟨rfl,rfl⟩,?_⟩)
   refine RQ.st (some 109) rfl rfl (m9 (a:=(idx v11 (4:Int))) (b:=(idx v11 (5:Int))) rfl rfl rfl ⟨⟨rfl,rfl⟩,?_⟩)
   refine RQ.st (some 110) rfl rfl (au (v:= .d (.val (.int .u64 ((idx v11 (4:Int)).toNat:Int)))) rfl rfl ⟨⟨rfl,rfl⟩,?_⟩)
   refine RQ.st (some 111) rfl rfl (Jh (a:=(4294967295:BitVec 64)) (b:=(idx v11 (4:Int))) rfl rfl rfl ⟨⟨rfl,rfl⟩,?_⟩)
   refine RQ.st (some 112) rfl rfl (au (v:= .d (.slice (v11.map ee))) rfl rfl ⟨⟨rfl,rfl⟩,?_⟩)
   obtain ⟨Zw,h⟩:=gG h
   refine RQ.st (some 113) rfl rfl (bN (l:=v11) (i:=(6:Int)) rfl TT.fI fA rfl rfl Zw ⟨⟨rfl,rfl⟩,?_⟩)
   refine RQ.st (some 114) rfl rfl (aC (d:= .val (.int .u64 ((idx v11 (6:Int)).toNat:Int))) rfl TT.gF rfl (di.one) ⟨⟨rfl,rfl⟩,?_⟩)
   refine RQ.st (some 115) rfl rfl (m9 (a:=((4294967295:BitVec 64)-(idx v11 (4:Int)))) (b:=(idx v11 (6:Int))) rfl rfl rfl ⟨⟨rfl,rfl⟩,?_⟩)
   refine RQ.st (some 116) rfl rfl (vw (a:=((idx v11 (4:Int))&&& (idx v11 (5:Int)))) (b:=(((4294967295:BitVec 64)-(idx v11 (4:Int)))&&& (idx v11 (6:Int)))) rfl rfl rfl ⟨⟨rfl,rfl⟩,?_⟩)
   refine RQ.st (some 15) rfl rfl (cq (v:= .d (.val (.int .u64 ((((idx v11 (4:Int))&&& (idx v11 (5:Int)))||| (((4294967295:BitVec 64)-(idx v11 (4:Int)))&&& (idx v11 (6:Int)))).toNat:Int)))) rfl rfl ⟨⟨rfl,rfl⟩,?_⟩)
   refine RQ.nil (aY ?_)
   refine QW.seq ?_
   refine QW.view (s':=⟨aF [(0, .d (.slice (h0.map ee))),(5, .own 0 (kW.map ee)),(11, .d (.slice (v11.map ee))),(12,pI j4),(13, .d (.val (.int .u64 ((idx v11 (4:Int)).toNat:Int)))),(14, .d (.val (.int .u64 ((idx v11 (0:Int)).toNat:Int)))),(15, .d (.val (.int .u64 ((((idx v11 (4:Int))&&& (idx v11 (5:Int)))||| (((4294967295:BitVec 64)-(idx v11 (4:Int)))&&& (idx v11 (6:Int)))).toNat:Int))))],aj [.spare 1 kW.length],1,[]⟩) (View.mk 1 [0] _ _ _ rfl rfl (by decide) (iC (iC (iC (iC (iC (iC (iC trivial))))))) (And.intro rfl trivial) rfl zL rfl) zL ?_
   refine QW.region zL (PW.kC (id:=24) dh (M:=_) rfl (by kernel_rfl) ?_)
   refine RQ.st (some 117) rfl rfl (au (v:= .d (.val (.int .u64 ((idx v11 (0:Int)).toNat:Int)))) rfl rfl ⟨⟨rfl,rfl⟩,?_⟩)
   refine RQ.st (some 118) rfl rfl (au (v:= .d (.slice (v11.map ee))) rfl rfl ⟨⟨rfl,rfl⟩,?_⟩)
   obtain ⟨S7,h⟩:=gG h
   refine RQ.st (some 119) rfl rfl (bN (l:=v11) (i:=(1:Int)) rfl TT.fI fA rfl rfl S7 ⟨⟨rfl,rfl⟩,?_⟩)
   refine RQ.st (some 120) rfl rfl (aC (d:= .val (.int .u64 ((idx v11 (1:Int)).toNat:Int))) rfl TT.gF rfl (di.one) ⟨⟨rfl,rfl⟩,?_⟩)
   refine RQ.st (some 121) rfl rfl (m9 (a:=(idx v11 (0:Int))) (b:=(idx v11 (1:Int))) rfl rfl rfl ⟨⟨rfl,rfl⟩,?_⟩)
   refine RQ.st (some 122) rfl rfl (au (v:= .d (.val (.int .u64 ((idx v11 (0:Int)).toNat:Int)))) rfl rfl ⟨⟨rfl,rfl⟩,?_⟩)
   refine RQ.st (some 123) rfl rfl (au (v:= .d (.slice (v11.map ee))) rfl rfl ⟨⟨rfl,rfl⟩,?_⟩)
   obtain ⟨Zx,h⟩:=gG h
   refine RQ.st (some 124) rfl rfl (bN (l:=v11) (i:=(2:Int)) rfl TT.fI fA rfl rfl Zx ⟨⟨rfl,rfl⟩,?_⟩)
   refine RQ.st (some 125) rfl rfl (aC (d:= .val (.int .u64 ((idx v11 (2:Int)).toNat:Int))) rfl TT.gF rfl (di.one) ⟨⟨rfl,rfl⟩,?_⟩)
   refine RQ.st (some 126) rfl rfl (m9 (a:=(idx v11 (0:Int))) (b:=(idx v11 (2:Int))) rfl rfl rfl ⟨⟨rfl,rfl⟩,?_⟩)
   refine RQ.st (some 127) rfl rfl (vw (a:=((idx v11 (0:Int))&&& (idx v11 (1:Int)))) (b:=((idx v11 (0:Int))&&& (idx v11 (2:Int)))) rfl rfl rfl ⟨⟨rfl,rfl⟩,?_⟩)
   refine RQ.st (some 128) rfl rfl (au (v:= .d (.slice (v11.map ee))) rfl rfl ⟨⟨rfl,rfl⟩,?_⟩)
   obtain ⟨Zy,h⟩:=gG h
   refine RQ.st (some 129) rfl rfl (bN (l:=v11) (i:=(1:Int)) rfl TT.fI fA rfl rfl Zy ⟨⟨rfl,rfl⟩,?_⟩)
   refine RQ.st (some 130) rfl rfl (aC (d:= .val (.int .u64 ((idx v11 (1:Int)).toNat:Int))) rfl TT.gF rfl (di.one) ⟨⟨rfl,rfl⟩,?_⟩)
   refine RQ.st (some 131) rfl rfl (au (v:= .d (.slice (v11.map ee))) rfl rfl ⟨⟨rfl,rfl⟩,?_⟩)
   obtain ⟨yj,h⟩:=gG h
   refine RQ.st (some 132) rfl rfl (bN (l:=v11) (i:=(2:Int)) rfl TT.fI fA rfl rfl yj ⟨⟨rfl,rfl⟩,?_⟩)
   refine RQ.st (some 133) rfl rfl (aC (d:= .val (.int .u64 ((idx v11 (2:Int)).toNat:Int))) rfl TT.gF rfl (di.one) ⟨⟨rfl,rfl⟩,?_⟩)
   refine RQ.st (some 134) rfl rfl (m9 (a:=(idx v11 (1:Int))) (b:=(idx v11 (2:Int))) rfl rfl rfl ⟨⟨rfl,rfl⟩,?_⟩)
   refine RQ.st (some 135) rfl rfl (vw (a:=(((idx v11 (0:Int))&&& (idx v11 (1:Int)))||| ((idx v11 (0:Int))&&& (idx v11 (2:Int))))) (b:=((idx v11 (1:Int))&&& (idx v11 (2:Int)))) rfl rfl rfl ⟨⟨rfl,rfl⟩,?_⟩)
   refine RQ.st (some 16) rfl rfl (cq (v:= .d (.val (.int .u64 (((((idx v11 (0:Int))&&& (idx v11 (1:Int)))||| ((idx v11 (0:Int))&&& (idx v11 (2:Int))))||| ((idx v11 (1:Int))&&& (idx v11 (2:Int)))).toNat:Int)))) rfl rfl ⟨⟨rfl,rfl⟩,?_⟩)
   refine RQ.nil (aY ?_)
   refine QW.seq ?_
   refine QW.view (s':=⟨aF [(0, .d (.slice (h0.map ee))),(5, .own 0 (kW.map ee)),(11, .d (.slice (v11.map ee))),(12,pI j4),(13, .d (.val (.int .u64 ((idx v11 (4:Int)).toNat:Int)))),(14, .d (.val (.int .u64 ((idx v11 (0:Int)).toNat:Int)))),(15, .d (.val (.int .u64 ((((idx v11 (4:Int))&&& (idx v11 (5:Int)))||| (((4294967295:BitVec 64)-(idx v11 (4:Int)))&&& (idx v11 (6:Int)))).toNat:Int)))),(16, .d (.val (.int .u64 (((((idx v11 (0:Int))&&& (idx v11 (1:Int)))||| ((idx v11 (0:Int))&&& (idx v11 (2:Int))))||| ((idx v11 (1:Int))&&& (idx v11 (2:Int)))).toNat:Int))))],aj [.spare 1 kW.length],1,[]⟩) (View.mk 1 [0] _ _ _ rfl rfl (by decide) (iC (iC (iC (iC (iC (iC (iC (iC trivial)))))))) (And.intro rfl trivial) rfl zL rfl) zL ?_
   refine QW.region zL (PW.kC (id:=25) dh (M:=_) rfl (by kernel_rfl) ?_)
   refine RQ.st (some 136) rfl rfl (au (v:= .d (.slice (v11.map ee))) rfl rfl ⟨⟨rfl,rfl⟩,?_⟩)
   obtain ⟨Zz,h⟩:=gG h
   refine RQ.st (some 137) rfl rfl (bN (l:=v11) (i:=(7:Int)) rfl TT.fI fA rfl rfl Zz ⟨⟨rfl,rfl⟩,?_⟩)
   refine RQ.st (some 138) rfl rfl (aC (d:= .val (.int .u64 ((idx v11 (7:Int)).toNat:Int))) rfl TT.gF rfl (di.one) ⟨⟨rfl,rfl⟩,?_⟩)
   refine RQ.st (some 139) rfl rfl (au (v:= .d (.val (.int .u64 ((idx v11 (4:Int)).toNat:Int)))) rfl rfl ⟨⟨rfl,rfl⟩,?_⟩)
   obtain ⟨Dm,XS,h⟩:=bG h
   refine RQ.st (some 140) rfl rfl (aA rfl rfl TT.mV rfl (iw (idx v11 (4:Int)) (6) _ XS) ⟨⟨rfl,rfl⟩,?_⟩)
   refine RQ.st (some 141) rfl rfl (au (v:= .d (.val (.int .u64 ((idx v11 (4:Int)).toNat:Int)))) rfl rfl ⟨⟨rfl,rfl⟩,?_⟩)
   obtain ⟨Dp,XT,h⟩:=bG h
   refine RQ.st (some 142) rfl rfl (aA rfl rfl TT.mV rfl (iw (idx v11 (4:Int)) (11) _ XT) ⟨⟨rfl,rfl⟩,?_⟩)
   refine RQ.st (some 143) rfl rfl (j6 (a:=Dm) (b:=Dp) rfl rfl rfl ⟨⟨rfl,rfl⟩,?_⟩)
   refine RQ.st (some 144) rfl rfl (au (v:= .d (.val (.int .u64 ((idx v11 (4:Int)).toNat:Int)))) rfl rfl ⟨⟨rfl,rfl⟩,?_⟩)
   obtain ⟨E6,XU,h⟩:=bG h
   refine RQ.st (some 145) rfl rfl (aA rfl rfl TT.mV rfl (iw (idx v11 (4:Int)) (25) _ XU) ⟨⟨rfl,rfl⟩,?_⟩)
   refine RQ.st (some 146) rfl rfl (j6 (a:=(Dm^^^Dp)) (b:=E6) rfl rfl rfl ⟨⟨rfl,rfl⟩,?_⟩)
   refine RQ.st (some 147) rfl rfl (fT (a:=(idx v11 (7:Int))) (b:=((Dm^^^Dp)^^^E6)) rfl rfl rfl ⟨⟨rfl,rfl⟩,?_⟩)
   refine RQ.st (some 148) rfl rfl (au (v:= .d (.val (.int .u64 ((((idx v11 (4:Int))&&& (idx v11 (5:Int)))||| (((4294967295:BitVec 64)-(idx v11 (4:Int)))&&& (idx v11 (6:Int)))).toNat:Int)))) rfl rfl ⟨⟨rfl,rfl⟩,?_⟩)
   refine RQ.st (some 149) rfl rfl (fT (a:=((idx v11 (7:Int))+((Dm^^^Dp)^^^E6))) (b:=(((idx v11 (4:Int))&&& (idx v11 (5:Int)))||| (((4294967295:BitVec 64)-(idx v11 (4:Int)))&&& (idx v11 (6:Int))))) rfl rfl rfl ⟨⟨rfl,rfl⟩,?_⟩)
   refine RQ.st (some 150) rfl rfl (au (v:=pI j4) rfl rfl ⟨⟨rfl,rfl⟩,?_⟩)
   obtain ⟨Mp,XV,h⟩:=bG h
   refine RQ.st (some 151) rfl rfl (aA rfl rfl TT.OD rfl (KG j4 _ XV) ⟨⟨rfl,rfl⟩,?_⟩)
   refine RQ.st (some 152) rfl rfl (fT (a:=(((idx v11 (7:Int))+((Dm^^^Dp)^^^E6))+(((idx v11 (4:Int))&&& (idx v11 (5:Int)))||| (((4294967295:BitVec 64)-(idx v11 (4:Int)))&&& (idx v11 (6:Int)))))) (b:=Mp) rfl rfl rfl ⟨⟨rfl,rfl⟩,?_⟩)
   refine RQ.st (some 153) rfl rfl (au (v:= .own 0 (kW.map ee)) rfl rfl ⟨⟨rfl,rfl⟩,?_⟩)
   refine RQ.st (some 154) rfl rfl (au (v:=pI j4) rfl rfl ⟨⟨rfl,rfl⟩,?_⟩)
   obtain ⟨ZA,h⟩:=gG h
   refine RQ.st (some 155) rfl rfl (bN (l:=kW) (i:=j4) rfl TT.fI fA rfl rfl ZA ⟨⟨rfl,rfl⟩,?_⟩)
   refine RQ.st (some 156) rfl rfl (aC (d:= .val (.int .u64 ((idx kW j4).toNat:Int))) rfl TT.gF rfl (di.one) ⟨⟨rfl,rfl⟩,?_⟩)
   refine RQ.st (some 157) rfl rfl (fT (a:=((((idx v11 (7:Int))+((Dm^^^Dp)^^^E6))+(((idx v11 (4:Int))&&& (idx v11 (5:Int)))||| (((4294967295:BitVec 64)-(idx v11 (4:Int)))&&& (idx v11 (6:Int)))))+Mp)) (b:=(idx kW j4)) rfl rfl rfl ⟨⟨rfl,rfl⟩,?_⟩)
   obtain ⟨Ay,XW,h⟩:=bG h
   refine RQ.st (some 158) rfl rfl (aA rfl rfl TT.ta rfl (nh (((((idx v11 (7:Int))+((Dm^^^Dp)^^^E6))+(((idx v11 (4:Int))&&& (idx v11 (5:Int)))||| (((4294967295:BitVec 64)-(idx v11 (4:Int)))&&& (idx v11 (6:Int)))))+Mp)+(idx kW j4)) _ XW) ⟨⟨rfl,rfl⟩,?_⟩)
   refine RQ.st (some 17) rfl rfl (cq (v:= .d (.val (.int .u64 (Ay.toNat:Int)))) rfl rfl ⟨⟨rfl,rfl⟩,?_⟩)
   refine RQ.nil (aY ?_)
   refine QW.seq ?_
   refine QW.view (s':=⟨aF [(0, .d (.slice (h0.map ee))),(5, .own 0 (kW.map ee)),(11, .d (.slice (v11.map ee))),(12,pI j4),(14, .d (.val (.int .u64 ((idx v11 (0:Int)).toNat:Int)))),(16, .d (.val (.int .u64 (((((idx v11 (0:Int))&&& (idx v11 (1:Int)))||| ((idx v11 (0:Int))&&& (idx v11 (2:Int))))||| ((idx v11 (1:Int))&&& (idx v11 (2:Int)))).toNat:Int)))),(17, .d (.val (.int .u64 (Ay.toNat:Int))))],aj [.spare 1 kW.length],1,[]⟩) (View.mk 1 [0] _ _ _ rfl rfl (by decide) (iC (iC (iC (iC (iC (iC (iC trivial))))))) (And.intro rfl trivial) rfl zL rfl) zL ?_
   refine rG ?_
   refine xm 159 (.d (.val (.int .u64 ((idx v11 (0:Int)).toNat:Int)))) ?_
   obtain ⟨Ju,XX,h⟩:=bG h
   refine xs 160 rfl (aA rfl rfl TT.mV rfl (iw (idx v11 (0:Int)) (2) _ XX) ?_)
   refine xm 161 (.d (.val (.int .u64 ((idx v11 (0:Int)).toNat:Int)))) ?_
   obtain ⟨Jv,XY,h⟩:=bG h
   refine xs 162 rfl (aA rfl rfl TT.mV rfl (iw (idx v11 (0:Int)) (13) _ XY) ?_)
   refine xs 163 rfl (j6 (a:=Ju) (b:=Jv) rfl rfl rfl ?_)
   refine xm 164 (.d (.val (.int .u64 ((idx v11 (0:Int)).toNat:Int)))) ?_
   obtain ⟨Mq,XZ,h⟩:=bG h
   refine xs 165 rfl (aA rfl rfl TT.mV rfl (iw (idx v11 (0:Int)) (22) _ XZ) ?_)
   refine xs 166 rfl (j6 (a:=(Ju^^^Jv)) (b:=Mq) rfl rfl rfl ?_)
   refine xm 167 (.d (.val (.int .u64 (((((idx v11 (0:Int))&&& (idx v11 (1:Int)))||| ((idx v11 (0:Int))&&& (idx v11 (2:Int))))||| ((idx v11 (1:Int))&&& (idx v11 (2:Int)))).toNat:Int)))) ?_
   refine xs 168 rfl (fT (a:=((Ju^^^Jv)^^^Mq)) (b:=((((idx v11 (0:Int))&&& (idx v11 (1:Int)))||| ((idx v11 (0:Int))&&& (idx v11 (2:Int))))||| ((idx v11 (1:Int))&&& (idx v11 (2:Int))))) rfl rfl rfl ?_)
   obtain ⟨Jw,X0,h⟩:=bG h
   refine xs 169 rfl (aA rfl rfl TT.ta rfl (nh (((Ju^^^Jv)^^^Mq)+((((idx v11 (0:Int))&&& (idx v11 (1:Int)))||| ((idx v11 (0:Int))&&& (idx v11 (2:Int))))||| ((idx v11 (1:Int))&&& (idx v11 (2:Int))))) _ X0) ?_)
   refine xz 18 (.d (.val (.int .u64 (Jw.toNat:Int)))) ?_
   refine QW.region zL (PW.kC (id:=27) dh (M:=_) rfl (by kernel_rfl) ?_)
   refine RQ.st (some 170) rfl rfl (au (v:= .d (.val (.int .u64 (Ay.toNat:Int)))) rfl rfl ⟨⟨rfl,rfl⟩,?_⟩)
   refine RQ.st (some 171) rfl rfl (au (v:= .d (.val (.int .u64 (Jw.toNat:Int)))) rfl rfl ⟨⟨rfl,rfl⟩,?_⟩)
   refine RQ.st (some 172) rfl rfl (fT (a:=Ay) (b:=Jw) rfl rfl rfl ⟨⟨rfl,rfl⟩,?_⟩)
   obtain ⟨Hl,X1,h⟩:=bG h
   refine RQ.st (some 173) rfl rfl (aA rfl rfl TT.ta rfl (nh (Ay+Jw) _ X1) ⟨⟨rfl,rfl⟩,?_⟩)
   refine RQ.st (some 174) rfl rfl (au (v:= .d (.slice (v11.map ee))) rfl rfl ⟨⟨rfl,rfl⟩,?_⟩)
   obtain ⟨ZB,h⟩:=gG h
   refine RQ.st (some 175) rfl rfl (bN (l:=v11) (i:=(0:Int)) rfl TT.fI fA rfl rfl ZB ⟨⟨rfl,rfl⟩,?_⟩)
   refine RQ.st (some 176) rfl rfl (aC (d:= .val (.int .u64 ((idx v11 (0:Int)).toNat:Int))) rfl TT.gF rfl (di.one) ⟨⟨rfl,rfl⟩,?_⟩)
   refine RQ.st (some 177) rfl rfl (au (v:= .d (.slice (v11.map ee))) rfl rfl ⟨⟨rfl,rfl⟩,?_⟩)
   obtain ⟨ZC,h⟩:=gG h
   refine RQ.st (some 178) rfl rfl (bN (l:=v11) (i:=(1:Int)) rfl TT.fI fA rfl rfl ZC ⟨⟨rfl,rfl⟩,?_⟩)
   refine RQ.st (some 179) rfl rfl (aC (d:= .val (.int .u64 ((idx v11 (1:Int)).toNat:Int))) rfl TT.gF rfl (di.one) ⟨⟨rfl,rfl⟩,?_⟩)
   refine RQ.st (some 180) rfl rfl (au (v:= .d (.slice (v11.map ee))) rfl rfl ⟨⟨rfl,rfl⟩,?_⟩)
   obtain ⟨ZD,h⟩:=gG h
   refine RQ.st (some 181) rfl rfl (bN (l:=v11) (i:=(2:Int)) rfl TT.fI fA rfl rfl ZD ⟨⟨rfl,rfl⟩,?_⟩)
   refine RQ.st (some 182) rfl rfl (aC (d:= .val (.int .u64 ((idx v11 (2:Int)).toNat:Int))) rfl TT.gF rfl (di.one) ⟨⟨rfl,rfl⟩,?_⟩)
   refine RQ.st (some 183) rfl rfl (au (v:= .d (.slice (v11.map ee))) rfl rfl ⟨⟨rfl,rfl⟩,?_⟩)
   obtain ⟨ZE,h⟩:=gG h
   refine RQ.st (some 184) rfl rfl (bN (l:=v11) (i:=(3:Int)) rfl TT.fI fA rfl rfl ZE ⟨⟨rfl,rfl⟩,?_⟩)
   refine RQ.st (some 185) rfl rfl (aC (d:= .val (.int .u64 ((idx v11 (3:Int)).toNat:Int))) rfl TT.gF rfl (di.one) ⟨⟨rfl,rfl⟩,?_⟩)
   refine RQ.st (some 186) rfl rfl (au (v:= .d (.val (.int .u64 (Ay.toNat:Int)))) rfl rfl ⟨⟨rfl,rfl⟩,?_⟩)
   refine RQ.st (some 187) rfl rfl (fT (a:=(idx v11 (3:Int))) (b:=Ay) rfl rfl rfl ⟨⟨rfl,rfl⟩,?_⟩)
   obtain ⟨Ho,X2,h⟩:=bG h
   refine RQ.st (some 188) rfl rfl (aA rfl rfl TT.ta rfl (nh ((idx v11 (3:Int))+Ay) _ X2) ⟨⟨rfl,rfl⟩,?_⟩)
   refine RQ.st (some 189) rfl rfl (au (v:= .d (.slice (v11.map ee))) rfl rfl ⟨⟨rfl,rfl⟩,?_⟩)
   obtain ⟨ZF,h⟩:=gG h
   refine RQ.st (some 190) rfl rfl (bN (l:=v11) (i:=(4:Int)) rfl TT.fI fA rfl rfl ZF ⟨⟨rfl,rfl⟩,?_⟩)
   refine RQ.st (some 191) rfl rfl (aC (d:= .val (.int .u64 ((idx v11 (4:Int)).toNat:Int))) rfl TT.gF rfl (di.one) ⟨⟨rfl,rfl⟩,?_⟩)
   refine RQ.st (some 192) rfl rfl (au (v:= .d (.slice (v11.map ee))) rfl rfl ⟨⟨rfl,rfl⟩,?_⟩)
   obtain ⟨ZG,h⟩:=gG h
   refine RQ.st (some 193) rfl rfl (bN (l:=v11) (i:=(5:Int)) rfl TT.fI fA rfl rfl ZG ⟨⟨rfl,rfl⟩,?_⟩)
   refine RQ.st (some 194) rfl rfl (aC (d:= .val (.int .u64 ((idx v11 (5:Int)).toNat:Int))) rfl TT.gF rfl (di.one) ⟨⟨rfl,rfl⟩,?_⟩)
   refine RQ.st (some 195) rfl rfl (au (v:= .d (.slice (v11.map ee))) rfl rfl ⟨⟨rfl,rfl⟩,?_⟩)
   obtain ⟨ZH,h⟩:=gG h
   refine RQ.st (some 196) rfl rfl (bN (l:=v11) (i:=(6:Int)) rfl TT.fI fA rfl rfl ZH ⟨⟨rfl,rfl⟩,?_⟩)
   refine RQ.st (some 197) rfl rfl (aC (d:= .val (.int .u64 ((idx v11 (6:Int)).toNat:Int))) rfl TT.gF rfl (di.one) ⟨⟨rfl,rfl⟩,?_⟩)
   refine RQ.st (some 198) rfl rfl (dU (en:=ee) (l:=([Hl,(idx v11 (0:Int)),(idx v11 (1:Int)),(idx v11 (2:Int)),Ho,(idx v11 (4:Int)),(idx v11 (5:Int)),(idx v11 (6:Int))]:List (BitVec 64))) rfl TT.nc fA rfl rfl (by decide) (by simp [dg,cQ,aB,dK,PV.cz,cu,aF,jz,iL,jP,bV,Value.oneCell']) ⟨⟨rfl,rfl⟩,?_⟩)
   refine RQ.st (some 11) rfl rfl (cq (v:= .full (([Hl,(idx v11 (0:Int)),(idx v11 (1:Int)),(idx v11 (2:Int)),Ho,(idx v11 (4:Int)),(idx v11 (5:Int)),(idx v11 (6:Int))]:List (BitVec 64)).map ee)) rfl rfl ⟨⟨rfl,rfl⟩,?_⟩)
   refine RQ.nil (gC (aY ?_))
   refine QW.view (s':=⟨aF [(0, .d (.slice (h0.map ee))),(5, .own 0 (kW.map ee)),(11, .full (([Hl,(idx v11 (0:Int)),(idx v11 (1:Int)),(idx v11 (2:Int)),Ho,(idx v11 (4:Int)),(idx v11 (5:Int)),(idx v11 (6:Int))]:List (BitVec 64)).map ee)),(12,pI j4)],aj [.spare 1 kW.length],1,[]⟩) (View.mk 1 [0] _ _ _ rfl rfl (by decide) (iC (iC (iC (iC trivial)))) (And.intro rfl trivial) rfl zL rfl) zL ?_
   refine rG ?_
   refine xm 97 (pI j4) ?_
   obtain ⟨ZI,h⟩:=gG h
   refine xs 98 rfl (bY (a:=j4) (b:=(1:Int)) rfl rfl rfl ZI ?_)
   refine xz 12 (pI (j4+(1:Int))) ?_
   exact ⟨TA,by omega,⟨aF [(0, .d (.slice (h0.map ee))),(5, .own 0 (kW.map ee)),(11, .d (.slice (([Hl,(idx v11 (0:Int)),(idx v11 (1:Int)),(idx v11 (2:Int)),Ho,(idx v11 (4:Int)),(idx v11 (5:Int)),(idx v11 (6:Int))]:List (BitVec 64)).map ee))),(12,pI (j4+(1:Int)))],aj [.spare 1 kW.length],1,[]⟩,View.mk 1 [0] _ _ _ rfl rfl (by decide) (iC (iC (And.intro (iy.cW rfl) (iC trivial)))) (And.intro rfl trivial) rfl zL rfl,kW,([Hl,(idx v11 (0:Int)),(idx v11 (1:Int)),(idx v11 (2:Int)),Ho,(idx v11 (4:Int)),(idx v11 (5:Int)),(idx v11 (6:Int))]:List (BitVec 64)),(j4+(1:Int)),by omega,jG h,rfl⟩
  ·replace h:=eY h Cv
   refine QW.exit zL (eA (eA (jY (aY ?_))))
   refine sR ?_
   refine xz 19 (.full (([]:(List (BitVec 64))).map ee)) ?_
   refine QW.seq ?_
   refine sR ?_
   refine xz 20 (pI (0)) ?_
   refine QW.block ?_
   refine QW.loop (fun k σ=>∃ qJ:(List (BitVec 64)),∃ Ax:(List (BitVec 64)),∃ v20:Int,k≤TA∧run (bW h0 s1) k (.L5 qJ Ax v20)=some r∧σ=⟨aF [(0, .d (.slice (h0.map ee))),(11, .d (.slice (qJ.map ee))),(19, .own 0 (Ax.map ee)),(20,pI v20)],aj [.spare 1 Ax.length],1,[]⟩) TA zL ⟨⟨aF [(0, .d (.slice (h0.map ee))),(11, .d (.slice (v11.map ee))),(19, .own 0 (([]:(List (BitVec 64))).map ee)),(20,pI (0))],aj [.spare 1 ([]:(List (BitVec 64))).length],1,[]⟩,View.trans (View.buf 19 1 rfl zL) (View.mk 1 [1] _ _ _ rfl rfl (by decide) (iC (iC (iC (iC trivial)))) (And.intro rfl trivial) rfl zL rfl),v11,([]:(List (BitVec 64))),0,Nat.le_refl _,jG h,rfl⟩ ?_
   rintro abd _ ⟨qJ,Ax,v20,abe,h,rfl⟩
   obtain ⟨ZJ,rfl,h9⟩:=aQ h;replace h:=h9;clear h9;rw [bW] at h
   refine QW.seq ?_
   refine sR ?_
   refine xm 199 (pI v20) ?_
   refine xs 200 rfl (cK (a:=v20) (b:=(8:Int)) rfl rfl rfl ?_)
   refine XK.nz ?_
   refine QW.cond (t:=(decide (v20<(8:Int)))) rfl zL (fun OF=>?_) (fun OF=>?_)
   ·replace h:=eX h OF
    refine QW.skip zL (aY ?_)
    refine QW.seq ?_
    refine QW.block ?_
    refine QW.region zL (PW.tN (id:=32) dh (M:=_) rfl (by kernel_rfl) ?_)
    refine RK.st (some 203) rfl rfl (au (v:= .own 0 (Ax.map ee)) rfl rfl ?_)
    refine RK.st (some 204) rfl rfl (au (v:= .d (.slice (h0.map ee))) rfl rfl ?_)
    refine RK.st (some 205) rfl rfl (au (v:=pI v20) rfl rfl ?_)
    obtain ⟨ZK,h⟩:=gG h
    refine RK.st (some 206) rfl rfl (bN (l:=h0) (i:=v20) rfl TT.fI fA rfl rfl ZK ?_)
    refine RK.st (some 207) rfl rfl (aC (d:= .val (.int .u64 ((idx h0 v20).toNat:Int))) rfl TT.gF rfl (di.one) ?_)
    refine RK.st (some 208) rfl rfl (au (v:= .d (.slice (qJ.map ee))) rfl rfl ?_)
    refine RK.st (some 209) rfl rfl (au (v:=pI v20) rfl rfl ?_)
    obtain ⟨ZL,h⟩:=gG h
    refine RK.st (some 210) rfl rfl (bN (l:=qJ) (i:=v20) rfl TT.fI fA rfl rfl ZL ?_)
    refine RK.st (some 211) rfl rfl (aC (d:= .val (.int .u64 ((idx qJ v20).toNat:Int))) rfl TT.gF rfl (di.one) ?_)
    refine RK.st (some 212) rfl rfl (fT (a:=(idx h0 v20)) (b:=(idx qJ v20)) rfl rfl rfl ?_)
    obtain ⟨Dq,X3,h⟩:=bG h
    refine RK.st (some 213) rfl rfl (aA rfl rfl TT.ta rfl (nh ((idx h0 v20)+(idx qJ v20)) _ X3) ?_)
    refine RK.st (some 214) rfl rfl (dU (en:=ee) (l:=([Dq]:List (BitVec 64))) rfl TT.nc fA rfl rfl (by decide) (by simp [dg,cQ,aB,dK,PV.cz,cu,aF,jz,iL,jP,bV,Value.oneCell']) ?_)
    obtain ⟨ZM,h⟩:=gG h
    refine RK.st (some 215) rfl rfl (iJ (en:=ee) (l:=Ax) (l2:=([Dq]:List (BitVec 64))) rfl TT.nc TT.y9 rfl fA rfl rfl rfl ZM (by decide) ?_)
    refine RK.st (some 19) rfl rfl (cq (v:= .own 1 ((Ax++([Dq]:List (BitVec 64))).map ee)) rfl rfl ?_)
    refine RK.nil ⟨gl.last 12 (by simp) (by simp) (by rfl),(gC (aY ?_))⟩
    refine rG ?_
    refine xm 201 (pI v20) ?_
    obtain ⟨ZN,h⟩:=gG h
    refine xs 202 rfl (bY (a:=v20) (b:=(1:Int)) rfl rfl rfl ZN ?_)
    refine xz 20 (pI (v20+(1:Int))) ?_
    exact ⟨ZJ,by omega,⟨aF [(0, .d (.slice (h0.map ee))),(11, .d (.slice (qJ.map ee))),(19, .own 0 ((Ax++([Dq]:List (BitVec 64))).map ee)),(20,pI (v20+(1:Int)))],aj [.spare 1 (Ax++([Dq]:List (BitVec 64))).length],1,[]⟩,View.mk 1 [1] _ _ _ rfl rfl (by decide) (iC (iC (iC (iC trivial)))) (And.intro rfl trivial) rfl zL rfl,qJ,(Ax++([Dq]:List (BitVec 64))),(v20+(1:Int)),by omega,jG h,rfl⟩
   ·replace h:=eY h OF
    refine QW.exit zL (eA (eA (jY (aY ?_))))
    refine sR ?_
    refine xm 216 (.own 0 (Ax.map ee)) ?_
    refine xz 4 (.own 0 (Ax.map ee)) ?_
    refine QW.ret zL ?_
    obtain rfl:=sG h
    exact Ends.one (.inr rfl) rfl (aG.tmp rfl) rfl rfl
inductive E7 where
 | S
 | L1 (v3:(List (BitVec 64))) (dc:(List UInt8)) (v5:Int)
 | L2 (uI:(List (BitVec 64))) (v6:(List UInt8)) (v7:Int)
 | L3 (g6:(List (BitVec 64))) (wj:(List UInt8)) (j5:Int) (pQ:(BitVec 64)) (uJ:Int)
noncomputable def dO (s0:(List UInt8)):E7→Option (E7⊕(List UInt8))
 | .S=>
  ((xN s0).bind fun (x_1:(List UInt8))=>
  some (.inl (.L1 ([(1779033703:BitVec 64),(3144134277:BitVec 64),(1013904242:BitVec 64),(2773480762:BitVec 64),(1359893119:BitVec 64),(2600822924:BitVec 64),(528734635:BitVec 64),(1541459225:BitVec 64)]:List (BitVec 64)) x_1 (0))))
 | .L1 v3 dc v5=>
  (bif (decide (v5<(dc.length:Int))) then
  gO (bA (v5+(64:Int))) (
  gO (0≤v5∧v5≤(v5+(64:Int))∧(v5+(64:Int))≤(dc.length:Int)) (
  ((wh v3 (sub dc v5 (v5+(64:Int)))).bind fun (x_7:(List (BitVec 64)))=>
  gO (bA (v5+(64:Int))) (
  some (.inl (.L1 x_7 dc (v5+(64:Int))))))))
  else
  some (.inl (.L2 v3 ([]:List UInt8) (0))))
 | .L2 uI v6 v7=>
  (bif (decide (v7<(32:Int))) then
  gO ((4:Int)≠0∧bA (v7.tdiv (4:Int))) (
  gO (0≤(v7.tdiv (4:Int))∧(v7.tdiv (4:Int))<(uI.length:Int)) (
  some (.inl (.L3 uI v6 v7 (idx uI (v7.tdiv (4:Int))) (v7.tmod (4:Int))))))
  else
  some (.inr v6))
 | .L3 g6 wj j5 pQ uJ=>
  (bif (decide (uJ<(3:Int))) then
  gO (bA (uJ+(1:Int))) (
  some (.inl (.L3 g6 wj j5 (pQ/(256:BitVec 64)) (uJ+(1:Int)))))
  else
  gO (wj.length+([(gb ((pQ%(256:BitVec 64)).toNat:Int))]:List UInt8).length≤9223372036854775807) (
  gO (bA (j5+(1:Int))) (
  some (.inl (.L2 g6 (wj++([(gb ((pQ%(256:BitVec 64)).toNat:Int))]:List UInt8)) (j5+(1:Int)))))))
noncomputable def Az (s0:(List UInt8)):Option (List UInt8):=gU (dO s0) .S
theorem IJ (s0:(List UInt8)) (r:(List UInt8)) (h:Az s0=some r):bE Tryz.prog 36 [.val (sV s0)] (.val (sV r)):=by
 refine bE.aU Tryz.func36 rfl (by simp [Tryz.ntmps36]) ?_
 rw [Tryz.ntmps36,TT.VZ]
 refine QW.view (s':=⟨aF [(0,pS s0)],aj [],0,[]⟩) (View.init (by rfl)) zL ?_
 replace h:=cG h
 obtain ⟨_,h⟩:=h
 obtain ⟨c8,rfl,h9⟩:=aQ h;replace h:=h9;clear h9;rw [dO] at h
 refine sR ?_
 refine xz 2 (pS ([]:List UInt8)) ?_
 refine sR ?_
 refine xs 10 rfl (dU (en:=ee) (l:=([(1779033703:BitVec 64),(3144134277:BitVec 64),(1013904242:BitVec 64),(2773480762:BitVec 64),(1359893119:BitVec 64),(2600822924:BitVec 64),(528734635:BitVec 64),(1541459225:BitVec 64)]:List (BitVec 64))) rfl TT.nc fA rfl rfl (by decide) (by simp [dg,cQ,aB,dK,PV.cz,cu,aF,jz,iL,jP,bV,Value.oneCell']) ?_)
 refine xz 3 (.full (([(1779033703:BitVec 64),(3144134277:BitVec 64),(1013904242:BitVec 64),(2773480762:BitVec 64),(1359893119:BitVec 64),(2600822924:BitVec 64),(528734635:BitVec 64),(1541459225:BitVec 64)]:List (BitVec 64)).map ee)) ?_
 refine sR ?_
 refine xm 11 (pS s0) ?_
 obtain ⟨x_1,fy,h⟩:=bG h
 refine xs 12 rfl (aA rfl rfl TT.OB rfl (Fy s0 _ fy) ?_)
 refine xz 4 (pS x_1) ?_
 refine QW.seq ?_
 refine sR ?_
 refine xz 5 (pI (0)) ?_
 refine QW.block ?_
 refine QW.loop (fun k σ=>∃ v3:(List (BitVec 64)),∃ dc:(List UInt8),∃ v5:Int,k≤c8∧run (dO s0) k (.L1 v3 dc v5)=some r∧σ=⟨aF [(3, .d (.slice (v3.map ee))),(4,pS dc),(5,pI v5)],aj [],0,[]⟩) c8 zL ⟨⟨aF [(3, .d (.slice (([(1779033703:BitVec 64),(3144134277:BitVec 64),(1013904242:BitVec 64),(2773480762:BitVec 64),(1359893119:BitVec 64),(2600822924:BitVec 64),(528734635:BitVec 64),(1541459225:BitVec 64)]:List (BitVec 64)).map ee))),(4,pS x_1),(5,pI (0))],aj [],0,[]⟩,View.mk 0 [] _ _ _ rfl rfl (by decide) (And.intro (iy.cW rfl) (iC (iC trivial))) trivial rfl zL rfl,([(1779033703:BitVec 64),(3144134277:BitVec 64),(1013904242:BitVec 64),(2773480762:BitVec 64),(1359893119:BitVec 64),(2600822924:BitVec 64),(528734635:BitVec 64),(1541459225:BitVec 64)]:List (BitVec 64)),x_1,0,Nat.le_refl _,jG h,rfl⟩ ?_
 rintro Zm _ ⟨v3,dc,v5,Zn,h,rfl⟩
 obtain ⟨On,rfl,h9⟩:=aQ h;replace h:=h9;clear h9;rw [dO] at h
 refine QW.seq ?_
 refine sR ?_
 refine xm 13 (pI v5) ?_
 refine xm 14 (pS dc) ?_
 refine xs 15 rfl (gB (l:=dc) rfl TT.bZ rfl ?_)
 refine xs 16 rfl (cK (a:=v5) (b:=(dc.length:Int)) rfl rfl rfl ?_)
 refine XK.nz ?_
 refine QW.cond (t:=(decide (v5<(dc.length:Int)))) rfl zL (fun gD=>?_) (fun gD=>?_)
 ·replace h:=eX h gD
  refine QW.skip zL (aY ?_)
  refine QW.seq ?_
  refine QW.block ?_
  refine rG ?_
  refine xm 19 (.d (.slice (v3.map ee))) ?_
  refine xm 20 (pS dc) ?_
  refine xm 21 (pI v5) ?_
  refine xm 22 (pI v5) ?_
  obtain ⟨mR,h⟩:=gG h
  refine xs 23 rfl (bY (a:=v5) (b:=(64:Int)) rfl rfl rfl mR ?_)
  obtain ⟨lZ,h⟩:=gG h
  refine xs 24 rfl (vt (l:=dc) (a:=v5) (b:=(v5+(64:Int))) rfl TT.bZ rfl rfl rfl lZ ?_)
  obtain ⟨x_7,oo,h⟩:=bG h
  refine xs 25 rfl (aA rfl rfl TT.OC rfl (Ei v3 (sub dc v5 (v5+(64:Int))) _ oo) ?_)
  refine xa 3 (.d (.slice (x_7.map ee))) ?_
  refine XK.nil (gC (aY ?_))
  refine rG ?_
  refine xm 17 (pI v5) ?_
  obtain ⟨rN,h⟩:=gG h
  refine xs 18 rfl (bY (a:=v5) (b:=(64:Int)) rfl rfl rfl rN ?_)
  refine xz 5 (pI (v5+(64:Int))) ?_
  exact ⟨On,by omega,⟨aF [(3, .d (.slice (x_7.map ee))),(4,pS dc),(5,pI (v5+(64:Int)))],aj [],0,[]⟩,View.mk 0 [] _ _ _ rfl rfl (by decide) (iC (iC (iC trivial))) trivial rfl zL rfl,x_7,dc,(v5+(64:Int)),by omega,jG h,rfl⟩
 ·replace h:=eY h gD
  refine QW.exit zL (eA (eA (jY (aY ?_))))
  refine sR ?_
  refine xz 6 (pS ([]:List UInt8)) ?_
  refine QW.seq ?_
  refine sR ?_
  refine xz 7 (pI (0)) ?_
  refine QW.block ?_
  refine QW.loop (fun k σ=>∃ uI:(List (BitVec 64)),∃ v6:(List UInt8),∃ v7:Int,k≤On∧run (dO s0) k (.L2 uI v6 v7)=some r∧σ=⟨aF [(3, .d (.slice (uI.map ee))),(6,pS v6),(7,pI v7)],aj [],0,[]⟩) On zL ⟨⟨aF [(3, .d (.slice (v3.map ee))),(6,pS ([]:List UInt8)),(7,pI (0))],aj [],0,[]⟩,View.mk 0 [] _ _ _ rfl rfl (by decide) (iC (iC (iC trivial))) trivial rfl zL rfl,v3,([]:List UInt8),0,Nat.le_refl _,jG h,rfl⟩ ?_
  rintro XI _ ⟨uI,v6,v7,XJ,h,rfl⟩
  obtain ⟨Mf,rfl,h9⟩:=aQ h;replace h:=h9;clear h9;rw [dO] at h
  refine QW.seq ?_
  refine sR ?_
  refine xm 26 (pI v7) ?_
  refine xs 27 rfl (cK (a:=v7) (b:=(32:Int)) rfl rfl rfl ?_)
  refine XK.nz ?_
  refine QW.cond (t:=(decide (v7<(32:Int)))) rfl zL (fun vL=>?_) (fun vL=>?_)
  ·replace h:=eX h vL
   refine QW.skip zL (aY ?_)
   refine QW.seq ?_
   refine QW.block ?_
   refine sR ?_
   refine xm 30 (.d (.slice (uI.map ee))) ?_
   refine xm 31 (pI v7) ?_
   obtain ⟨mX,h⟩:=gG h
   refine xs 32 rfl (FJ (a:=v7) (b:=(4:Int)) rfl rfl rfl mX ?_)
   obtain ⟨nE,h⟩:=gG h
   refine xs 33 rfl (bN (l:=uI) (i:=(v7.tdiv (4:Int))) rfl TT.fI fA rfl rfl nE ?_)
   refine xs 34 rfl (aC (d:= .val (.int .u64 ((idx uI (v7.tdiv (4:Int))).toNat:Int))) rfl TT.gF rfl (di.one) ?_)
   refine xz 8 (.d (.val (.int .u64 ((idx uI (v7.tdiv (4:Int))).toNat:Int)))) ?_
   refine QW.seq ?_
   refine sR ?_
   refine xm 35 (pI v7) ?_
   refine xs 36 rfl (wS (a:=v7) (b:=(4:Int)) rfl rfl rfl (by decide) ?_)
   refine xz 9 (pI (v7.tmod (4:Int))) ?_
   refine QW.block ?_
   refine QW.loop (fun k σ=>∃ g6:(List (BitVec 64)),∃ wj:(List UInt8),∃ j5:Int,∃ pQ:(BitVec 64),∃ uJ:Int,k≤Mf∧run (dO s0) k (.L3 g6 wj j5 pQ uJ)=some r∧σ=⟨aF [(3, .d (.slice (g6.map ee))),(6,pS wj),(7,pI j5),(8, .d (.val (.int .u64 (pQ.toNat:Int)))),(9,pI uJ)],aj [],0,[]⟩) Mf zL ⟨⟨aF [(3, .d (.slice (uI.map ee))),(6,pS v6),(7,pI v7),(8, .d (.val (.int .u64 ((idx uI (v7.tdiv (4:Int))).toNat:Int)))),(9,pI (v7.tmod (4:Int)))],aj [],0,[]⟩,View.mk 0 [] _ _ _ rfl rfl (by decide) (iC (iC (iC (iC (iC trivial))))) trivial rfl zL rfl,uI,v6,v7,(idx uI (v7.tdiv (4:Int))),(v7.tmod (4:Int)),Nat.le_refl _,jG h,rfl⟩ ?_
   rintro XL _ ⟨g6,wj,j5,pQ,uJ,XM,h,rfl⟩
   obtain ⟨Pw,rfl,h9⟩:=aQ h;replace h:=h9;clear h9;rw [dO] at h
   refine QW.seq ?_
   refine sR ?_
   refine xm 37 (pI uJ) ?_
   refine xs 38 rfl (cK (a:=uJ) (b:=(3:Int)) rfl rfl rfl ?_)
   refine XK.nz ?_
   refine QW.cond (t:=(decide (uJ<(3:Int)))) rfl zL (fun qG=>?_) (fun qG=>?_)
   ·replace h:=eX h qG
    refine QW.skip zL (aY ?_)
    refine QW.seq ?_
    refine QW.block ?_
    refine rG ?_
    refine xm 41 (.d (.val (.int .u64 (pQ.toNat:Int)))) ?_
    refine xs 42 rfl (AZ (a:=pQ) (b:=(256:BitVec 64)) rfl rfl rfl (by decide) ?_)
    refine xa 8 (.d (.val (.int .u64 ((pQ/(256:BitVec 64)).toNat:Int)))) ?_
    refine XK.nil (gC (aY ?_))
    refine rG ?_
    refine xm 39 (pI uJ) ?_
    obtain ⟨oP,h⟩:=gG h
    refine xs 40 rfl (bY (a:=uJ) (b:=(1:Int)) rfl rfl rfl oP ?_)
    refine xz 9 (pI (uJ+(1:Int))) ?_
    exact ⟨Pw,by omega,⟨aF [(3, .d (.slice (g6.map ee))),(6,pS wj),(7,pI j5),(8, .d (.val (.int .u64 ((pQ/(256:BitVec 64)).toNat:Int)))),(9,pI (uJ+(1:Int)))],aj [],0,[]⟩,View.mk 0 [] _ _ _ rfl rfl (by decide) (iC (iC (iC (iC (iC trivial))))) trivial rfl zL rfl,g6,wj,j5,(pQ/(256:BitVec 64)),(uJ+(1:Int)),by omega,jG h,rfl⟩
   ·replace h:=eY h qG
    refine QW.exit zL (eA (eA (jY (aY ?_))))
    refine rG ?_
    refine xm 43 (pS wj) ?_
    refine xm 44 (.d (.val (.int .u64 (pQ.toNat:Int)))) ?_
    refine xs 45 rfl (A0 (a:=pQ) (b:=(256:BitVec 64)) rfl rfl rfl (by decide) ?_)
    refine xs 46 rfl (nR (n:=((pQ%(256:BitVec 64)).toNat:Int)) rfl TT.s4 TT.dV rfl ?_)
    refine xs 47 rfl (dU (en:=U) (l:=([(gb ((pQ%(256:BitVec 64)).toNat:Int))]:List UInt8)) rfl TT.e9 bH rfl rfl (by decide) (by simp [dg,cQ,aB,dK,PV.cz,cu,aF,jz,iL,jP,bV,Value.oneCell']) ?_)
    refine xs 48 rfl (nK (l:=([(gb ((pQ%(256:BitVec 64)).toNat:Int))]:List UInt8)) rfl TT.bC TT.dV TT.bZ rfl ?_)
    obtain ⟨pO,h⟩:=gG h
    refine xs 49 rfl (ld (a:=wj) (b:=([(gb ((pQ%(256:BitVec 64)).toNat:Int))]:List UInt8)) rfl rfl rfl pO ?_)
    refine xa 6 (pS (wj++([(gb ((pQ%(256:BitVec 64)).toNat:Int))]:List UInt8))) ?_
    refine XK.nil (gC (aY ?_))
    refine rG ?_
    refine xm 28 (pI j5) ?_
    obtain ⟨sH,h⟩:=gG h
    refine xs 29 rfl (bY (a:=j5) (b:=(1:Int)) rfl rfl rfl sH ?_)
    refine xz 7 (pI (j5+(1:Int))) ?_
    exact ⟨Pw,by omega,⟨aF [(3, .d (.slice (g6.map ee))),(6,pS (wj++([(gb ((pQ%(256:BitVec 64)).toNat:Int))]:List UInt8))),(7,pI (j5+(1:Int)))],aj [],0,[]⟩,View.mk 0 [] _ _ _ rfl rfl (by decide) (iC (iC (iC trivial))) trivial rfl zL rfl,g6,(wj++([(gb ((pQ%(256:BitVec 64)).toNat:Int))]:List UInt8)),(j5+(1:Int)),by omega,jG h,rfl⟩
  ·replace h:=eY h vL
   refine QW.exit zL (eA (eA (jY (aY ?_))))
   refine sR ?_
   refine xm 50 (pS v6) ?_
   refine xz 2 (pS v6) ?_
   refine QW.ret zL ?_
   obtain rfl:=sG h
   exact Ends.one (.inr rfl) rfl (aG.tmp rfl) rfl rfl
noncomputable def rz (lR:(List UInt8)):Option (List UInt8):=
  (bif (decide ((32:Int)≤(lR.length:Int))) then
  ((Az lR).bind fun (x_2:(List UInt8))=>
  some x_2)
  else
  some lR)
theorem BO (lR:(List UInt8)) (r:(List UInt8)) (h:rz lR=some r):bE Tryz.prog 20 [.val (sV lR)] (.val (sV r)):=by
 refine bE.aU Tryz.func20 rfl (by simp [Tryz.ntmps20]) ?_
 rw [Tryz.ntmps20,TT.VY]
 refine QW.view (s':=⟨aF [(0,pS lR)],aj [],0,[]⟩) (View.init (by rfl)) zL ?_
 unfold rz at h
 refine sR ?_
 refine xz 2 (pS ([]:List UInt8)) ?_
 refine QW.seq ?_
 refine sR ?_
 refine xm 3 (pS lR) ?_
 refine xs 4 rfl (gB (l:=lR) rfl TT.bZ rfl ?_)
 refine xs 5 rfl (wU (a:=(lR.length:Int)) (b:=(32:Int)) rfl rfl rfl ?_)
 refine XK.nz ?_
 refine QW.cond (t:=(decide ((32:Int)≤(lR.length:Int)))) rfl zL (fun dm=>?_) (fun dm=>?_)
 ·replace h:=bT h dm
  refine sR ?_
  refine xm 6 (pS lR) ?_
  obtain ⟨x_2,nD,h⟩:=bO h
  refine xs 7 rfl (aA rfl rfl TT.OA rfl (IJ lR _ nD) ?_)
  refine xz 2 (pS x_2) ?_
  refine QW.ret zL (eC ?_)
  obtain rfl:=sO h
  exact Ends.one (.inr rfl) rfl (aG.tmp rfl) rfl rfl
 ·replace h:=bF h dm
  refine QW.skip zL (aY ?_)
  refine sR ?_
  refine xm 8 (pS lR) ?_
  refine xz 2 (pS lR) ?_
  refine QW.ret zL ?_
  obtain rfl:=sO h
  exact Ends.one (.inr rfl) rfl (aG.tmp rfl) rfl rfl
end Go.Proofs.YtlfjfoknbjcncaaGreat.K
namespace Go.Proofs.YtlfjfoknbjcncaaGreat.K
open Go Go.RowKit
set_option linter.unusedSimpArgs false
set_option linter.unusedVariables false
set_option maxRecDepth 20000
set_option maxHeartbeats 4000000
namespace TT
theorem OG:aN Tryz.prog 33=true:=by kernel_rfl
theorem zb:aN Tryz.prog 59=true:=by kernel_rfl
theorem Hp:aN Tryz.prog 60=true:=by kernel_rfl
theorem Hq:aN Tryz.prog 61=true:=by kernel_rfl
theorem Cw:aN Tryz.prog 62=true:=by kernel_rfl
theorem Ht:aN Tryz.prog 70=true:=by kernel_rfl
theorem Hu:aN Tryz.prog 86=true:=by kernel_rfl
theorem V8:Tryz.f33.results.toList=[.tmp 2]:=rfl
theorem V9:Tryz.f59.results.toList=[.tmp 2]:=rfl
theorem Wa:Tryz.f61.results.toList=[.tmp 2]:=rfl
theorem Wb:Tryz.f62.results.toList=[.tmp 4]:=rfl
theorem Wc:Tryz.f70.results.toList=[.tmp 2]:=rfl
theorem We:Tryz.f86.results.toList=[.tmp 2]:=rfl
end TT
noncomputable def qc (self:Int→Option (List UInt8)) (n0:Int):Option (List UInt8):=
  (bif (decide (n0=(0:Int))) then
  some ([]:List UInt8)
  else
  gO ((256:Int)≠0∧bA (n0.tdiv (256:Int))) (
  ((self (n0.tdiv (256:Int))).bind fun (x_3:(List UInt8))=>
  gO (x_3.length+([(gb (n0.tmod (256:Int)))]:List UInt8).length≤9223372036854775807) (
  some (x_3++([(gb (n0.tmod (256:Int)))]:List UInt8))))))
theorem Fz (self:Int→Option (List UInt8)) (fP:∀ (y0:Int) (rr:(List UInt8)),self y0=some rr→bE Tryz.prog 86 [.val (.int .i64 y0)] (.val (sV rr))) (n0:Int) (r:(List UInt8)) (h:qc self n0=some r):bE Tryz.prog 86 [.val (.int .i64 n0)] (.val (sV r)):=by
 refine bE.aU Tryz.func86 rfl (by simp [Tryz.ntmps86]) ?_
 rw [Tryz.ntmps86,TT.We]
 refine QW.view (s':=⟨aF [(0,pI n0)],aj [],0,[]⟩) (View.init (by rfl)) zL ?_
 unfold qc at h
 refine sR ?_
 refine xz 2 (pS ([]:List UInt8)) ?_
 refine QW.seq ?_
 refine sR ?_
 refine xm 3 (pI n0) ?_
 refine xs 4 rfl (ej (a:=n0) (b:=(0:Int)) rfl rfl rfl ?_)
 refine XK.nz ?_
 refine QW.cond (t:=(decide (n0=(0:Int)))) rfl zL (fun dm=>?_) (fun dm=>?_)
 ·replace h:=bT h dm
  refine sR ?_
  refine xz 2 (pS ([]:List UInt8)) ?_
  refine QW.ret zL (eC ?_)
  obtain rfl:=sO h
  exact Ends.one (.inr rfl) rfl (aG.tmp rfl) rfl rfl
 ·replace h:=bF h dm
  refine QW.skip zL (aY ?_)
  refine QW.seq ?_
  refine QW.region zL (PW.kC (id:=3) dh (M:=_) rfl (by kernel_rfl) ?_)
  refine RQ.st (some 5) rfl rfl (au (v:=pI n0) rfl rfl ⟨⟨rfl,rfl⟩,?_⟩)
  obtain ⟨xE,h⟩:=bk h
  refine RQ.st (some 6) rfl rfl (FJ (a:=n0) (b:=(256:Int)) rfl rfl rfl xE ⟨⟨rfl,rfl⟩,?_⟩)
  obtain ⟨x_3,vM,h⟩:=bO h
  refine RQ.st (some 7) rfl rfl (aA rfl rfl TT.Hu rfl (fP (n0.tdiv (256:Int)) _ vM) ⟨⟨rfl,rfl⟩,?_⟩)
  refine RQ.st (some 8) rfl rfl (au (v:=pI n0) rfl rfl ⟨⟨rfl,rfl⟩,?_⟩)
  refine RQ.st (some 9) rfl rfl (wS (a:=n0) (b:=(256:Int)) rfl rfl rfl (by decide) ⟨⟨rfl,rfl⟩,?_⟩)
  refine RQ.st (some 10) rfl rfl (nR (n:=(n0.tmod (256:Int))) rfl TT.kY TT.dV rfl ⟨⟨rfl,rfl⟩,?_⟩)
  refine RQ.st (some 11) rfl rfl (dU (en:=U) (l:=([(gb (n0.tmod (256:Int)))]:List UInt8)) rfl TT.e9 bH rfl rfl (by decide) (by simp [dg,cQ,aB,dK,PV.cz,cu,aF,jz,iL,jP,bV,Value.oneCell']) ⟨⟨rfl,rfl⟩,?_⟩)
  refine RQ.st (some 12) rfl rfl (nK (l:=([(gb (n0.tmod (256:Int)))]:List UInt8)) rfl TT.bC TT.dV TT.bZ rfl ⟨⟨rfl,rfl⟩,?_⟩)
  obtain ⟨mR,h⟩:=bk h
  refine RQ.st (some 13) rfl rfl (ld (a:=x_3) (b:=([(gb (n0.tmod (256:Int)))]:List UInt8)) rfl rfl rfl mR ⟨⟨rfl,rfl⟩,?_⟩)
  refine RQ.st (some 2) rfl rfl (cq (v:=pS (x_3++([(gb (n0.tmod (256:Int)))]:List UInt8))) rfl rfl ⟨⟨rfl,rfl⟩,?_⟩)
  refine RQ.nil (aY ?_)
  refine QW.ret zL ?_
  obtain rfl:=sO h
  exact Ends.one (.inr rfl) rfl (aG.tmp rfl) rfl rfl
noncomputable def ni:Nat→Int→Option (List UInt8)
 | 0=>fun _=>none
 | n+1=>fun y0=>qc (ni n) y0
theorem zI:∀ (n:Nat) (y0:Int) (rr:(List UInt8)),ni n y0=some rr→bE Tryz.prog 86 [.val (.int .i64 y0)] (.val (sV rr))
 | 0,_,_,h=>by cases h
 | n+1,y0,rr,h=>Fz (ni n) (zI n) y0 rr h
noncomputable def zc (y0:Int):Option (List UInt8):=wX (fun n=>ni n y0)
theorem Hv (y0:Int) (rr:(List UInt8)) (h:zc y0=some rr):bE Tryz.prog 86 [.val (.int .i64 y0)] (.val (sV rr)):=by
 obtain ⟨n,hn⟩:=nY h
 exact zI n y0 rr hn
noncomputable def mW (n0:Int) (Cx:Bool):Option (List UInt8):=
  (((bif Cx then
  some (192)
  else
  some (128)):Option Int).bind fun (v5:Int)=>
  (bif (decide (n0<(56:Int))) then
  gO (bA (v5+n0)) (
  some ([(gb (v5+n0))]:List UInt8))
  else
  ((zc n0).bind fun (x_4:(List UInt8))=>
  gO (bA (v5+(55:Int))) (
  gO (bA ((v5+(55:Int))+(x_4.length:Int))) (
  gO (([(gb ((v5+(55:Int))+(x_4.length:Int)))]:List UInt8).length+x_4.length≤9223372036854775807) (
  some (([(gb ((v5+(55:Int))+(x_4.length:Int)))]:List UInt8)++x_4)))))))
theorem uq (n0:Int) (Cx:Bool) (r:(List UInt8)) (h:mW n0 Cx=some r):bE Tryz.prog 62 [.val (.int .i64 n0), .val (.bool Cx)] (.val (sV r)):=by
 refine bE.aU Tryz.func62 rfl (by simp [Tryz.ntmps62]) ?_
 rw [Tryz.ntmps62,TT.Wb]
 refine QW.view (s':=⟨aF [(0,pI n0),(1,pB Cx)],aj [],0,[]⟩) (View.init (by rfl)) zL ?_
 unfold mW at h
 refine sR ?_
 refine xz 4 (pS ([]:List UInt8)) ?_
 refine sR ?_
 refine xz 5 (pI (128)) ?_
 obtain ⟨v5,hq,h⟩:=bO h
 refine QW.rH (fun s'=>s'=⟨aF [(0,pI n0),(5,pI v5)],aj [],0,[]⟩) ?_ ?_
 ·replace h:=hq;clear hq
  refine sR ?_
  refine xm 7 (pB Cx) ?_
  refine XK.nz ?_
  refine QW.cond (t:=Cx) rfl zL (fun dm=>?_) (fun dm=>?_)
  ·replace h:=bT h dm
   refine rG ?_
   refine xz 5 (pI (192)) ?_
   obtain rfl:=sO h
   exact ⟨⟨aF [(0,pI n0),(5,pI (192))],aj [],0,[]⟩,View.mk 0 [] _ _ _ rfl rfl (by decide) (iC (iC trivial)) trivial rfl zL rfl,rfl⟩
  ·replace h:=bF h dm
   refine QW.skip zL (aY ?_)
   obtain rfl:=sO h
   exact ⟨⟨aF [(0,pI n0),(5,pI (128))],aj [],0,[]⟩,View.mk 0 [] _ _ _ rfl rfl (by decide) (iC (iC trivial)) trivial rfl zL rfl,rfl⟩
 ·rintro _ rfl
  refine QW.seq ?_
  refine sR ?_
  refine xm 8 (pI n0) ?_
  refine xs 9 rfl (cK (a:=n0) (b:=(56:Int)) rfl rfl rfl ?_)
  refine XK.nz ?_
  refine QW.cond (t:=(decide (n0<(56:Int)))) rfl zL (fun cv=>?_) (fun cv=>?_)
  ·replace h:=bT h cv
   refine sR ?_
   refine xm 10 (pI v5) ?_
   refine xm 11 (pI n0) ?_
   obtain ⟨dP,h⟩:=bk h
   refine xs 12 rfl (bY (a:=v5) (b:=n0) rfl rfl rfl dP ?_)
   refine xs 13 rfl (nR (n:=(v5+n0)) rfl TT.kY TT.dV rfl ?_)
   refine xs 14 rfl (dU (en:=U) (l:=([(gb (v5+n0))]:List UInt8)) rfl TT.e9 bH rfl rfl (by decide) (by simp [dg,cQ,aB,dK,PV.cz,cu,aF,jz,iL,jP,bV,Value.oneCell']) ?_)
   refine xs 15 rfl (nK (l:=([(gb (v5+n0))]:List UInt8)) rfl TT.bC TT.dV TT.bZ rfl ?_)
   refine xz 4 (pS ([(gb (v5+n0))]:List UInt8)) ?_
   refine QW.ret zL (eC ?_)
   obtain rfl:=sO h
   exact Ends.one (.inr rfl) rfl (aG.tmp rfl) rfl rfl
  ·replace h:=bF h cv
   refine QW.skip zL (aY ?_)
   refine sR ?_
   refine xm 16 (pI n0) ?_
   obtain ⟨x_4,kZ,h⟩:=bO h
   refine xs 17 rfl (aA rfl rfl TT.Hu rfl (Hv n0 _ kZ) ?_)
   refine xz 6 (pS x_4) ?_
   refine sR ?_
   refine xm 18 (pI v5) ?_
   obtain ⟨lZ,h⟩:=bk h
   refine xs 19 rfl (bY (a:=v5) (b:=(55:Int)) rfl rfl rfl lZ ?_)
   refine xm 20 (pS x_4) ?_
   refine xs 21 rfl (gB (l:=x_4) rfl TT.bZ rfl ?_)
   obtain ⟨mc,h⟩:=bk h
   refine xs 22 rfl (bY (a:=(v5+(55:Int))) (b:=(x_4.length:Int)) rfl rfl rfl mc ?_)
   refine xs 23 rfl (nR (n:=((v5+(55:Int))+(x_4.length:Int))) rfl TT.kY TT.dV rfl ?_)
   refine xs 24 rfl (dU (en:=U) (l:=([(gb ((v5+(55:Int))+(x_4.length:Int)))]:List UInt8)) rfl TT.e9 bH rfl rfl (by decide) (by simp [dg,cQ,aB,dK,PV.cz,cu,aF,jz,iL,jP,bV,Value.oneCell']) ?_)
   refine xs 25 rfl (nK (l:=([(gb ((v5+(55:Int))+(x_4.length:Int)))]:List UInt8)) rfl TT.bC TT.dV TT.bZ rfl ?_)
   refine xm 26 (pS x_4) ?_
   obtain ⟨rM,h⟩:=bk h
   refine xs 27 rfl (ld (a:=([(gb ((v5+(55:Int))+(x_4.length:Int)))]:List UInt8)) (b:=x_4) rfl rfl rfl rM ?_)
   refine xz 4 (pS (([(gb ((v5+(55:Int))+(x_4.length:Int)))]:List UInt8)++x_4)) ?_
   refine QW.ret zL ?_
   obtain rfl:=sO h
   exact Ends.one (.inr rfl) rfl (aG.tmp rfl) rfl rfl
inductive Dr where
 | S
 | L1 (v3:(List UInt8)) (v4:Int)
noncomputable def jf (self:Item→Option (List UInt8)) (x0:Item):Dr→Option (Dr⊕(List UInt8))
 | .S=>
  (bif (!(x0).cD) then
  gO ((decide (((x0.fS).length:Int)=(1:Int)))=true→0≤(0:Int)∧(0:Int)<((x0.fS).length:Int)) (
  (bif ((decide (((x0.fS).length:Int)=(1:Int)))&&(decide (((idx (x0.fS) (0:Int)).toNat:Int)≤(127:Int)))) then
  some (.inr (x0.fS))
  else
  ((mW ((x0.fS).length:Int) false).bind fun (x_4:(List UInt8))=>
  gO (x_4.length+(x0.fS).length≤9223372036854775807) (
  some (.inr (x_4++x0.fS))))))
  else
  some (.inl (.L1 ([]:List UInt8) (0))))
 | .L1 v3 v4=>
  (bif (decide (v4<((x0.fL).length:Int))) then
  gO (0≤v4∧v4<((x0.fL).length:Int)) (
  ((self (idx (x0.fL) v4)).bind fun (x_10:(List UInt8))=>
  gO (v3.length+x_10.length≤9223372036854775807) (
  gO (bA (v4+(1:Int))) (
  some (.inl (.L1 (v3++x_10) (v4+(1:Int))))))))
  else
  ((mW (v3.length:Int) true).bind fun (x_14:(List UInt8))=>
  gO (x_14.length+v3.length≤9223372036854775807) (
  some (.inr (x_14++v3)))))
noncomputable def xP (self:Item→Option (List UInt8)) (x0:Item):Option (List UInt8):=gU (jf self x0) .S
theorem FA (self:Item→Option (List UInt8)) (fP:∀ (y0:Item) (rr:(List UInt8)),self y0=some rr→bE Tryz.prog 70 [.agg (dr y0)] (.val (sV rr))) (x0:Item) (r:(List UInt8)) (h:xP self x0=some r):bE Tryz.prog 70 [.agg (dr x0)] (.val (sV r)):=by
 refine bE.aU Tryz.func70 rfl (by simp [Tryz.ntmps70]) ?_
 rw [Tryz.ntmps70,TT.Wc]
 refine QW.view (s':=⟨aF [(0, .d (.agg (dr x0)))],aj [],0,[]⟩) (View.init (by rfl)) zL ?_
 replace h:=cG h
 obtain ⟨_,h⟩:=h
 obtain ⟨c8,rfl,h9⟩:=aQ h;replace h:=h9;clear h9;rw [jf] at h
 refine sR ?_
 refine XK.fz (some 1) rfl rfl (eJ (ds:=dr x0) rfl rfl rfl rfl rfl ?_)
 refine xz 2 (pS ([]:List UInt8)) ?_
 refine QW.seq ?_
 refine sR ?_
 refine xs 5 rfl (aO rfl TT.vz (by decide) rfl ?_)
 refine xs 6 rfl (aC (d:= .val (.bool (x0.cD))) rfl TT.GI rfl (di.one) ?_)
 refine xs 7 rfl (mC rfl rfl ?_)
 refine XK.nz ?_
 refine QW.cond (t:=(!(x0).cD)) rfl zL (fun dm=>?_) (fun dm=>?_)
 ·replace h:=eX h dm
  refine QW.seq ?_
  refine sR ?_
  refine xs 8 rfl (aO rfl TT.jE (by decide) rfl ?_)
  refine xs 9 rfl (aC (d:= .val (sV (x0.fS))) rfl TT.fF rfl (di.one) ?_)
  refine xs 10 rfl (gB (l:=x0.fS) rfl TT.bZ rfl ?_)
  refine xs 11 rfl (ej (a:=((x0.fS).length:Int)) (b:=(1:Int)) rfl rfl rfl ?_)
  refine xm 12 (pB (decide (((x0.fS).length:Int)=(1:Int)))) ?_
  refine xg 13 (.d (.cr ((dr x0).drop 1))) rfl rfl (fun hg=>aO rfl TT.jE (by decide) rfl g3) ?_
  refine xg 14 (pS (x0.fS)) rfl rfl (fun hg=>aC (d:= .val (sV (x0.fS))) rfl TT.fF rfl (di.one) g3) ?_
  obtain ⟨xE,h⟩:=gG h
  refine xg 15 (.d (.val (.int .u8 ((idx (x0.fS) (0:Int)).toNat:Int)))) rfl rfl (fun hg=>lI (l:=x0.fS) (i:=(0:Int)) rfl TT.bZ TT.nL rfl rfl (xE (Fo hg)) g3) ?_
  refine xg 16 (pB (decide (((idx (x0.fS) (0:Int)).toNat:Int)≤(127:Int)))) rfl rfl (fun hg=>yQ (a:=((idx (x0.fS) (0:Int)).toNat:Int)) (b:=(127:Int)) rfl rfl rfl g3) ?_
  refine xs 17 rfl (gK rfl rfl rfl rfl (fun hb=>by rw [hb];rfl) (fun _=>rfl) ?_)
  refine XK.nz ?_
  refine QW.cond (t:=((decide (((x0.fS).length:Int)=(1:Int)))&&(decide (((idx (x0.fS) (0:Int)).toNat:Int)≤(127:Int))))) rfl zL (fun dW=>?_) (fun dW=>?_)
  ·replace h:=eX h dW
   refine sR ?_
   refine xs 18 rfl (aO rfl TT.jE (by decide) rfl ?_)
   refine xs 19 rfl (aC (d:= .val (sV (x0.fS))) rfl TT.fF rfl (di.one) ?_)
   refine xz 2 (pS (x0.fS)) ?_
   refine QW.ret zL (eC (eC ?_))
   obtain rfl:=sG h
   exact Ends.one (.inr rfl) rfl (aG.tmp rfl) rfl rfl
  ·replace h:=eY h dW
   refine QW.skip zL (aY ?_)
   refine QW.seq ?_
   refine QW.region zL (PW.kC (id:=4) dh (M:=_) rfl (by kernel_rfl) ?_)
   refine RQ.st (some 20) rfl rfl (aO rfl TT.jE (by decide) rfl ⟨⟨rfl,rfl⟩,?_⟩)
   refine RQ.st (some 21) rfl rfl (aC (d:= .val (sV (x0.fS))) rfl TT.fF rfl (di.one) ⟨⟨rfl,rfl⟩,?_⟩)
   refine RQ.st (some 22) rfl rfl (gB (l:=x0.fS) rfl TT.bZ rfl ⟨⟨rfl,rfl⟩,?_⟩)
   obtain ⟨x_4,kZ,h⟩:=bG h
   refine RQ.st (some 23) rfl rfl (aA rfl rfl TT.Cw rfl (uq ((x0.fS).length:Int) false _ kZ) ⟨⟨rfl,rfl⟩,?_⟩)
   refine RQ.st (some 24) rfl rfl (aO rfl TT.jE (by decide) rfl ⟨⟨rfl,rfl⟩,?_⟩)
   refine RQ.st (some 25) rfl rfl (aC (d:= .val (sV (x0.fS))) rfl TT.fF rfl (di.one) ⟨⟨rfl,rfl⟩,?_⟩)
   obtain ⟨lZ,h⟩:=gG h
   refine RQ.st (some 26) rfl rfl (ld (a:=x_4) (b:=x0.fS) rfl rfl rfl lZ ⟨⟨rfl,rfl⟩,?_⟩)
   refine RQ.st (some 2) rfl rfl (cq (v:=pS (x_4++x0.fS)) rfl rfl ⟨⟨rfl,rfl⟩,?_⟩)
   refine RQ.nil (aY ?_)
   refine QW.ret zL (eC ?_)
   obtain rfl:=sG h
   exact Ends.one (.inr rfl) rfl (aG.tmp rfl) rfl rfl
 ·replace h:=eY h dm
  refine QW.skip zL (aY ?_)
  refine sR ?_
  refine xz 3 (pS ([]:List UInt8)) ?_
  refine QW.seq ?_
  refine sR ?_
  refine xz 4 (pI (0)) ?_
  refine QW.block ?_
  refine QW.loop (fun k σ=>∃ v3:(List UInt8),∃ v4:Int,k≤c8∧run (jf self x0) k (.L1 v3 v4)=some r∧σ=⟨aF [(1, .d (.cr (dr x0))),(3,pS v3),(4,pI v4)],aj [],0,[]⟩) c8 zL ⟨⟨aF [(1, .d (.cr (dr x0))),(3,pS ([]:List UInt8)),(4,pI (0))],aj [],0,[]⟩,View.mk 0 [] _ _ _ rfl rfl (by decide) (iC (iC (iC trivial))) trivial rfl zL rfl,([]:List UInt8),0,Nat.le_refl _,jG h,rfl⟩ ?_
  rintro Zp _ ⟨v3,v4,Zq,h,rfl⟩
  obtain ⟨XQ,rfl,h9⟩:=aQ h;replace h:=h9;clear h9;rw [jf] at h
  refine QW.seq ?_
  refine sR ?_
  refine xm 27 (pI v4) ?_
  refine xs 28 rfl (aO rfl TT.mQ (by decide) rfl ?_)
  refine xs 29 rfl (aC (d:= .slice ((x0.fL).map bu)) rfl TT.tu rfl (di.one) ?_)
  refine xs 30 rfl (cM (en:=bu) (l:=x0.fL) rfl TT.qX rfl ?_)
  refine xs 31 rfl (cK (a:=v4) (b:=((x0.fL).length:Int)) rfl rfl rfl ?_)
  refine XK.nz ?_
  refine QW.cond (t:=(decide (v4<((x0.fL).length:Int)))) rfl zL (fun rV=>?_) (fun rV=>?_)
  ·replace h:=eX h rV
   refine QW.skip zL (aY ?_)
   refine QW.seq ?_
   refine QW.block ?_
   refine rG ?_
   refine xm 34 (pS v3) ?_
   refine xs 35 rfl (aO rfl TT.mQ (by decide) rfl ?_)
   refine xs 36 rfl (aC (d:= .slice ((x0.fL).map bu)) rfl TT.tu rfl (di.one) ?_)
   refine xm 37 (pI v4) ?_
   obtain ⟨rN,h⟩:=gG h
   refine xs 38 rfl (bN (l:=x0.fL) (i:=v4) rfl TT.Ad kR rfl rfl rN ?_)
   refine xs 39 rfl (aC (d:= .agg (dr (idx (x0.fL) v4))) rfl TT.ew rfl (⟨by simp [dr],rfl⟩) ?_)
   obtain ⟨x_10,qD,h⟩:=bG h
   refine xs 40 rfl (aA rfl rfl TT.Ht rfl (fP (idx (x0.fL) v4) _ qD) ?_)
   obtain ⟨mX,h⟩:=gG h
   refine xs 41 rfl (ld (a:=v3) (b:=x_10) rfl rfl rfl mX ?_)
   refine xa 3 (pS (v3++x_10)) ?_
   refine XK.nil (gC (aY ?_))
   refine rG ?_
   refine xm 32 (pI v4) ?_
   obtain ⟨nE,h⟩:=gG h
   refine xs 33 rfl (bY (a:=v4) (b:=(1:Int)) rfl rfl rfl nE ?_)
   refine xz 4 (pI (v4+(1:Int))) ?_
   exact ⟨XQ,by omega,⟨aF [(1, .d (.cr (dr x0))),(3,pS (v3++x_10)),(4,pI (v4+(1:Int)))],aj [],0,[]⟩,View.mk 0 [] _ _ _ rfl rfl (by decide) (iC (iC (iC trivial))) trivial rfl zL rfl,(v3++x_10),(v4+(1:Int)),by omega,jG h,rfl⟩
  ·replace h:=eY h rV
   refine QW.exit zL (eA (eA (jY (aY ?_))))
   refine sR ?_
   refine xm 42 (pS v3) ?_
   refine xs 43 rfl (gB (l:=v3) rfl TT.bZ rfl ?_)
   obtain ⟨x_14,Hw,h⟩:=bG h
   refine xs 44 rfl (aA rfl rfl TT.Cw rfl (uq (v3.length:Int) true _ Hw) ?_)
   refine xm 45 (pS v3) ?_
   obtain ⟨oP,h⟩:=gG h
   refine xs 46 rfl (ld (a:=x_14) (b:=v3) rfl rfl rfl oP ?_)
   refine xz 2 (pS (x_14++v3)) ?_
   refine QW.ret zL ?_
   obtain rfl:=sG h
   exact Ends.one (.inr rfl) rfl (aG.tmp rfl) rfl rfl
noncomputable def nj:Nat→Item→Option (List UInt8)
 | 0=>fun _=>none
 | n+1=>fun y0=>xP (nj n) y0
theorem zJ:∀ (n:Nat) (y0:Item) (rr:(List UInt8)),nj n y0=some rr→bE Tryz.prog 70 [.agg (dr y0)] (.val (sV rr))
 | 0,_,_,h=>by cases h
 | n+1,y0,rr,h=>FA (nj n) (zJ n) y0 rr h
noncomputable def zd (y0:Item):Option (List UInt8):=wX (fun n=>nj n y0)
theorem Hx (y0:Item) (rr:(List UInt8)) (h:zd y0=some rr):bE Tryz.prog 70 [.agg (dr y0)] (.val (sV rr)):=by
 obtain ⟨n,hn⟩:=nY h
 exact zJ n y0 rr hn
noncomputable def lD (s0:(List UInt8)):Option (List UInt8):=
  ((zd (⟨false,s0,([]:(List Item))⟩:Item)).bind fun (x_1:(List UInt8))=>
  some x_1)
theorem qo (s0:(List UInt8)) (r:(List UInt8)) (h:lD s0=some r):bE Tryz.prog 59 [.val (sV s0)] (.val (sV r)):=by
 refine bE.aU Tryz.func59 rfl (by simp [Tryz.ntmps59]) ?_
 rw [Tryz.ntmps59,TT.V9]
 refine QW.view (s':=⟨aF [(0,pS s0)],aj [],0,[]⟩) (View.init (by rfl)) zL ?_
 unfold lD at h
 refine sR ?_
 refine xz 2 (pS ([]:List UInt8)) ?_
 refine sR ?_
 refine xm 3 (pS s0) ?_
 refine xs 4 rfl (fk (v:= .agg [pB false,pS s0, .full (([]:(List Item)).map bu)]) rfl TT.yc (dM rfl (cx (cells':=[pB false,pS s0, .full (([]:(List Item)).map bu)]) rfl rfl rfl bL rfl dL)) ?_)
 obtain ⟨x_1,fy,h⟩:=bO h
 refine xs 5 rfl (aA rfl rfl TT.Ht rfl (Hx (⟨false,s0,([]:(List Item))⟩:Item) _ fy) ?_)
 refine xz 2 (pS x_1) ?_
 refine QW.ret zL ?_
 obtain rfl:=sO h
 exact Ends.one (.inr rfl) rfl (aG.tmp rfl) rfl rfl
noncomputable def kB (s0:(List UInt8)):Option (List UInt8):=
  (bif ((s0==([]:List UInt8))||(decide ((s0.length:Int)=(32:Int)))) then
  ((lD s0).bind fun (x_2:(List UInt8))=>
  some x_2)
  else
  some s0)
theorem AA (s0:(List UInt8)) (r:(List UInt8)) (h:kB s0=some r):bE Tryz.prog 61 [.val (sV s0)] (.val (sV r)):=by
 refine bE.aU Tryz.func61 rfl (by simp [Tryz.ntmps61]) ?_
 rw [Tryz.ntmps61,TT.Wa]
 refine QW.view (s':=⟨aF [(0,pS s0)],aj [],0,[]⟩) (View.init (by rfl)) zL ?_
 unfold kB at h
 refine sR ?_
 refine xz 2 (pS ([]:List UInt8)) ?_
 refine QW.seq ?_
 refine sR ?_
 refine xm 3 (pS s0) ?_
 refine xs 4 rfl (qk (a:=s0) (b:=([]:List UInt8)) rfl rfl rfl ?_)
 refine xm 5 (pB (s0==([]:List UInt8))) ?_
 refine xg 6 (pS s0) rfl rfl (fun hg=>au (v:=pS s0) rfl rfl g3) ?_
 refine xg 7 (pI (s0.length:Int)) rfl rfl (fun hg=>gB (l:=s0) rfl TT.bZ rfl g3) ?_
 refine xg 8 (pB (decide ((s0.length:Int)=(32:Int)))) rfl rfl (fun hg=>ej (a:=(s0.length:Int)) (b:=(32:Int)) rfl rfl rfl g3) ?_
 refine xs 9 rfl (gL rfl rfl rfl rfl (fun _=>rfl) (fun hb=>by rw [hb];rfl) ?_)
 refine XK.nz ?_
 refine QW.cond (t:=((s0==([]:List UInt8))||(decide ((s0.length:Int)=(32:Int))))) rfl zL (fun dm=>?_) (fun dm=>?_)
 ·replace h:=bT h dm
  refine sR ?_
  refine xm 10 (pS s0) ?_
  obtain ⟨x_2,nD,h⟩:=bO h
  refine xs 11 rfl (aA rfl rfl TT.zb rfl (qo s0 _ nD) ?_)
  refine xz 2 (pS x_2) ?_
  refine QW.ret zL (eC ?_)
  obtain rfl:=sO h
  exact Ends.one (.inr rfl) rfl (aG.tmp rfl) rfl rfl
 ·replace h:=bF h dm
  refine QW.skip zL (aY ?_)
  refine sR ?_
  refine xm 12 (pS s0) ?_
  refine xz 2 (pS s0) ?_
  refine QW.ret zL ?_
  obtain rfl:=sO h
  exact Ends.one (.inr rfl) rfl (aG.tmp rfl) rfl rfl
inductive ze where
 | S
 | L4 (r4:(List UInt8)) (ir:Int)
 | J3 (xh:(List UInt8))
noncomputable def cL (n0:Node):ze→Option (ze⊕(List UInt8))
 | .S=>
  (((bif (decide ((n0.aW)=(1:Int))) then
  ((tA (n0.az) true).bind fun (x_2:(List UInt8))=>
  ((lD x_2).bind fun (x_4:(List UInt8))=>
  ((lD (n0.ay)).bind fun (x_6:(List UInt8))=>
  gO (x_4.length+x_6.length≤9223372036854775807) (
  some (x_4++x_6)))))
  else
  some ([]:List UInt8)):Option (List UInt8)).bind fun (v3:(List UInt8))=>
  (((bif (decide ((n0.aW)=(2:Int))) then
  ((tA (n0.az) false).bind fun (x_10:(List UInt8))=>
  ((lD x_10).bind fun (x_12:(List UInt8))=>
  ((kB (idx (n0.aT).1 (0:Int))).bind fun (x_14:(List UInt8))=>
  gO (x_12.length+x_14.length≤9223372036854775807) (
  some (x_12++x_14)))))
  else
  some v3):Option (List UInt8)).bind fun (kL:(List UInt8))=>
  (bif (decide ((n0.aW)=(3:Int))) then
  some (.inl (.L4 kL (0)))
  else
  some (.inl (.J3 kL)))))
 | .L4 r4 ir=>
  (bif (decide (ir<(16:Int))) then
  gO (0≤ir∧ir<((16:Nat):Int)) (
  ((kB (idx (n0.aT).1 ir)).bind fun (x_21:(List UInt8))=>
  gO (r4.length+x_21.length≤9223372036854775807) (
  gO (bA (ir+(1:Int))) (
  some (.inl (.L4 (r4++x_21) (ir+(1:Int))))))))
  else
  gO (r4.length+([128]:List UInt8).length≤9223372036854775807) (
  some (.inl (.J3 (r4++([128]:List UInt8))))))
 | .J3 xh=>
  ((mW (xh.length:Int) true).bind fun (vN:(List UInt8))=>
  gO (vN.length+xh.length≤9223372036854775807) (
  some (.inr (vN++xh))))
noncomputable def pG (n0:Node):Option (List UInt8):=gU (cL n0) .S
theorem Hy (n0:Node) (r:(List UInt8)) (h:pG n0=some r):bE Tryz.prog 33 [.agg (cNode n0)] (.val (sV r)):=by
 refine bE.aU Tryz.func33 rfl (by simp [Tryz.ntmps33]) ?_
 rw [Tryz.ntmps33,TT.V8]
 refine QW.view (s':=⟨aF [(0, .d (.agg (cNode n0)))],aj [],0,[]⟩) (View.init (by rfl)) zL ?_
 replace h:=cG h
 obtain ⟨_,h⟩:=h
 obtain ⟨c8,rfl,h9⟩:=aQ h;replace h:=h9;clear h9;rw [cL] at h
 refine sR ?_
 refine XK.fz (some 1) rfl rfl (eJ (ds:=cNode n0) rfl rfl rfl rfl cA ?_)
 refine xz 2 (pS ([]:List UInt8)) ?_
 refine sR ?_
 refine xz 3 (pS ([]:List UInt8)) ?_
 obtain ⟨v3,hq,h⟩:=bG h
 refine QW.rH (fun s'=>s'=⟨aF [(1, .d (.cr (cNode n0))),(3,pS v3)],aj [],0,[]⟩) ?_ ?_
 ·replace h:=hq;clear hq
  refine sR ?_
  refine xs 5 rfl (aO rfl TT.qE (by decide) rfl ?_)
  refine xs 6 rfl (aC (d:= .val (.int .i64 (n0.aW))) rfl TT.l9 rfl (qY _) ?_)
  refine xs 7 rfl (ej (a:=(n0.aW)) (b:=(1:Int)) rfl rfl rfl ?_)
  refine XK.nz ?_
  refine QW.cond (t:=(decide ((n0.aW)=(1:Int)))) rfl zL (fun dm=>?_) (fun dm=>?_)
  ·replace h:=bT h dm
   refine QW.region zL (PW.kC (id:=3) dh (M:=_) rfl (by kernel_rfl) ?_)
   refine RQ.st (some 8) rfl rfl (aO rfl TT.qF (by decide) rfl ⟨⟨rfl,rfl⟩,?_⟩)
   refine RQ.st (some 9) rfl rfl (aC (d:= .slice ((n0.az).map U)) rfl TT.fB rfl (oK _) ⟨⟨rfl,rfl⟩,?_⟩)
   obtain ⟨x_2,nD,h⟩:=bO h
   refine RQ.st (some 10) rfl rfl (aA rfl rfl TT.Hp rfl (zH (n0.az) true _ nD) ⟨⟨rfl,rfl⟩,?_⟩)
   obtain ⟨x_4,kZ,h⟩:=bO h
   refine RQ.st (some 11) rfl rfl (aA rfl rfl TT.zb rfl (qo x_2 _ kZ) ⟨⟨rfl,rfl⟩,?_⟩)
   refine RQ.st (some 12) rfl rfl (aO rfl TT.sZ (by decide) rfl ⟨⟨rfl,rfl⟩,?_⟩)
   refine RQ.st (some 13) rfl rfl (aC (d:= .val (sV (n0.ay))) rfl TT.fF rfl (qZ _) ⟨⟨rfl,rfl⟩,?_⟩)
   obtain ⟨x_6,ym,h⟩:=bO h
   refine RQ.st (some 14) rfl rfl (aA rfl rfl TT.zb rfl (qo (n0.ay) _ ym) ⟨⟨rfl,rfl⟩,?_⟩)
   obtain ⟨rM,h⟩:=bk h
   refine RQ.st (some 15) rfl rfl (ld (a:=x_4) (b:=x_6) rfl rfl rfl rM ⟨⟨rfl,rfl⟩,?_⟩)
   refine RQ.st (some 3) rfl rfl (cq (v:=pS (x_4++x_6)) rfl rfl ⟨⟨rfl,rfl⟩,?_⟩)
   refine RQ.nil (aY ?_)
   obtain rfl:=sO h
   exact ⟨⟨aF [(1, .d (.cr (cNode n0))),(3,pS (x_4++x_6))],aj [],0,[]⟩,View.mk 0 [] _ _ _ rfl rfl (by decide) (iC (iC trivial)) trivial rfl zL rfl,rfl⟩
  ·replace h:=bF h dm
   refine QW.skip zL (aY ?_)
   obtain rfl:=sO h
   exact ⟨⟨aF [(1, .d (.cr (cNode n0))),(3,pS ([]:List UInt8))],aj [],0,[]⟩,View.mk 0 [] _ _ _ rfl rfl (by decide) (iC (iC trivial)) trivial rfl zL rfl,rfl⟩
 ·rintro _ rfl
  obtain ⟨kL,hq,h⟩:=bG h
  refine QW.rH (fun s'=>s'=⟨aF [(1, .d (.cr (cNode n0))),(3,pS kL)],aj [],0,[]⟩) ?_ ?_
  ·replace h:=hq;clear hq
   refine sR ?_
   refine xs 16 rfl (aO rfl TT.qE (by decide) rfl ?_)
   refine xs 17 rfl (aC (d:= .val (.int .i64 (n0.aW))) rfl TT.l9 rfl (qY _) ?_)
   refine xs 18 rfl (ej (a:=(n0.aW)) (b:=(2:Int)) rfl rfl rfl ?_)
   refine XK.nz ?_
   refine QW.cond (t:=(decide ((n0.aW)=(2:Int)))) rfl zL (fun oU=>?_) (fun oU=>?_)
   ·replace h:=bT h oU
    refine QW.region zL (PW.kC (id:=5) dh (M:=_) rfl (by kernel_rfl) ?_)
    refine RQ.st (some 19) rfl rfl (aO rfl TT.qF (by decide) rfl ⟨⟨rfl,rfl⟩,?_⟩)
    refine RQ.st (some 20) rfl rfl (aC (d:= .slice ((n0.az).map U)) rfl TT.fB rfl (oK _) ⟨⟨rfl,rfl⟩,?_⟩)
    obtain ⟨x_10,qD,h⟩:=bO h
    refine RQ.st (some 21) rfl rfl (aA rfl rfl TT.Hp rfl (zH (n0.az) false _ qD) ⟨⟨rfl,rfl⟩,?_⟩)
    obtain ⟨x_12,rO,h⟩:=bO h
    refine RQ.st (some 22) rfl rfl (aA rfl rfl TT.zb rfl (qo x_10 _ rO) ⟨⟨rfl,rfl⟩,?_⟩)
    refine RQ.st (some 23) rfl rfl (aO rfl TT.mT (by decide) rfl ⟨⟨rfl,rfl⟩,?_⟩)
    refine RQ.st (some 24) rfl rfl (mD (i:=(0:Int)) rfl TT.tV TT.oN rfl rfl (by decide) ⟨⟨rfl,rfl⟩,?_⟩)
    refine RQ.st (some 25) rfl rfl (aC (d:= .val (sV (idx (n0.aT).1 (0:Int)))) rfl TT.fF rfl (om (q6 _) (by decide)) ⟨⟨rfl,rfl⟩,?_⟩)
    obtain ⟨x_14,Hw,h⟩:=bO h
    refine RQ.st (some 26) rfl rfl (aA rfl rfl TT.Hq rfl (AA (idx (n0.aT).1 (0:Int)) _ Hw) ⟨⟨rfl,rfl⟩,?_⟩)
    obtain ⟨oP,h⟩:=bk h
    refine RQ.st (some 27) rfl rfl (ld (a:=x_12) (b:=x_14) rfl rfl rfl oP ⟨⟨rfl,rfl⟩,?_⟩)
    refine RQ.st (some 3) rfl rfl (cq (v:=pS (x_12++x_14)) rfl rfl ⟨⟨rfl,rfl⟩,?_⟩)
    refine RQ.nil (aY ?_)
    obtain rfl:=sO h
    exact ⟨⟨aF [(1, .d (.cr (cNode n0))),(3,pS (x_12++x_14))],aj [],0,[]⟩,View.mk 0 [] _ _ _ rfl rfl (by decide) (iC (iC trivial)) trivial rfl zL rfl,rfl⟩
   ·replace h:=bF h oU
    refine QW.skip zL (aY ?_)
    obtain rfl:=sO h
    exact ⟨⟨aF [(1, .d (.cr (cNode n0))),(3,pS v3)],aj [],0,[]⟩,View.mk 0 [] _ _ _ rfl rfl (by decide) (iC (iC trivial)) trivial rfl zL rfl,rfl⟩
  ·rintro _ rfl
   refine QW.rH (fun s'=>∃ xh:(List UInt8),∃ k:Nat,k≤c8∧run (cL n0) k (.J3 xh)=some r∧s'=⟨aF [(3,pS xh)],aj [],0,[]⟩) ?_ ?_
   ·refine sR ?_
    refine xs 28 rfl (aO rfl TT.qE (by decide) rfl ?_)
    refine xs 29 rfl (aC (d:= .val (.int .i64 (n0.aW))) rfl TT.l9 rfl (qY _) ?_)
    refine xs 30 rfl (ej (a:=(n0.aW)) (b:=(3:Int)) rfl rfl rfl ?_)
    refine XK.nz ?_
    refine QW.cond (t:=(decide ((n0.aW)=(3:Int)))) rfl zL (fun qy=>?_) (fun qy=>?_)
    ·replace h:=eX h qy
     refine QW.seq ?_
     refine sR ?_
     refine xz 4 (pI (0)) ?_
     refine QW.block ?_
     refine QW.loop (fun k σ=>∃ r4:(List UInt8),∃ ir:Int,k≤c8∧run (cL n0) k (.L4 r4 ir)=some r∧σ=⟨aF [(1, .d (.cr (cNode n0))),(3,pS r4),(4,pI ir)],aj [],0,[]⟩) c8 zL ⟨⟨aF [(1, .d (.cr (cNode n0))),(3,pS kL),(4,pI (0))],aj [],0,[]⟩,View.mk 0 [] _ _ _ rfl rfl (by decide) (iC (iC (iC trivial))) trivial rfl zL rfl,kL,0,Nat.le_refl _,jG h,rfl⟩ ?_
     rintro abf _ ⟨r4,ir,abg,h,rfl⟩
     obtain ⟨WX,rfl,h9⟩:=aQ h;replace h:=h9;clear h9;rw [cL] at h
     refine QW.seq ?_
     refine sR ?_
     refine xm 31 (pI ir) ?_
     refine xs 32 rfl (cK (a:=ir) (b:=(16:Int)) rfl rfl rfl ?_)
     refine XK.nz ?_
     refine QW.cond (t:=(decide (ir<(16:Int)))) rfl zL (fun Ce=>?_) (fun Ce=>?_)
     ·replace h:=eX h Ce
      refine QW.skip zL (aY ?_)
      refine QW.seq ?_
      refine QW.block ?_
      refine rG ?_
      refine xm 35 (pS r4) ?_
      refine xm 36 (pI ir) ?_
      refine xs 37 rfl (aO rfl TT.mT (by decide) rfl ?_)
      obtain ⟨vS,h⟩:=gG h
      refine xs 38 rfl (mD (i:=ir) rfl TT.tV TT.oN rfl rfl vS ?_)
      refine xs 39 rfl (aC (d:= .val (sV (idx (n0.aT).1 ir))) rfl TT.fF rfl (om (q6 _) vS) ?_)
      obtain ⟨x_21,G6,h⟩:=bG h
      refine xs 40 rfl (aA rfl rfl TT.Hq rfl (AA (idx (n0.aT).1 ir) _ G6) ?_)
      obtain ⟨GN,h⟩:=gG h
      refine xs 41 rfl (ld (a:=r4) (b:=x_21) rfl rfl rfl GN ?_)
      refine xa 3 (pS (r4++x_21)) ?_
      refine XK.nil (gC (aY ?_))
      refine rG ?_
      refine xm 33 (pI ir) ?_
      obtain ⟨zE,h⟩:=gG h
      refine xs 34 rfl (bY (a:=ir) (b:=(1:Int)) rfl rfl rfl zE ?_)
      refine xz 4 (pI (ir+(1:Int))) ?_
      exact ⟨WX,by omega,⟨aF [(1, .d (.cr (cNode n0))),(3,pS (r4++x_21)),(4,pI (ir+(1:Int)))],aj [],0,[]⟩,View.mk 0 [] _ _ _ rfl rfl (by decide) (iC (iC (iC trivial))) trivial rfl zL rfl,(r4++x_21),(ir+(1:Int)),by omega,jG h,rfl⟩
     ·replace h:=eY h Ce
      refine QW.exit zL (eA (eA (jY (aY ?_))))
      refine rG ?_
      refine xm 42 (pS r4) ?_
      obtain ⟨GO,h⟩:=gG h
      refine xs 43 rfl (ld (a:=r4) (b:=([128]:List UInt8)) rfl rfl rfl GO ?_)
      refine xz 3 (pS (r4++([128]:List UInt8))) ?_
      exact ⟨⟨aF [(3,pS (r4++([128]:List UInt8)))],aj [],0,[]⟩,View.mk 0 [] _ _ _ rfl rfl (by decide) (iC trivial) trivial rfl zL rfl,(r4++([128]:List UInt8)),WX,by omega,jG h,rfl⟩
    ·replace h:=eY h qy
     refine QW.skip zL (aY ?_)
     exact ⟨⟨aF [(3,pS kL)],aj [],0,[]⟩,View.mk 0 [] _ _ _ rfl rfl (by decide) (iC trivial) trivial rfl zL rfl,kL,c8,by omega,jG h,rfl⟩
   ·rintro _ ⟨xh,abh,abi,h,rfl⟩
    obtain ⟨abV,rfl,h9⟩:=aQ h;replace h:=h9;clear h9;rw [cL] at h
    refine sR ?_
    refine xm 44 (pS xh) ?_
    refine xs 45 rfl (gB (l:=xh) rfl TT.bZ rfl ?_)
    obtain ⟨vN,yX,h⟩:=bG h
    refine xs 46 rfl (aA rfl rfl TT.Cw rfl (uq (xh.length:Int) true _ yX) ?_)
    refine xm 47 (pS xh) ?_
    obtain ⟨sF,h⟩:=gG h
    refine xs 48 rfl (ld (a:=vN) (b:=xh) rfl rfl rfl sF ?_)
    refine xz 2 (pS (vN++xh)) ?_
    refine QW.ret zL ?_
    obtain rfl:=sG h
    exact Ends.one (.inr rfl) rfl (aG.tmp rfl) rfl rfl
end Go.Proofs.YtlfjfoknbjcncaaGreat.K
namespace Go.Proofs.YtlfjfoknbjcncaaGreat.K
open Go Go.RowKit
set_option linter.unusedSimpArgs false
set_option linter.unusedVariables false
set_option maxRecDepth 20000
set_option maxHeartbeats 4000000
namespace TT
theorem xj:Lq Tryz.prog 28 32=true:=by kernel_rfl
theorem Mr:pX Tryz.prog 53=some ([Value.slice none 0 0,Value.string ⟨#[]⟩], .inl [(0,1),(1,1)]):=by kernel_rfl
theorem Hz:aN Tryz.prog 10=true:=by kernel_rfl
theorem Cy:aN Tryz.prog 15=true:=by kernel_rfl
theorem HA:aN Tryz.prog 20=true:=by kernel_rfl
theorem OH:aN Tryz.prog 32=true:=by kernel_rfl
theorem OI:aN Tryz.prog 34=true:=by kernel_rfl
theorem OJ:aN Tryz.prog 56=true:=by kernel_rfl
theorem HB:aN Tryz.prog 57=true:=by kernel_rfl
theorem OK:aN Tryz.prog 58=true:=by kernel_rfl
theorem OL:aN Tryz.prog 84=true:=by kernel_rfl
theorem OM:aN Tryz.prog 85=true:=by kernel_rfl
theorem qK:lu Tryz.prog 53 0=some (0,1,false):=by kernel_rfl
theorem HC:lu Tryz.prog 53 1=some (1,1,false):=by kernel_rfl
theorem Py:Tryz.f10.results.toList=[.tmp 4]:=rfl
theorem Wf:Tryz.f13.results.toList=[.tmp 4]:=rfl
theorem Wg:Tryz.f15.results.toList=[.tmp 2]:=rfl
theorem Wh:Tryz.f16.results.toList=[.tmp 2]:=rfl
theorem Wi:Tryz.f32.results.toList=[.cell 2 58, .tmp 3]:=rfl
theorem Wj:Tryz.f56.results.toList=[.tmp 2]:=rfl
theorem Wl:Tryz.f57.results.toList=[.tmp 4]:=rfl
theorem Wm:Tryz.f58.results.toList=[.tmp 4]:=rfl
theorem X4:Tryz.f7.results.toList=[.tmp 4, .tmp 5]:=rfl
theorem ud:oE Tryz.prog 26=some (33,48):=by kernel_rfl
theorem yx:oE Tryz.prog 46=some (2,40):=by kernel_rfl
theorem qd:l6 Tryz.prog 46=some (2,40,true):=by kernel_rfl
theorem Wn:jC Tryz.prog 53=some (true,2):=by kernel_rfl
theorem rA:Program.underlying Tryz.prog 46=some (.slice 53):=by kernel_rfl
end TT
inductive BP where
 | S
 | L1 (v6:Int)
noncomputable def gi (l0:(List bt)) (k1:(aE 32 UInt8)):BP→Option (BP⊕((List UInt8)×Bool))
 | .S=>
  some (.inl (.L1 (0)))
 | .L1 v6=>
  (bif (decide (v6<(l0.length:Int))) then
  gO (0≤v6∧v6<(l0.length:Int)) (
  (bif (((idx l0 v6).bQ).1==k1.1) then
  gO (0≤v6∧v6<(l0.length:Int)) (
  some (.inr ((idx l0 v6).ay,true)))
  else
  gO (bA (v6+(1:Int))) (
  some (.inl (.L1 (v6+(1:Int)))))))
  else
  some (.inr (([]:List UInt8),false)))
noncomputable def tB (l0:(List bt)) (k1:(aE 32 UInt8)):Option ((List UInt8)×Bool):=gU (gi l0 k1) .S
theorem FC (l0:(List bt)) (k1:(aE 32 UInt8)) (r:((List UInt8)×Bool)) (h:tB l0 k1=some r):bE Tryz.prog 7 [.slice (l0.map bq), .agg (k1.1.map U)] (.tuple [.val (sV (r.1)), .val (.bool (r.2))]):=by
 refine bE.aU Tryz.func7 rfl (by simp [Tryz.ntmps7]) ?_
 rw [Tryz.ntmps7,TT.X4]
 refine QW.view (s':=⟨aF [(0, .d (.slice (l0.map bq))),(1, .d (.agg (k1.1.map U)))],aj [],0,[]⟩) (View.init (by rfl)) zL ?_
 replace h:=cG h
 obtain ⟨_,h⟩:=h
 obtain ⟨c8,rfl,h9⟩:=aQ h;replace h:=h9;clear h9;rw [gi] at h
 refine sR ?_
 refine XK.fz (some 3) rfl rfl (eJ (ds:=k1.1.map U) rfl rfl rfl rfl cA ?_)
 refine xa 4 (pS ([]:List UInt8)) ?_
 refine xz 5 (pB false) ?_
 refine QW.seq ?_
 refine sR ?_
 refine xz 6 (pI (0)) ?_
 refine QW.block ?_
 refine QW.loop (fun k σ=>∃ v6:Int,k≤c8∧run (gi l0 k1) k (.L1 v6)=some r∧σ=⟨aF [(0, .d (.slice (l0.map bq))),(3, .d (.cr (k1.1.map U))),(6,pI v6)],aj [],0,[]⟩) c8 zL ⟨⟨aF [(0, .d (.slice (l0.map bq))),(3, .d (.cr (k1.1.map U))),(6,pI (0))],aj [],0,[]⟩,View.mk 0 [] _ _ _ rfl rfl (by decide) (iC (iC (iC trivial))) trivial rfl zL rfl,0,Nat.le_refl _,jG h,rfl⟩ ?_
 rintro pZ _ ⟨v6,p4,h,rfl⟩
 obtain ⟨k_1,rfl,h9⟩:=aQ h;replace h:=h9;clear h9;rw [gi] at h
 refine QW.seq ?_
 refine sR ?_
 refine xm 7 (pI v6) ?_
 refine xm 8 (.d (.slice (l0.map bq))) ?_
 refine xs 9 rfl (cM (en:=bq) (l:=l0) rfl TT.nZ rfl ?_)
 refine xs 10 rfl (cK (a:=v6) (b:=(l0.length:Int)) rfl rfl rfl ?_)
 refine XK.nz ?_
 refine QW.cond (t:=(decide (v6<(l0.length:Int)))) rfl zL (fun cv=>?_) (fun cv=>?_)
 ·replace h:=eX h cv
  refine QW.skip zL (aY ?_)
  refine QW.seq ?_
  refine QW.block ?_
  refine QW.seq ?_
  refine QW.region zL (PW.kC (id:=4) dh (M:=_) rfl (by kernel_rfl) ?_)
  refine RQ.st (some 13) rfl rfl (au (v:= .d (.slice (l0.map bq))) rfl rfl ⟨⟨rfl,rfl⟩,?_⟩)
  refine RQ.st (some 14) rfl rfl (au (v:=pI v6) rfl rfl ⟨⟨rfl,rfl⟩,?_⟩)
  obtain ⟨dP,h⟩:=gG h
  refine RQ.st (some 15) rfl rfl (bN (l:=l0) (i:=v6) rfl TT.oY dN rfl rfl dP ⟨⟨rfl,rfl⟩,?_⟩)
  refine RQ.st (some 16) rfl rfl (aO rfl TT.oX (by decide) rfl ⟨⟨rfl,rfl⟩,?_⟩)
  refine RQ.st (some 17) rfl rfl (aC (d:= .agg (((idx l0 v6).bQ).1.map U)) rfl TT.iB rfl (nC _) ⟨⟨rfl,rfl⟩,?_⟩)
  refine RQ.st (some 18) rfl rfl (aC (d:= .agg (k1.1.map U)) rfl TT.iB rfl (nU (by rw [List.length_map,k1.2])) ⟨⟨rfl,rfl⟩,?_⟩)
  refine RQ.st (some 19) rfl rfl (Qm (p:=(idx l0 v6).bQ) (q:=k1) rfl TT.xj rfl rfl ⟨⟨rfl,rfl⟩,?_⟩)
  refine RQ.nil (aY ?_)
  refine QW.cond (t:=(((idx l0 v6).bQ).1==k1.1)) rfl zL (fun gD=>?_) (fun gD=>?_)
  ·replace h:=eX h gD
   refine sR ?_
   refine xm 20 (.d (.slice (l0.map bq))) ?_
   refine xm 21 (pI v6) ?_
   obtain ⟨mR,h⟩:=gG h
   refine xs 22 rfl (bN (l:=l0) (i:=v6) rfl TT.oY dN rfl rfl mR ?_)
   refine xs 23 rfl (aO rfl TT.Cr (by decide) rfl ?_)
   refine xs 24 rfl (aC (d:= .val (sV ((idx l0 v6).ay))) rfl TT.fF rfl (Af _) ?_)
   refine xa 4 (pS ((idx l0 v6).ay)) ?_
   refine xz 5 (pB true) ?_
   refine QW.ret zL (mO (eC (eC (mO (eC ?_)))))
   obtain rfl:=sG h
   exact Ends.more (.inr rfl) rfl (ps:=[pS ((idx l0 v6).ay),pB true]) (And.intro (aG.tmp rfl) (And.intro (aG.tmp rfl) trivial)) rfl rfl
  ·replace h:=eY h gD
   refine QW.skip zL (gC (aY ?_))
   refine rG ?_
   refine xm 11 (pI v6) ?_
   obtain ⟨lZ,h⟩:=gG h
   refine xs 12 rfl (bY (a:=v6) (b:=(1:Int)) rfl rfl rfl lZ ?_)
   refine xz 6 (pI (v6+(1:Int))) ?_
   exact ⟨k_1,by omega,⟨aF [(0, .d (.slice (l0.map bq))),(3, .d (.cr (k1.1.map U))),(6,pI (v6+(1:Int)))],aj [],0,[]⟩,View.mk 0 [] _ _ _ rfl rfl (by decide) (iC (iC (iC trivial))) trivial rfl zL rfl,(v6+(1:Int)),by omega,jG h,rfl⟩
 ·replace h:=eY h cv
  refine QW.exit zL (eA (eA (jY (aY ?_))))
  refine sR ?_
  refine xa 4 (pS ([]:List UInt8)) ?_
  refine xz 5 (pB false) ?_
  refine QW.ret zL ?_
  obtain rfl:=sG h
  exact Ends.more (.inr rfl) rfl (ps:=[pS ([]:List UInt8),pB false]) (And.intro (aG.tmp rfl) (And.intro (aG.tmp rfl) trivial)) rfl rfl
inductive tc where
 | S
 | L1 (bl:(List bt)) (v6:Int)
noncomputable def iN (l0:(List bt)) (k1:(aE 32 UInt8)):tc→Option (tc⊕(List bt))
 | .S=>
  some (.inl (.L1 ([]:(List bt)) (0)))
 | .L1 bl v6=>
  (bif (decide (v6<(l0.length:Int))) then
  ((gO (0≤v6∧v6<(l0.length:Int)) (
  (bif (!(((idx l0 v6).bQ).1==k1.1)) then
  gO (0≤v6∧v6<(l0.length:Int)) (
  gO ((bl.length+([(idx l0 v6)]:List bt).length)*48≤140737488355328) (
  some (bl++([(idx l0 v6)]:List bt))))
  else
  some bl)):Option (List bt)).bind fun (o6:(List bt))=>
  gO (bA (v6+(1:Int))) (
  some (.inl (.L1 o6 (v6+(1:Int))))))
  else
  some (.inr bl))
noncomputable def pH (l0:(List bt)) (k1:(aE 32 UInt8)):Option (List bt):=gU (iN l0 k1) .S
theorem Cz (l0:(List bt)) (k1:(aE 32 UInt8)) (r:(List bt)) (h:pH l0 k1=some r):bE Tryz.prog 10 [.slice (l0.map bq), .agg (k1.1.map U)] (.slice (r.map bq)):=by
 refine bE.aU Tryz.func10 rfl (by simp [Tryz.ntmps10]) ?_
 rw [Tryz.ntmps10,TT.Py]
 refine QW.view (s':=⟨aF [(0, .d (.slice (l0.map bq))),(1, .d (.agg (k1.1.map U)))],aj [],0,[]⟩) (View.init (by rfl)) zL ?_
 replace h:=cG h
 obtain ⟨_,h⟩:=h
 obtain ⟨c8,rfl,h9⟩:=aQ h;replace h:=h9;clear h9;rw [iN] at h
 refine sR ?_
 refine XK.fz (some 3) rfl rfl (eJ (ds:=k1.1.map U) rfl rfl rfl rfl cA ?_)
 refine xz 4 (.full (([]:(List bt)).map bq)) ?_
 refine sR ?_
 refine xz 5 (.full (([]:(List bt)).map bq)) ?_
 refine QW.seq ?_
 refine sR ?_
 refine xz 6 (pI (0)) ?_
 refine QW.block ?_
 refine QW.loop (fun k σ=>∃ bl:(List bt),∃ v6:Int,k≤c8∧run (iN l0 k1) k (.L1 bl v6)=some r∧σ=⟨aF [(0, .d (.slice (l0.map bq))),(3, .d (.cr (k1.1.map U))),(5, .own 0 (bl.map bq)),(6,pI v6)],aj [.spare 33 bl.length],1,[]⟩) c8 zL ⟨⟨aF [(0, .d (.slice (l0.map bq))),(3, .d (.cr (k1.1.map U))),(5, .own 0 (([]:(List bt)).map bq)),(6,pI (0))],aj [.spare 33 ([]:(List bt)).length],1,[]⟩,View.trans (View.buf 5 33 rfl zL) (View.mk 1 [0] _ _ _ rfl rfl (by decide) (iC (iC (iC (iC trivial)))) (And.intro rfl trivial) rfl zL rfl),([]:(List bt)),0,Nat.le_refl _,jG h,rfl⟩ ?_
 rintro pZ _ ⟨bl,v6,p4,h,rfl⟩
 obtain ⟨k_1,rfl,h9⟩:=aQ h;replace h:=h9;clear h9;rw [iN] at h
 refine QW.seq ?_
 refine sR ?_
 refine xm 7 (pI v6) ?_
 refine xm 8 (.d (.slice (l0.map bq))) ?_
 refine xs 9 rfl (cM (en:=bq) (l:=l0) rfl TT.nZ rfl ?_)
 refine xs 10 rfl (cK (a:=v6) (b:=(l0.length:Int)) rfl rfl rfl ?_)
 refine XK.nz ?_
 refine QW.cond (t:=(decide (v6<(l0.length:Int)))) rfl zL (fun cv=>?_) (fun cv=>?_)
 ·replace h:=eX h cv
  refine QW.skip zL (aY ?_)
  obtain ⟨o6,hq,h⟩:=bG h
  refine QW.rH (fun s'=>s'=⟨aF [(0, .d (.slice (l0.map bq))),(3, .d (.cr (k1.1.map U))),(5, .own 0 (o6.map bq)),(6,pI v6)],aj [.spare 33 o6.length],1,[]⟩) ?_ ?_
  ·replace h:=hq;clear hq
   refine QW.block ?_
   refine QW.seq ?_
   refine QW.region zL (PW.kC (id:=5) dh (M:=_) rfl (by kernel_rfl) ?_)
   refine RQ.st (some 13) rfl rfl (au (v:= .d (.slice (l0.map bq))) rfl rfl ⟨⟨rfl,rfl⟩,?_⟩)
   refine RQ.st (some 14) rfl rfl (au (v:=pI v6) rfl rfl ⟨⟨rfl,rfl⟩,?_⟩)
   obtain ⟨dP,h⟩:=bk h
   refine RQ.st (some 15) rfl rfl (bN (l:=l0) (i:=v6) rfl TT.oY dN rfl rfl dP ⟨⟨rfl,rfl⟩,?_⟩)
   refine RQ.st (some 16) rfl rfl (aO rfl TT.oX (by decide) rfl ⟨⟨rfl,rfl⟩,?_⟩)
   refine RQ.st (some 17) rfl rfl (aC (d:= .agg (((idx l0 v6).bQ).1.map U)) rfl TT.iB rfl (nC _) ⟨⟨rfl,rfl⟩,?_⟩)
   refine RQ.st (some 18) rfl rfl (aC (d:= .agg (k1.1.map U)) rfl TT.iB rfl (nU (by rw [List.length_map,k1.2])) ⟨⟨rfl,rfl⟩,?_⟩)
   refine RQ.st (some 19) rfl rfl (D3 (p:=(idx l0 v6).bQ) (q:=k1) rfl TT.xj rfl rfl ⟨⟨rfl,rfl⟩,?_⟩)
   refine RQ.nil (aY ?_)
   refine QW.cond (t:=(!(((idx l0 v6).bQ).1==k1.1))) rfl zL (fun gD=>?_) (fun gD=>?_)
   ·replace h:=bT h gD
    refine rG ?_
    refine xm 20 (.own 0 (bl.map bq)) ?_
    refine xm 21 (.d (.slice (l0.map bq))) ?_
    refine xm 22 (pI v6) ?_
    obtain ⟨mR,h⟩:=bk h
    refine xs 23 rfl (bN (l:=l0) (i:=v6) rfl TT.oY dN rfl rfl mR ?_)
    refine xs 24 rfl (aC (d:= .agg (iD (idx l0 v6))) rfl TT.Dj rfl (⟨by rw [dN.len];decide,congrArg D.agg (List.take_of_length_le (by rw [dN.len];decide))⟩) ?_)
    refine xs 25 rfl (dU (en:=bq) (l:=([(idx l0 v6)]:List bt)) rfl TT.ud dN (by first | rfl | (simp only [List.map_cons,List.map_nil,yf];rfl)) rfl (by decide) (by simp [dg,cQ,aB,dK,PV.cz,cu,aF,jz,iL,jP,bV,Value.oneCell']) ?_)
    obtain ⟨lZ,h⟩:=bk h
    refine xs 26 rfl (iJ (en:=bq) (l:=bl) (l2:=([(idx l0 v6)]:List bt)) rfl TT.ud TT.nZ rfl dN rfl rfl rfl lZ (by decide) ?_)
    refine xa 5 (.own 1 ((bl++([(idx l0 v6)]:List bt)).map bq)) ?_
    refine XK.nil (gC (aY ?_))
    obtain rfl:=sO h
    exact ⟨⟨aF [(0, .d (.slice (l0.map bq))),(3, .d (.cr (k1.1.map U))),(5, .own 0 ((bl++([(idx l0 v6)]:List bt)).map bq)),(6,pI v6)],aj [.spare 33 (bl++([(idx l0 v6)]:List bt)).length],1,[]⟩,View.mk 1 [1] _ _ _ rfl rfl (by decide) (iC (iC (iC (iC trivial)))) (And.intro rfl trivial) rfl zL rfl,rfl⟩
   ·replace h:=bF h gD
    refine QW.skip zL (gC (aY ?_))
    obtain rfl:=sO h
    exact ⟨⟨aF [(0, .d (.slice (l0.map bq))),(3, .d (.cr (k1.1.map U))),(5, .own 0 (bl.map bq)),(6,pI v6)],aj [.spare 33 bl.length],1,[]⟩,View.mk 1 [0] _ _ _ rfl rfl (by decide) (iC (iC (iC (iC trivial)))) (And.intro rfl trivial) rfl zL rfl,rfl⟩
  ·rintro _ rfl
   refine rG ?_
   refine xm 11 (pI v6) ?_
   obtain ⟨mc,h⟩:=gG h
   refine xs 12 rfl (bY (a:=v6) (b:=(1:Int)) rfl rfl rfl mc ?_)
   refine xz 6 (pI (v6+(1:Int))) ?_
   exact ⟨k_1,by omega,⟨aF [(0, .d (.slice (l0.map bq))),(3, .d (.cr (k1.1.map U))),(5, .own 0 (o6.map bq)),(6,pI (v6+(1:Int)))],aj [.spare 33 o6.length],1,[]⟩,View.mk 1 [0] _ _ _ rfl rfl (by decide) (iC (iC (iC (iC trivial)))) (And.intro rfl trivial) rfl zL rfl,o6,(v6+(1:Int)),by omega,jG h,rfl⟩
 ·replace h:=eY h cv
  refine QW.exit zL (eA (eA (jY (aY ?_))))
  refine sR ?_
  refine xm 27 (.own 0 (bl.map bq)) ?_
  refine xz 4 (.own 0 (bl.map bq)) ?_
  refine QW.ret zL ?_
  obtain rfl:=sG h
  exact Ends.one (.inr rfl) rfl (aG.tmp rfl) rfl rfl
inductive r5 where
 | S
 | L1 (bl:(List bt)) (v6:Int)
noncomputable def iu (l0:(List bt)) (k1:(aE 32 UInt8)):r5→Option (r5⊕(List bt))
 | .S=>
  some (.inl (.L1 ([]:(List bt)) (0)))
 | .L1 bl v6=>
  (bif (decide (v6<(l0.length:Int))) then
  ((gO (0≤v6∧v6<(l0.length:Int)) (
  (bif (!(((idx l0 v6).bQ).1==k1.1)) then
  gO (0≤v6∧v6<(l0.length:Int)) (
  gO ((bl.length+([(idx l0 v6)]:List bt).length)*48≤140737488355328) (
  some (bl++([(idx l0 v6)]:List bt))))
  else
  some bl)):Option (List bt)).bind fun (o6:(List bt))=>
  gO (bA (v6+(1:Int))) (
  some (.inl (.L1 o6 (v6+(1:Int))))))
  else
  some (.inr bl))
noncomputable def r6 (l0:(List bt)) (k1:(aE 32 UInt8)):Option (List bt):=gU (iu l0 k1) .S
theorem Bx (l0:(List bt)) (k1:(aE 32 UInt8)) (r:(List bt)) (h:r6 l0 k1=some r):Spec Tryz.prog 10 [.d (.slice (l0.map bq)), .d (.agg (k1.1.map U))] (aj []) 0 (kF (.ret (.own 0 (r.map bq))) (aj [.spare 33 r.length]) 1):=by
 refine Spec.pE Tryz.func10 rfl (by simp [Tryz.ntmps10]) bL ?_
 rw [Tryz.ntmps10,TT.Py]
 refine QW.view (s':=⟨aF [(0, .d (.slice (l0.map bq))),(1, .d (.agg (k1.1.map U)))],aj [],0,[]⟩) (View.l8 zL (by rfl)) zL ?_
 replace h:=cG h
 obtain ⟨_,h⟩:=h
 obtain ⟨c8,rfl,h9⟩:=aQ h;replace h:=h9;clear h9;rw [iu] at h
 refine sR ?_
 refine XK.fz (some 3) rfl rfl (eJ (ds:=k1.1.map U) rfl rfl rfl rfl cA ?_)
 refine xz 4 (.full (([]:(List bt)).map bq)) ?_
 refine sR ?_
 refine xz 5 (.full (([]:(List bt)).map bq)) ?_
 refine QW.seq ?_
 refine sR ?_
 refine xz 6 (pI (0)) ?_
 refine QW.block ?_
 refine QW.loop (fun k σ=>∃ bl:(List bt),∃ v6:Int,k≤c8∧run (iu l0 k1) k (.L1 bl v6)=some r∧σ=⟨aF [(0, .d (.slice (l0.map bq))),(3, .d (.cr (k1.1.map U))),(5, .own 0 (bl.map bq)),(6,pI v6)],aj [.spare 33 bl.length],1,[]⟩) c8 zL ⟨⟨aF [(0, .d (.slice (l0.map bq))),(3, .d (.cr (k1.1.map U))),(5, .own 0 (([]:(List bt)).map bq)),(6,pI (0))],aj [.spare 33 ([]:(List bt)).length],1,[]⟩,View.trans (View.buf 5 33 rfl zL) (View.mk 1 [0] _ _ _ rfl rfl (by decide) (iC (iC (iC (iC trivial)))) (And.intro rfl trivial) rfl zL rfl),([]:(List bt)),0,Nat.le_refl _,jG h,rfl⟩ ?_
 rintro pZ _ ⟨bl,v6,p4,h,rfl⟩
 obtain ⟨k_1,rfl,h9⟩:=aQ h;replace h:=h9;clear h9;rw [iu] at h
 refine QW.seq ?_
 refine sR ?_
 refine xm 7 (pI v6) ?_
 refine xm 8 (.d (.slice (l0.map bq))) ?_
 refine xs 9 rfl (cM (en:=bq) (l:=l0) rfl TT.nZ rfl ?_)
 refine xs 10 rfl (cK (a:=v6) (b:=(l0.length:Int)) rfl rfl rfl ?_)
 refine XK.nz ?_
 refine QW.cond (t:=(decide (v6<(l0.length:Int)))) rfl zL (fun cv=>?_) (fun cv=>?_)
 ·replace h:=eX h cv
  refine QW.skip zL (aY ?_)
  obtain ⟨o6,hq,h⟩:=bG h
  refine QW.rH (fun s'=>s'=⟨aF [(0, .d (.slice (l0.map bq))),(3, .d (.cr (k1.1.map U))),(5, .own 0 (o6.map bq)),(6,pI v6)],aj [.spare 33 o6.length],1,[]⟩) ?_ ?_
  ·replace h:=hq;clear hq
   refine QW.block ?_
   refine QW.seq ?_
   refine QW.region zL (PW.kC (id:=5) dh (M:=_) rfl (by kernel_rfl) ?_)
   refine RQ.st (some 13) rfl rfl (au (v:= .d (.slice (l0.map bq))) rfl rfl ⟨⟨rfl,rfl⟩,?_⟩)
   refine RQ.st (some 14) rfl rfl (au (v:=pI v6) rfl rfl ⟨⟨rfl,rfl⟩,?_⟩)
   obtain ⟨dP,h⟩:=bk h
   refine RQ.st (some 15) rfl rfl (bN (l:=l0) (i:=v6) rfl TT.oY dN rfl rfl dP ⟨⟨rfl,rfl⟩,?_⟩)
   refine RQ.st (some 16) rfl rfl (aO rfl TT.oX (by decide) rfl ⟨⟨rfl,rfl⟩,?_⟩)
   refine RQ.st (some 17) rfl rfl (aC (d:= .agg (((idx l0 v6).bQ).1.map U)) rfl TT.iB rfl (nC _) ⟨⟨rfl,rfl⟩,?_⟩)
   refine RQ.st (some 18) rfl rfl (aC (d:= .agg (k1.1.map U)) rfl TT.iB rfl (nU (by rw [List.length_map,k1.2])) ⟨⟨rfl,rfl⟩,?_⟩)
   refine RQ.st (some 19) rfl rfl (D3 (p:=(idx l0 v6).bQ) (q:=k1) rfl TT.xj rfl rfl ⟨⟨rfl,rfl⟩,?_⟩)
   refine RQ.nil (aY ?_)
   refine QW.cond (t:=(!(((idx l0 v6).bQ).1==k1.1))) rfl zL (fun gD=>?_) (fun gD=>?_)
   ·replace h:=bT h gD
    refine rG ?_
    refine xm 20 (.own 0 (bl.map bq)) ?_
    refine xm 21 (.d (.slice (l0.map bq))) ?_
    refine xm 22 (pI v6) ?_
    obtain ⟨mR,h⟩:=bk h
    refine xs 23 rfl (bN (l:=l0) (i:=v6) rfl TT.oY dN rfl rfl mR ?_)
    refine xs 24 rfl (aC (d:= .agg (iD (idx l0 v6))) rfl TT.Dj rfl (⟨by rw [dN.len];decide,congrArg D.agg (List.take_of_length_le (by rw [dN.len];decide))⟩) ?_)
    refine xs 25 rfl (dU (en:=bq) (l:=([(idx l0 v6)]:List bt)) rfl TT.ud dN (by first | rfl | (simp only [List.map_cons,List.map_nil,yf];rfl)) rfl (by decide) (by simp [dg,cQ,aB,dK,PV.cz,cu,aF,jz,iL,jP,bV,Value.oneCell']) ?_)
    obtain ⟨lZ,h⟩:=bk h
    refine xs 26 rfl (iJ (en:=bq) (l:=bl) (l2:=([(idx l0 v6)]:List bt)) rfl TT.ud TT.nZ rfl dN rfl rfl rfl lZ (by decide) ?_)
    refine xa 5 (.own 1 ((bl++([(idx l0 v6)]:List bt)).map bq)) ?_
    refine XK.nil (gC (aY ?_))
    obtain rfl:=sO h
    exact ⟨⟨aF [(0, .d (.slice (l0.map bq))),(3, .d (.cr (k1.1.map U))),(5, .own 0 ((bl++([(idx l0 v6)]:List bt)).map bq)),(6,pI v6)],aj [.spare 33 (bl++([(idx l0 v6)]:List bt)).length],1,[]⟩,View.mk 1 [1] _ _ _ rfl rfl (by decide) (iC (iC (iC (iC trivial)))) (And.intro rfl trivial) rfl zL rfl,rfl⟩
   ·replace h:=bF h gD
    refine QW.skip zL (gC (aY ?_))
    obtain rfl:=sO h
    exact ⟨⟨aF [(0, .d (.slice (l0.map bq))),(3, .d (.cr (k1.1.map U))),(5, .own 0 (bl.map bq)),(6,pI v6)],aj [.spare 33 bl.length],1,[]⟩,View.mk 1 [0] _ _ _ rfl rfl (by decide) (iC (iC (iC (iC trivial)))) (And.intro rfl trivial) rfl zL rfl,rfl⟩
  ·rintro _ rfl
   refine rG ?_
   refine xm 11 (pI v6) ?_
   obtain ⟨mc,h⟩:=gG h
   refine xs 12 rfl (bY (a:=v6) (b:=(1:Int)) rfl rfl rfl mc ?_)
   refine xz 6 (pI (v6+(1:Int))) ?_
   exact ⟨k_1,by omega,⟨aF [(0, .d (.slice (l0.map bq))),(3, .d (.cr (k1.1.map U))),(5, .own 0 (o6.map bq)),(6,pI (v6+(1:Int)))],aj [.spare 33 o6.length],1,[]⟩,View.mk 1 [0] _ _ _ rfl rfl (by decide) (iC (iC (iC (iC trivial)))) (And.intro rfl trivial) rfl zL rfl,o6,(v6+(1:Int)),by omega,jG h,rfl⟩
 ·replace h:=eY h cv
  refine QW.exit zL (eA (eA (jY (aY ?_))))
  refine sR ?_
  refine xm 27 (.own 0 (bl.map bq)) ?_
  refine xz 4 (.own 0 (bl.map bq)) ?_
  refine QW.ret zL ?_
  obtain rfl:=sG h
  exact fY.one (s':=⟨aF [(4, .own 0 (bl.map bq))],aj [.spare 33 bl.length],1,[]⟩) (.inr rfl) (View.mk 1 [0] _ _ _ rfl rfl (by decide) (iC trivial) (And.intro rfl trivial) rfl zL rfl) rfl bL (fun i hi=>dR [.spare 33 bl.length] [] i hi) rfl (by simp [HO.bf,HO.bK,PV.bf,PV.bK,cy,bB]) (aG.tmp rfl) (by simp [PV.bf,PV.bK,cy])
noncomputable def n5 (l0:(List bt)) (x1:bt):Option (List bt):=
  ((r6 l0 (x1.bQ)).bind fun (Ed:(List bt))=>
  gO ((Ed.length+([x1]:List bt).length)*48≤140737488355328) (
  some (Ed++([x1]:List bt))))
theorem FD (l0:(List bt)) (x1:bt) (r:(List bt)) (h:n5 l0 x1=some r):bE Tryz.prog 13 [.slice (l0.map bq), .agg (iD x1)] (.slice (r.map bq)):=by
 refine bE.aU Tryz.func13 rfl (by simp [Tryz.ntmps13]) ?_
 rw [Tryz.ntmps13,TT.Wf]
 refine QW.view (s':=⟨aF [(0, .d (.slice (l0.map bq))),(1, .d (.agg (iD x1)))],aj [],0,[]⟩) (View.init (by rfl)) zL ?_
 unfold n5 at h
 refine sR ?_
 refine XK.fz (some 3) rfl rfl (eJ (ds:=iD x1) rfl rfl rfl rfl cA ?_)
 refine xz 4 (.full (([]:(List bt)).map bq)) ?_
 refine QW.seq ?_
 refine QW.region zL (PW.tN (id:=1) dh (M:=_) rfl (by kernel_rfl) ?_)
 refine RK.st (some 5) rfl rfl (au (v:= .d (.slice (l0.map bq))) rfl rfl ?_)
 refine RK.st (some 6) rfl rfl (aO rfl TT.oX (by decide) rfl ?_)
 refine RK.st (some 7) rfl rfl (aC (d:= .agg ((x1.bQ).1.map U)) rfl TT.iB rfl (nC _) ?_)
 obtain ⟨Ed,fy,h⟩:=bO h
 refine RK.so (some 8) rfl rfl (Qx (q:= .own 0 (Ed.map bq)) (H2:=cE _ 0 (some (.spare 33 Ed.length))) (lF:=1) [] rfl rfl TT.Hz (Bx l0 (x1.bQ) _ fy) rfl rfl (by decide) trivial bL (by decide) (by simp [HO.re,PV.res,PV.re,PV.bR,HO.bf,HO.bK,PV.bf,PV.bK,cy,eR,iI]) (by simp [PV.res,PV.re,PV.bf,PV.bK,iI]) rfl rfl rfl ?_)
 refine RK.st (some 9) rfl rfl (aC (d:= .agg (iD x1)) rfl TT.Dj rfl (⟨by rw [dN.len];decide,congrArg D.agg (List.take_of_length_le (by rw [dN.len];decide))⟩) ?_)
 refine RK.st (some 10) rfl rfl (dU (en:=bq) (l:=([x1]:List bt)) rfl TT.ud dN (by first | rfl | (simp only [List.map_cons,List.map_nil,yf];rfl)) rfl (by decide) (by simp [dg,cQ,aB,dK,PV.cz,cu,aF,jz,iL,jP,bV,Value.oneCell']) ?_)
 obtain ⟨lY,h⟩:=bk h
 refine RK.st (some 11) rfl rfl (iJ (en:=bq) (l:=Ed) (l2:=([x1]:List bt)) rfl TT.ud TT.nZ rfl dN rfl rfl rfl lY (by decide) ?_)
 refine RK.st (some 4) rfl rfl (cq (v:= .own 1 ((Ed++([x1]:List bt)).map bq)) rfl rfl ?_)
 refine RK.nil ⟨gl.comp (by rfl),(aY ?_)⟩
 refine QW.ret zL ?_
 obtain rfl:=sO h
 exact Ends.one (.inr rfl) rfl (aG.tmp rfl) rfl rfl
inductive Ds where
 | S
 | L1 (kL:(List In)) (v4:Int)
 | L3 (g6:(List In)) (eE:Int) (ue:Bool) (fu:Int)
 | J2 (xQ:(List In)) (ur:Int)
noncomputable def dw (l0:(List bt)):Ds→Option (Ds⊕(List In))
 | .S=>
  some (.inl (.L1 ([]:(List In)) (0)))
 | .L1 kL v4=>
  (bif (decide (v4<(l0.length:Int))) then
  gO (bA (v4+(1:Int))) (
  some (.inl (.L3 kL v4 true (v4+(1:Int)))))
  else
  some (.inr kL))
 | .L3 g6 eE ue fu=>
  (bif (decide (fu<(l0.length:Int))) then
  gO (ue=true→0≤fu∧fu<(l0.length:Int)) (
  gO (ue=true→0≤eE∧eE<(l0.length:Int)) (
  gO (bA (fu+(1:Int))) (
  some (.inl (.L3 g6 eE (ue&&(!(((idx l0 fu).bQ).1==((idx l0 eE).bQ).1))) (fu+(1:Int)))))))
  else
  (bif ue then
  gO (0≤eE∧eE<(l0.length:Int)) (
  ((xM ((idx l0 eE).bQ)).bind fun (x_11:(List UInt8))=>
  gO (0≤eE∧eE<(l0.length:Int)) (
  gO ((g6.length+([(⟨x_11,(idx l0 eE).ay⟩:In)]:List In).length)*40≤140737488355328) (
  some (.inl (.J2 (g6++([(⟨x_11,(idx l0 eE).ay⟩:In)]:List In)) eE))))))
  else
  some (.inl (.J2 g6 eE))))
 | .J2 xQ ur=>
  gO (bA (ur+(1:Int))) (
  some (.inl (.L1 xQ (ur+(1:Int)))))
noncomputable def zf (l0:(List bt)):Option (List In):=gU (dw l0) .S
theorem HD (l0:(List bt)) (r:(List In)) (h:zf l0=some r):bE Tryz.prog 16 [.slice (l0.map bq)] (.slice (r.map eN)):=by
 refine bE.aU Tryz.func16 rfl (by simp [Tryz.ntmps16]) ?_
 rw [Tryz.ntmps16,TT.Wh]
 refine QW.view (s':=⟨aF [(0, .d (.slice (l0.map bq)))],aj [],0,[]⟩) (View.init (by rfl)) zL ?_
 replace h:=cG h
 obtain ⟨_,h⟩:=h
 obtain ⟨c8,rfl,h9⟩:=aQ h;replace h:=h9;clear h9;rw [dw] at h
 refine sR ?_
 refine xz 2 (.full (([]:(List In)).map eN)) ?_
 refine sR ?_
 refine xz 3 (.full (([]:(List In)).map eN)) ?_
 refine QW.seq ?_
 refine sR ?_
 refine xz 4 (pI (0)) ?_
 refine QW.block ?_
 refine QW.loop (fun k σ=>∃ kL:(List In),∃ v4:Int,k≤c8∧run (dw l0) k (.L1 kL v4)=some r∧σ=⟨aF [(0, .d (.slice (l0.map bq))),(3, .own 0 (kL.map eN)),(4,pI v4)],aj [.spare 2 kL.length],1,[]⟩) c8 zL ⟨⟨aF [(0, .d (.slice (l0.map bq))),(3, .own 0 (([]:(List In)).map eN)),(4,pI (0))],aj [.spare 2 ([]:(List In)).length],1,[]⟩,View.trans (View.buf 3 2 rfl zL) (View.mk 1 [0] _ _ _ rfl rfl (by decide) (iC (iC (iC trivial))) (And.intro rfl trivial) rfl zL rfl),([]:(List In)),0,Nat.le_refl _,jG h,rfl⟩ ?_
 rintro pZ _ ⟨kL,v4,p4,h,rfl⟩
 obtain ⟨k_1,rfl,h9⟩:=aQ h;replace h:=h9;clear h9;rw [dw] at h
 refine QW.seq ?_
 refine sR ?_
 refine xm 7 (pI v4) ?_
 refine xm 8 (.d (.slice (l0.map bq))) ?_
 refine xs 9 rfl (cM (en:=bq) (l:=l0) rfl TT.nZ rfl ?_)
 refine xs 10 rfl (cK (a:=v4) (b:=(l0.length:Int)) rfl rfl rfl ?_)
 refine XK.nz ?_
 refine QW.cond (t:=(decide (v4<(l0.length:Int)))) rfl zL (fun cv=>?_) (fun cv=>?_)
 ·replace h:=eX h cv
  refine QW.skip zL (aY ?_)
  refine QW.rH (fun s'=>∃ xQ:(List In),∃ ur:Int,∃ k:Nat,k≤k_1∧run (dw l0) k (.J2 xQ ur)=some r∧s'=⟨aF [(0, .d (.slice (l0.map bq))),(3, .own 0 (xQ.map eN)),(4,pI ur)],aj [.spare 2 xQ.length],1,[]⟩) ?_ ?_
  ·refine QW.block ?_
   refine sR ?_
   refine xz 5 (pB true) ?_
   refine QW.seq ?_
   refine sR ?_
   refine xm 13 (pI v4) ?_
   obtain ⟨dP,h⟩:=gG h
   refine xs 14 rfl (bY (a:=v4) (b:=(1:Int)) rfl rfl rfl dP ?_)
   refine xz 6 (pI (v4+(1:Int))) ?_
   refine QW.block ?_
   refine QW.loop (fun k σ=>∃ g6:(List In),∃ eE:Int,∃ ue:Bool,∃ fu:Int,k≤k_1∧run (dw l0) k (.L3 g6 eE ue fu)=some r∧σ=⟨aF [(0, .d (.slice (l0.map bq))),(3, .own 0 (g6.map eN)),(4,pI eE),(5,pB ue),(6,pI fu)],aj [.spare 2 g6.length],1,[]⟩) k_1 zL ⟨⟨aF [(0, .d (.slice (l0.map bq))),(3, .own 0 (kL.map eN)),(4,pI v4),(5,pB true),(6,pI (v4+(1:Int)))],aj [.spare 2 kL.length],1,[]⟩,View.mk 1 [0] _ _ _ rfl rfl (by decide) (iC (iC (iC (iC (iC trivial))))) (And.intro rfl trivial) rfl zL rfl,kL,v4,true,(v4+(1:Int)),Nat.le_refl _,jG h,rfl⟩ ?_
   rintro WV _ ⟨g6,eE,ue,fu,WW,h,rfl⟩
   obtain ⟨L7,rfl,h9⟩:=aQ h;replace h:=h9;clear h9;rw [dw] at h
   refine QW.seq ?_
   refine sR ?_
   refine xm 15 (pI fu) ?_
   refine xm 16 (.d (.slice (l0.map bq))) ?_
   refine xs 17 rfl (cM (en:=bq) (l:=l0) rfl TT.nZ rfl ?_)
   refine xs 18 rfl (cK (a:=fu) (b:=(l0.length:Int)) rfl rfl rfl ?_)
   refine XK.nz ?_
   refine QW.cond (t:=(decide (fu<(l0.length:Int)))) rfl zL (fun kI=>?_) (fun kI=>?_)
   ·replace h:=eX h kI
    refine QW.skip zL (aY ?_)
    refine QW.seq ?_
    refine QW.block ?_
    refine QW.region zL (PW.kC (id:=9) dh (M:=_) rfl (by kernel_rfl) ?_)
    refine RQ.st (some 21) rfl rfl (au (v:=pB ue) rfl rfl ⟨⟨rfl,rfl⟩,?_⟩)
    refine RQ.st (some 22) rfl rfl (au (v:=pB ue) rfl rfl ⟨⟨rfl,rfl⟩,?_⟩)
    refine RQ.gd (v:= .d (.slice (l0.map bq))) (T:=[]) (some 23) rfl rfl (by repeat (first | exact trivial | refine ⟨fun q=>by first | rfl | exact q | exact jQ q | exact jZ q,?_⟩)) (fun hg=>au (v:= .d (.slice (l0.map bq))) rfl rfl g3) lf ?_
    refine RQ.gd (v:=pI fu) (T:=[]) (some 24) rfl rfl (by repeat (first | exact trivial | refine ⟨fun q=>by first | rfl | exact q | exact jQ q | exact jZ q,?_⟩)) (fun hg=>au (v:=pI fu) rfl rfl g3) lf ?_
    obtain ⟨lZ,h⟩:=gG h
    refine RQ.gd (v:= .d (.cr (iD (idx l0 fu)))) (T:=[]) (some 25) rfl rfl (by repeat (first | exact trivial | refine ⟨fun q=>by first | rfl | exact q | exact jQ q | exact jZ q,?_⟩)) (fun hg=>bN (l:=l0) (i:=fu) rfl TT.oY dN rfl rfl (lZ (Fo hg)) g3) lf ?_
    refine RQ.gd (v:= .d (.cr ((iD (idx l0 fu)).drop 0))) (T:=[]) (some 26) rfl rfl (by repeat (first | exact trivial | refine ⟨fun q=>by first | rfl | exact q | exact jQ q | exact jZ q,?_⟩)) (fun hg=>aO rfl TT.oX (by decide) rfl g3) lf ?_
    refine RQ.gd (v:= .d (.agg (((idx l0 fu).bQ).1.map U))) (T:=[]) (some 27) rfl rfl (by repeat (first | exact trivial | refine ⟨fun q=>by first | rfl | exact q | exact jQ q | exact jZ q,?_⟩)) (fun hg=>aC (d:= .agg (((idx l0 fu).bQ).1.map U)) rfl TT.iB rfl (nC _) g3) lf ?_
    refine RQ.gd (v:= .d (.slice (l0.map bq))) (T:=[]) (some 28) rfl rfl (by repeat (first | exact trivial | refine ⟨fun q=>by first | rfl | exact q | exact jQ q | exact jZ q,?_⟩)) (fun hg=>au (v:= .d (.slice (l0.map bq))) rfl rfl g3) lf ?_
    refine RQ.gd (v:=pI eE) (T:=[]) (some 29) rfl rfl (by repeat (first | exact trivial | refine ⟨fun q=>by first | rfl | exact q | exact jQ q | exact jZ q,?_⟩)) (fun hg=>au (v:=pI eE) rfl rfl g3) lf ?_
    obtain ⟨mc,h⟩:=gG h
    refine RQ.gd (v:= .d (.cr (iD (idx l0 eE)))) (T:=[]) (some 30) rfl rfl (by repeat (first | exact trivial | refine ⟨fun q=>by first | rfl | exact q | exact jQ q | exact jZ q,?_⟩)) (fun hg=>bN (l:=l0) (i:=eE) rfl TT.oY dN rfl rfl (mc (Fo hg)) g3) lf ?_
    refine RQ.gd (v:= .d (.cr ((iD (idx l0 eE)).drop 0))) (T:=[]) (some 31) rfl rfl (by repeat (first | exact trivial | refine ⟨fun q=>by first | rfl | exact q | exact jQ q | exact jZ q,?_⟩)) (fun hg=>aO rfl TT.oX (by decide) rfl g3) lf ?_
    refine RQ.gd (v:= .d (.agg (((idx l0 eE).bQ).1.map U))) (T:=[]) (some 32) rfl rfl (by repeat (first | exact trivial | refine ⟨fun q=>by first | rfl | exact q | exact jQ q | exact jZ q,?_⟩)) (fun hg=>aC (d:= .agg (((idx l0 eE).bQ).1.map U)) rfl TT.iB rfl (nC _) g3) lf ?_
    refine RQ.gd (v:=pB (!(((idx l0 fu).bQ).1==((idx l0 eE).bQ).1))) (T:=[]) (some 33) rfl rfl (by repeat (first | exact trivial | refine ⟨fun q=>by first | rfl | exact q | exact jQ q | exact jZ q,?_⟩)) (fun hg=>D3 (p:=(idx l0 fu).bQ) (q:=(idx l0 eE).bQ) rfl TT.xj rfl rfl g3) lf ?_
    refine RQ.st (some 34) rfl rfl (gK rfl rfl rfl rfl (fun hb=>by rw [hb];rfl) (fun _=>rfl) ⟨⟨rfl,rfl⟩,?_⟩)
    refine RQ.st (some 5) rfl rfl (cq (v:=pB (ue&&(!(((idx l0 fu).bQ).1==((idx l0 eE).bQ).1)))) rfl rfl ⟨⟨rfl,rfl⟩,?_⟩)
    refine RQ.nil (gC (aY ?_))
    refine QW.view (s':=⟨aF [(0, .d (.slice (l0.map bq))),(3, .own 0 (g6.map eN)),(4,pI eE),(5,pB (ue&&(!(((idx l0 fu).bQ).1==((idx l0 eE).bQ).1)))),(6,pI fu)],aj [.spare 2 g6.length],1,[]⟩) (View.mk 1 [0] _ _ _ rfl rfl (by decide) (iC (iC (iC (iC (iC trivial))))) (And.intro rfl trivial) rfl zL rfl) zL ?_
    refine rG ?_
    refine xm 19 (pI fu) ?_
    obtain ⟨rM,h⟩:=gG h
    refine xs 20 rfl (bY (a:=fu) (b:=(1:Int)) rfl rfl rfl rM ?_)
    refine xz 6 (pI (fu+(1:Int))) ?_
    exact ⟨L7,by omega,⟨aF [(0, .d (.slice (l0.map bq))),(3, .own 0 (g6.map eN)),(4,pI eE),(5,pB (ue&&(!(((idx l0 fu).bQ).1==((idx l0 eE).bQ).1)))),(6,pI (fu+(1:Int)))],aj [.spare 2 g6.length],1,[]⟩,View.mk 1 [0] _ _ _ rfl rfl (by decide) (iC (iC (iC (iC (iC trivial))))) (And.intro rfl trivial) rfl zL rfl,g6,eE,(ue&&(!(((idx l0 fu).bQ).1==((idx l0 eE).bQ).1))),(fu+(1:Int)),by omega,jG h,rfl⟩
   ·replace h:=eY h kI
    refine QW.exit zL (eA (eA (jY (aY ?_))))
    refine sR ?_
    refine xm 35 (pB ue) ?_
    refine XK.nz ?_
    refine QW.cond (t:=ue) rfl zL (fun oU=>?_) (fun oU=>?_)
    ·replace h:=eX h oU
     refine QW.region zL (PW.tN (id:=11) dh (M:=_) rfl (by kernel_rfl) ?_)
     refine RK.st (some 36) rfl rfl (au (v:= .own 0 (g6.map eN)) rfl rfl ?_)
     refine RK.st (some 37) rfl rfl (au (v:= .d (.slice (l0.map bq))) rfl rfl ?_)
     refine RK.st (some 38) rfl rfl (au (v:=pI eE) rfl rfl ?_)
     obtain ⟨oq,h⟩:=gG h
     refine RK.st (some 39) rfl rfl (bN (l:=l0) (i:=eE) rfl TT.oY dN rfl rfl oq ?_)
     refine RK.st (some 40) rfl rfl (aO rfl TT.oX (by decide) rfl ?_)
     refine RK.st (some 41) rfl rfl (aC (d:= .agg (((idx l0 eE).bQ).1.map U)) rfl TT.iB rfl (nC _) ?_)
     obtain ⟨x_11,pR,h⟩:=bG h
     refine RK.st (some 42) rfl rfl (aA rfl rfl TT.OI rfl (Fx ((idx l0 eE).bQ) _ pR) ?_)
     refine RK.st (some 43) rfl rfl (au (v:= .d (.slice (l0.map bq))) rfl rfl ?_)
     refine RK.st (some 44) rfl rfl (au (v:=pI eE) rfl rfl ?_)
     obtain ⟨nE,h⟩:=gG h
     refine RK.st (some 45) rfl rfl (bN (l:=l0) (i:=eE) rfl TT.oY dN rfl rfl nE ?_)
     refine RK.st (some 46) rfl rfl (aO rfl TT.Cr (by decide) rfl ?_)
     refine RK.st (some 47) rfl rfl (aC (d:= .val (sV ((idx l0 eE).ay))) rfl TT.fF rfl (Af _) ?_)
     refine RK.st (some 48) rfl rfl (fk (v:= .agg [.d (.slice (x_11.map U)),pS ((idx l0 eE).ay)]) rfl TT.Mr (dM rfl (cx (cells':=[.d (.slice (x_11.map U)),pS ([]:List UInt8)]) rfl rfl rfl bL rfl (cx (cells':=[.d (.slice (x_11.map U)),pS ((idx l0 eE).ay)]) rfl rfl rfl bL rfl dL))) ?_)
     refine RK.st (some 49) rfl rfl (dU (en:=eN) (l:=([(⟨x_11,(idx l0 eE).ay⟩:In)]:List In)) rfl TT.yx m4 (by first | rfl | (simp only [List.map_cons,List.map_nil,KA];rfl)) rfl (by decide) (by simp [dg,cQ,aB,dK,PV.cz,cu,aF,jz,iL,jP,bV,Value.oneCell']) ?_)
     obtain ⟨rL,h⟩:=gG h
     refine RK.st (some 50) rfl rfl (iJ (en:=eN) (l:=g6) (l2:=([(⟨x_11,(idx l0 eE).ay⟩:In)]:List In)) rfl TT.yx TT.rA rfl m4 rfl rfl rfl rL (by decide) ?_)
     refine RK.st (some 3) rfl rfl (cq (v:= .own 1 ((g6++([(⟨x_11,(idx l0 eE).ay⟩:In)]:List In)).map eN)) rfl rfl ?_)
     refine RK.nil ⟨gl.last 14 (by simp) (by simp) (by rfl),(gC (aY ?_))⟩
     exact ⟨⟨aF [(0, .d (.slice (l0.map bq))),(3, .own 0 ((g6++([(⟨x_11,(idx l0 eE).ay⟩:In)]:List In)).map eN)),(4,pI eE)],aj [.spare 2 (g6++([(⟨x_11,(idx l0 eE).ay⟩:In)]:List In)).length],1,[]⟩,View.mk 1 [1] _ _ _ rfl rfl (by decide) (iC (iC (iC trivial))) (And.intro rfl trivial) rfl zL rfl,(g6++([(⟨x_11,(idx l0 eE).ay⟩:In)]:List In)),eE,L7,by omega,jG h,rfl⟩
    ·replace h:=eY h oU
     refine QW.skip zL (gC (aY ?_))
     exact ⟨⟨aF [(0, .d (.slice (l0.map bq))),(3, .own 0 (g6.map eN)),(4,pI eE)],aj [.spare 2 g6.length],1,[]⟩,View.mk 1 [0] _ _ _ rfl rfl (by decide) (iC (iC (iC trivial))) (And.intro rfl trivial) rfl zL rfl,g6,eE,L7,by omega,jG h,rfl⟩
  ·rintro _ ⟨xQ,ur,abj,abk,h,rfl⟩
   obtain ⟨ZO,rfl,h9⟩:=aQ h;replace h:=h9;clear h9;rw [dw] at h
   refine rG ?_
   refine xm 11 (pI ur) ?_
   obtain ⟨oP,h⟩:=gG h
   refine xs 12 rfl (bY (a:=ur) (b:=(1:Int)) rfl rfl rfl oP ?_)
   refine xz 4 (pI (ur+(1:Int))) ?_
   exact ⟨ZO,by omega,⟨aF [(0, .d (.slice (l0.map bq))),(3, .own 0 (xQ.map eN)),(4,pI (ur+(1:Int)))],aj [.spare 2 xQ.length],1,[]⟩,View.mk 1 [0] _ _ _ rfl rfl (by decide) (iC (iC (iC trivial))) (And.intro rfl trivial) rfl zL rfl,xQ,(ur+(1:Int)),by omega,jG h,rfl⟩
 ·replace h:=eY h cv
  refine QW.exit zL (eA (eA (jY (aY ?_))))
  refine sR ?_
  refine xm 51 (.own 0 (kL.map eN)) ?_
  refine xz 2 (.own 0 (kL.map eN)) ?_
  refine QW.ret zL ?_
  obtain rfl:=sG h
  exact Ends.one (.inr rfl) rfl (aG.tmp rfl) rfl rfl
inductive uu where
 | S
 | L1 (v3:Int) (v4:Int)
noncomputable def jr (l0:(List In)):uu→Option (uu⊕Int)
 | .S=>
  gO (0≤(0:Int)∧(0:Int)<(l0.length:Int)) (
  some (.inl (.L1 (((idx l0 (0:Int)).az).length:Int) (1))))
 | .L1 v3 v4=>
  (bif (decide (v4<(l0.length:Int))) then
  gO (0≤(0:Int)∧(0:Int)<(l0.length:Int)) (
  gO (0≤v4∧v4<(l0.length:Int)) (
  ((uo ((idx l0 (0:Int)).az) ((idx l0 v4).az)).bind fun (x_6:Int)=>
  ((rZ v3 x_6).bind fun (x_8:Int)=>
  gO (bA (v4+(1:Int))) (
  some (.inl (.L1 x_8 (v4+(1:Int)))))))))
  else
  some (.inr v3))
noncomputable def uv (l0:(List In)):Option Int:=gU (jr l0) .S
theorem Dt (l0:(List In)) (r:Int) (h:uv l0=some r):bE Tryz.prog 56 [.slice (l0.map eN)] (.val (.int .i64 r)):=by
 refine bE.aU Tryz.func56 rfl (by simp [Tryz.ntmps56]) ?_
 rw [Tryz.ntmps56,TT.Wj]
 refine QW.view (s':=⟨aF [(0, .d (.slice (l0.map eN)))],aj [],0,[]⟩) (View.init (by rfl)) zL ?_
 replace h:=cG h
 obtain ⟨_,h⟩:=h
 obtain ⟨c8,rfl,h9⟩:=aQ h;replace h:=h9;clear h9;rw [jr] at h
 refine sR ?_
 refine xz 2 (pI (0)) ?_
 refine sR ?_
 refine xm 5 (.d (.slice (l0.map eN))) ?_
 obtain ⟨nM,h⟩:=gG h
 refine xs 6 rfl (bN (l:=l0) (i:=(0:Int)) rfl TT.qd m4 rfl rfl nM ?_)
 refine xs 7 rfl (aO rfl TT.qK (by decide) rfl ?_)
 refine xs 8 rfl (aC (d:= .slice (((idx l0 (0:Int)).az).map U)) rfl TT.fB rfl (di.one) ?_)
 refine xs 9 rfl (cM (en:=U) (l:=(idx l0 (0:Int)).az) rfl TT.bC rfl ?_)
 refine xz 3 (pI (((idx l0 (0:Int)).az).length:Int)) ?_
 refine QW.seq ?_
 refine sR ?_
 refine xz 4 (pI (1)) ?_
 refine QW.block ?_
 refine QW.loop (fun k σ=>∃ v3:Int,∃ v4:Int,k≤c8∧run (jr l0) k (.L1 v3 v4)=some r∧σ=⟨aF [(0, .d (.slice (l0.map eN))),(3,pI v3),(4,pI v4)],aj [],0,[]⟩) c8 zL ⟨⟨aF [(0, .d (.slice (l0.map eN))),(3,pI (((idx l0 (0:Int)).az).length:Int)),(4,pI (1))],aj [],0,[]⟩,View.mk 0 [] _ _ _ rfl rfl (by decide) (iC (iC (iC trivial))) trivial rfl zL rfl,(((idx l0 (0:Int)).az).length:Int),1,Nat.le_refl _,jG h,rfl⟩ ?_
 rintro S9 _ ⟨v3,v4,Ta,h,rfl⟩
 obtain ⟨k_2,rfl,h9⟩:=aQ h;replace h:=h9;clear h9;rw [jr] at h
 refine QW.seq ?_
 refine sR ?_
 refine xm 10 (pI v4) ?_
 refine xm 11 (.d (.slice (l0.map eN))) ?_
 refine xs 12 rfl (cM (en:=eN) (l:=l0) rfl TT.rA rfl ?_)
 refine xs 13 rfl (cK (a:=v4) (b:=(l0.length:Int)) rfl rfl rfl ?_)
 refine XK.nz ?_
 refine QW.cond (t:=(decide (v4<(l0.length:Int)))) rfl zL (fun dW=>?_) (fun dW=>?_)
 ·replace h:=eX h dW
  refine QW.skip zL (aY ?_)
  refine QW.seq ?_
  refine QW.block ?_
  refine QW.region zL (PW.kC (id:=5) dh (M:=_) rfl (by kernel_rfl) ?_)
  refine RQ.st (some 16) rfl rfl (au (v:=pI v3) rfl rfl ⟨⟨rfl,rfl⟩,?_⟩)
  refine RQ.st (some 17) rfl rfl (au (v:= .d (.slice (l0.map eN))) rfl rfl ⟨⟨rfl,rfl⟩,?_⟩)
  obtain ⟨lY,h⟩:=gG h
  refine RQ.st (some 18) rfl rfl (bN (l:=l0) (i:=(0:Int)) rfl TT.qd m4 rfl rfl lY ⟨⟨rfl,rfl⟩,?_⟩)
  refine RQ.st (some 19) rfl rfl (aO rfl TT.qK (by decide) rfl ⟨⟨rfl,rfl⟩,?_⟩)
  refine RQ.st (some 20) rfl rfl (aC (d:= .slice (((idx l0 (0:Int)).az).map U)) rfl TT.fB rfl (di.one) ⟨⟨rfl,rfl⟩,?_⟩)
  refine RQ.st (some 21) rfl rfl (au (v:= .d (.slice (l0.map eN))) rfl rfl ⟨⟨rfl,rfl⟩,?_⟩)
  refine RQ.st (some 22) rfl rfl (au (v:=pI v4) rfl rfl ⟨⟨rfl,rfl⟩,?_⟩)
  obtain ⟨mR,h⟩:=gG h
  refine RQ.st (some 23) rfl rfl (bN (l:=l0) (i:=v4) rfl TT.qd m4 rfl rfl mR ⟨⟨rfl,rfl⟩,?_⟩)
  refine RQ.st (some 24) rfl rfl (aO rfl TT.qK (by decide) rfl ⟨⟨rfl,rfl⟩,?_⟩)
  refine RQ.st (some 25) rfl rfl (aC (d:= .slice (((idx l0 v4).az).map U)) rfl TT.fB rfl (di.one) ⟨⟨rfl,rfl⟩,?_⟩)
  obtain ⟨x_6,ym,h⟩:=bG h
  refine RQ.st (some 26) rfl rfl (aA rfl rfl TT.OM rfl (Dl ((idx l0 (0:Int)).az) ((idx l0 v4).az) _ ym) ⟨⟨rfl,rfl⟩,?_⟩)
  obtain ⟨x_8,Am,h⟩:=bG h
  refine RQ.st (some 27) rfl rfl (aA rfl rfl TT.OL rfl (Hi v3 x_6 _ Am) ⟨⟨rfl,rfl⟩,?_⟩)
  refine RQ.st (some 3) rfl rfl (cq (v:=pI x_8) rfl rfl ⟨⟨rfl,rfl⟩,?_⟩)
  refine RQ.nil (gC (aY ?_))
  refine rG ?_
  refine xm 14 (pI v4) ?_
  obtain ⟨oq,h⟩:=gG h
  refine xs 15 rfl (bY (a:=v4) (b:=(1:Int)) rfl rfl rfl oq ?_)
  refine xz 4 (pI (v4+(1:Int))) ?_
  exact ⟨k_2,by omega,⟨aF [(0, .d (.slice (l0.map eN))),(3,pI x_8),(4,pI (v4+(1:Int)))],aj [],0,[]⟩,View.mk 0 [] _ _ _ rfl rfl (by decide) (iC (iC (iC trivial))) trivial rfl zL rfl,x_8,(v4+(1:Int)),by omega,jG h,rfl⟩
 ·replace h:=eY h dW
  refine QW.exit zL (eA (eA (jY (aY ?_))))
  refine sR ?_
  refine xm 28 (pI v3) ?_
  refine xz 2 (pI v3) ?_
  refine QW.ret zL ?_
  obtain rfl:=sG h
  exact Ends.one (.inr rfl) rfl (aG.tmp rfl) rfl rfl
inductive xR where
 | S
 | L1 (v5:(List In)) (v6:Int)
noncomputable def kj (l0:(List In)) (n1:Int):xR→Option (xR⊕(List In))
 | .S=>
  some (.inl (.L1 ([]:(List In)) (0)))
 | .L1 v5 v6=>
  (bif (decide (v6<(l0.length:Int))) then
  gO (0≤v6∧v6<(l0.length:Int)) (
  gO (0≤n1∧n1≤(((idx l0 v6).az).length:Int)∧(((idx l0 v6).az).length:Int)≤(((idx l0 v6).az).length:Int)) (
  gO (0≤v6∧v6<(l0.length:Int)) (
  gO ((v5.length+([(⟨(sub ((idx l0 v6).az) n1 (((idx l0 v6).az).length:Int)),(idx l0 v6).ay⟩:In)]:List In).length)*40≤140737488355328) (
  gO (bA (v6+(1:Int))) (
  some (.inl (.L1 (v5++([(⟨(sub ((idx l0 v6).az) n1 (((idx l0 v6).az).length:Int)),(idx l0 v6).ay⟩:In)]:List In)) (v6+(1:Int)))))))))
  else
  some (.inr v5))
noncomputable def tC (l0:(List In)) (n1:Int):Option (List In):=gU (kj l0 n1) .S
theorem zK (l0:(List In)) (n1:Int) (r:(List In)) (h:tC l0 n1=some r):bE Tryz.prog 57 [.slice (l0.map eN), .val (.int .i64 n1)] (.slice (r.map eN)):=by
 refine bE.aU Tryz.func57 rfl (by simp [Tryz.ntmps57]) ?_
 rw [Tryz.ntmps57,TT.Wl]
 refine QW.view (s':=⟨aF [(0, .d (.slice (l0.map eN))),(1,pI n1)],aj [],0,[]⟩) (View.init (by rfl)) zL ?_
 replace h:=cG h
 obtain ⟨_,h⟩:=h
 obtain ⟨c8,rfl,h9⟩:=aQ h;replace h:=h9;clear h9;rw [kj] at h
 refine sR ?_
 refine xz 4 (.full (([]:(List In)).map eN)) ?_
 refine sR ?_
 refine xz 5 (.full (([]:(List In)).map eN)) ?_
 refine QW.seq ?_
 refine sR ?_
 refine xz 6 (pI (0)) ?_
 refine QW.block ?_
 refine QW.loop (fun k σ=>∃ v5:(List In),∃ v6:Int,k≤c8∧run (kj l0 n1) k (.L1 v5 v6)=some r∧σ=⟨aF [(0, .d (.slice (l0.map eN))),(1,pI n1),(5, .own 0 (v5.map eN)),(6,pI v6)],aj [.spare 2 v5.length],1,[]⟩) c8 zL ⟨⟨aF [(0, .d (.slice (l0.map eN))),(1,pI n1),(5, .own 0 (([]:(List In)).map eN)),(6,pI (0))],aj [.spare 2 ([]:(List In)).length],1,[]⟩,View.trans (View.buf 5 2 rfl zL) (View.mk 1 [0] _ _ _ rfl rfl (by decide) (iC (iC (iC (iC trivial)))) (And.intro rfl trivial) rfl zL rfl),([]:(List In)),0,Nat.le_refl _,jG h,rfl⟩ ?_
 rintro pZ _ ⟨v5,v6,p4,h,rfl⟩
 obtain ⟨k_1,rfl,h9⟩:=aQ h;replace h:=h9;clear h9;rw [kj] at h
 refine QW.seq ?_
 refine sR ?_
 refine xm 7 (pI v6) ?_
 refine xm 8 (.d (.slice (l0.map eN))) ?_
 refine xs 9 rfl (cM (en:=eN) (l:=l0) rfl TT.rA rfl ?_)
 refine xs 10 rfl (cK (a:=v6) (b:=(l0.length:Int)) rfl rfl rfl ?_)
 refine XK.nz ?_
 refine QW.cond (t:=(decide (v6<(l0.length:Int)))) rfl zL (fun cv=>?_) (fun cv=>?_)
 ·replace h:=eX h cv
  refine QW.skip zL (aY ?_)
  refine QW.seq ?_
  refine QW.block ?_
  refine QW.region zL (PW.tN (id:=5) dh (M:=_) rfl (by kernel_rfl) ?_)
  refine RK.st (some 13) rfl rfl (au (v:= .own 0 (v5.map eN)) rfl rfl ?_)
  refine RK.st (some 14) rfl rfl (au (v:= .d (.slice (l0.map eN))) rfl rfl ?_)
  refine RK.st (some 15) rfl rfl (au (v:=pI v6) rfl rfl ?_)
  obtain ⟨dP,h⟩:=gG h
  refine RK.st (some 16) rfl rfl (bN (l:=l0) (i:=v6) rfl TT.qd m4 rfl rfl dP ?_)
  refine RK.st (some 17) rfl rfl (aO rfl TT.qK (by decide) rfl ?_)
  refine RK.st (some 18) rfl rfl (aC (d:= .slice (((idx l0 v6).az).map U)) rfl TT.fB rfl (di.one) ?_)
  refine RK.st (some 19) rfl rfl (au (v:=pI n1) rfl rfl ?_)
  obtain ⟨lY,h⟩:=gG h
  refine RK.st (some 20) rfl rfl (nS (l:=(idx l0 v6).az) (a:=n1) (b:=(((idx l0 v6).az).length:Int)) rfl TT.bC TT.eD bH rfl rfl rfl lY ?_)
  refine RK.st (some 21) rfl rfl (au (v:= .d (.slice (l0.map eN))) rfl rfl ?_)
  refine RK.st (some 22) rfl rfl (au (v:=pI v6) rfl rfl ?_)
  obtain ⟨mR,h⟩:=gG h
  refine RK.st (some 23) rfl rfl (bN (l:=l0) (i:=v6) rfl TT.qd m4 rfl rfl mR ?_)
  refine RK.st (some 24) rfl rfl (aO rfl TT.HC (by decide) rfl ?_)
  refine RK.st (some 25) rfl rfl (aC (d:= .val (sV ((idx l0 v6).ay))) rfl TT.fF rfl (di.one) ?_)
  refine RK.st (some 26) rfl rfl (fk (v:= .agg [.d (.slice ((sub ((idx l0 v6).az) n1 (((idx l0 v6).az).length:Int)).map U)),pS ((idx l0 v6).ay)]) rfl TT.Mr (dM rfl (cx (cells':=[.d (.slice ((sub ((idx l0 v6).az) n1 (((idx l0 v6).az).length:Int)).map U)),pS ([]:List UInt8)]) rfl rfl rfl bL rfl (cx (cells':=[.d (.slice ((sub ((idx l0 v6).az) n1 (((idx l0 v6).az).length:Int)).map U)),pS ((idx l0 v6).ay)]) rfl rfl rfl bL rfl dL))) ?_)
  refine RK.st (some 27) rfl rfl (dU (en:=eN) (l:=([(⟨(sub ((idx l0 v6).az) n1 (((idx l0 v6).az).length:Int)),(idx l0 v6).ay⟩:In)]:List In)) rfl TT.yx m4 (by first | rfl | (simp only [List.map_cons,List.map_nil,KA];rfl)) rfl (by decide) (by simp [dg,cQ,aB,dK,PV.cz,cu,aF,jz,iL,jP,bV,Value.oneCell']) ?_)
  obtain ⟨lZ,h⟩:=gG h
  refine RK.st (some 28) rfl rfl (iJ (en:=eN) (l:=v5) (l2:=([(⟨(sub ((idx l0 v6).az) n1 (((idx l0 v6).az).length:Int)),(idx l0 v6).ay⟩:In)]:List In)) rfl TT.yx TT.rA rfl m4 rfl rfl rfl lZ (by decide) ?_)
  refine RK.st (some 5) rfl rfl (cq (v:= .own 1 ((v5++([(⟨(sub ((idx l0 v6).az) n1 (((idx l0 v6).az).length:Int)),(idx l0 v6).ay⟩:In)]:List In)).map eN)) rfl rfl ?_)
  refine RK.nil ⟨gl.last 15 (by simp) (by simp) (by rfl),(gC (aY ?_))⟩
  refine QW.view (s':=⟨aF [(0, .d (.slice (l0.map eN))),(1,pI n1),(5, .own 0 ((v5++([(⟨(sub ((idx l0 v6).az) n1 (((idx l0 v6).az).length:Int)),(idx l0 v6).ay⟩:In)]:List In)).map eN)),(6,pI v6)],aj [.spare 2 (v5++([(⟨(sub ((idx l0 v6).az) n1 (((idx l0 v6).az).length:Int)),(idx l0 v6).ay⟩:In)]:List In)).length],1,[]⟩) (View.mk 1 [1] _ _ _ rfl rfl (by decide) (iC (iC (iC (iC trivial)))) (And.intro rfl trivial) rfl zL rfl) zL ?_
  refine rG ?_
  refine xm 11 (pI v6) ?_
  obtain ⟨mc,h⟩:=gG h
  refine xs 12 rfl (bY (a:=v6) (b:=(1:Int)) rfl rfl rfl mc ?_)
  refine xz 6 (pI (v6+(1:Int))) ?_
  exact ⟨k_1,by omega,⟨aF [(0, .d (.slice (l0.map eN))),(1,pI n1),(5, .own 0 ((v5++([(⟨(sub ((idx l0 v6).az) n1 (((idx l0 v6).az).length:Int)),(idx l0 v6).ay⟩:In)]:List In)).map eN)),(6,pI (v6+(1:Int)))],aj [.spare 2 (v5++([(⟨(sub ((idx l0 v6).az) n1 (((idx l0 v6).az).length:Int)),(idx l0 v6).ay⟩:In)]:List In)).length],1,[]⟩,View.mk 1 [0] _ _ _ rfl rfl (by decide) (iC (iC (iC (iC trivial)))) (And.intro rfl trivial) rfl zL rfl,(v5++([(⟨(sub ((idx l0 v6).az) n1 (((idx l0 v6).az).length:Int)),(idx l0 v6).ay⟩:In)]:List In)),(v6+(1:Int)),by omega,jG h,rfl⟩
 ·replace h:=eY h cv
  refine QW.exit zL (eA (eA (jY (aY ?_))))
  refine sR ?_
  refine xm 29 (.own 0 (v5.map eN)) ?_
  refine xz 4 (.own 0 (v5.map eN)) ?_
  refine QW.ret zL ?_
  obtain rfl:=sG h
  exact Ends.one (.inr rfl) rfl (aG.tmp rfl) rfl rfl
inductive r7 where
 | S
 | L1 (bl:(List In)) (v6:Int)
noncomputable def jL (l0:(List In)) (c1:Int):r7→Option (r7⊕(List In))
 | .S=>
  some (.inl (.L1 ([]:(List In)) (0)))
 | .L1 bl v6=>
  (bif (decide (v6<(l0.length:Int))) then
  ((gO (0≤v6∧v6<(l0.length:Int)) (
  gO (0≤(0:Int)∧(0:Int)<(((idx l0 v6).az).length:Int)) (
  (bif (decide (((idx ((idx l0 v6).az) (0:Int)).toNat:Int)=c1)) then
  gO (0≤v6∧v6<(l0.length:Int)) (
  gO ((bl.length+([(idx l0 v6)]:List In).length)*40≤140737488355328) (
  some (bl++([(idx l0 v6)]:List In))))
  else
  some bl))):Option (List In)).bind fun (o6:(List In))=>
  gO (bA (v6+(1:Int))) (
  some (.inl (.L1 o6 (v6+(1:Int))))))
  else
  some (.inr bl))
noncomputable def wk (l0:(List In)) (c1:Int):Option (List In):=gU (jL l0 c1) .S
theorem Ej (l0:(List In)) (c1:Int) (r:(List In)) (h:wk l0 c1=some r):bE Tryz.prog 58 [.slice (l0.map eN), .val (.int .i64 c1)] (.slice (r.map eN)):=by
 refine bE.aU Tryz.func58 rfl (by simp [Tryz.ntmps58]) ?_
 rw [Tryz.ntmps58,TT.Wm]
 refine QW.view (s':=⟨aF [(0, .d (.slice (l0.map eN))),(1,pI c1)],aj [],0,[]⟩) (View.init (by rfl)) zL ?_
 replace h:=cG h
 obtain ⟨_,h⟩:=h
 obtain ⟨c8,rfl,h9⟩:=aQ h;replace h:=h9;clear h9;rw [jL] at h
 refine sR ?_
 refine xz 4 (.full (([]:(List In)).map eN)) ?_
 refine sR ?_
 refine xz 5 (.full (([]:(List In)).map eN)) ?_
 refine QW.seq ?_
 refine sR ?_
 refine xz 6 (pI (0)) ?_
 refine QW.block ?_
 refine QW.loop (fun k σ=>∃ bl:(List In),∃ v6:Int,k≤c8∧run (jL l0 c1) k (.L1 bl v6)=some r∧σ=⟨aF [(0, .d (.slice (l0.map eN))),(1,pI c1),(5, .own 0 (bl.map eN)),(6,pI v6)],aj [.spare 2 bl.length],1,[]⟩) c8 zL ⟨⟨aF [(0, .d (.slice (l0.map eN))),(1,pI c1),(5, .own 0 (([]:(List In)).map eN)),(6,pI (0))],aj [.spare 2 ([]:(List In)).length],1,[]⟩,View.trans (View.buf 5 2 rfl zL) (View.mk 1 [0] _ _ _ rfl rfl (by decide) (iC (iC (iC (iC trivial)))) (And.intro rfl trivial) rfl zL rfl),([]:(List In)),0,Nat.le_refl _,jG h,rfl⟩ ?_
 rintro pZ _ ⟨bl,v6,p4,h,rfl⟩
 obtain ⟨k_1,rfl,h9⟩:=aQ h;replace h:=h9;clear h9;rw [jL] at h
 refine QW.seq ?_
 refine sR ?_
 refine xm 7 (pI v6) ?_
 refine xm 8 (.d (.slice (l0.map eN))) ?_
 refine xs 9 rfl (cM (en:=eN) (l:=l0) rfl TT.rA rfl ?_)
 refine xs 10 rfl (cK (a:=v6) (b:=(l0.length:Int)) rfl rfl rfl ?_)
 refine XK.nz ?_
 refine QW.cond (t:=(decide (v6<(l0.length:Int)))) rfl zL (fun cv=>?_) (fun cv=>?_)
 ·replace h:=eX h cv
  refine QW.skip zL (aY ?_)
  obtain ⟨o6,hq,h⟩:=bG h
  refine QW.rH (fun s'=>s'=⟨aF [(0, .d (.slice (l0.map eN))),(1,pI c1),(5, .own 0 (o6.map eN)),(6,pI v6)],aj [.spare 2 o6.length],1,[]⟩) ?_ ?_
  ·replace h:=hq;clear hq
   refine QW.block ?_
   refine sR ?_
   refine xm 13 (.d (.slice (l0.map eN))) ?_
   refine xm 14 (pI v6) ?_
   obtain ⟨dP,h⟩:=bk h
   refine xs 15 rfl (bN (l:=l0) (i:=v6) rfl TT.qd m4 rfl rfl dP ?_)
   refine xs 16 rfl (aO rfl TT.qK (by decide) rfl ?_)
   refine xs 17 rfl (aC (d:= .slice (((idx l0 v6).az).map U)) rfl TT.fB rfl (di.one) ?_)
   obtain ⟨lY,h⟩:=bk h
   refine xs 18 rfl (bN (l:=(idx l0 v6).az) (i:=(0:Int)) rfl TT.eD bH rfl rfl lY ?_)
   refine xs 19 rfl (aC (d:= .val (.int .u8 ((idx ((idx l0 v6).az) (0:Int)).toNat:Int))) rfl TT.kG rfl (di.one) ?_)
   refine xs 20 rfl (C4 (n:=((idx ((idx l0 v6).az) (0:Int)).toNat:Int)) rfl TT.dV TT.kY rfl (C6 _) ?_)
   refine xm 21 (pI c1) ?_
   refine xs 22 rfl (ej (a:=((idx ((idx l0 v6).az) (0:Int)).toNat:Int)) (b:=c1) rfl rfl rfl ?_)
   refine XK.nz ?_
   refine QW.cond (t:=(decide (((idx ((idx l0 v6).az) (0:Int)).toNat:Int)=c1))) rfl zL (fun kI=>?_) (fun kI=>?_)
   ·replace h:=bT h kI
    refine rG ?_
    refine xm 23 (.own 0 (bl.map eN)) ?_
    refine xm 24 (.d (.slice (l0.map eN))) ?_
    refine xm 25 (pI v6) ?_
    obtain ⟨lZ,h⟩:=bk h
    refine xs 26 rfl (bN (l:=l0) (i:=v6) rfl TT.qd m4 rfl rfl lZ ?_)
    refine xs 27 rfl (aC (d:= .agg (SV (idx l0 v6))) rfl TT.Wn rfl (⟨by simp [SV],rfl⟩) ?_)
    refine xs 28 rfl (dU (en:=eN) (l:=([(idx l0 v6)]:List In)) rfl TT.yx m4 (by first | rfl | (simp only [List.map_cons,List.map_nil,KA];rfl)) rfl (by decide) (by simp [dg,cQ,aB,dK,PV.cz,cu,aF,jz,iL,jP,bV,Value.oneCell']) ?_)
    obtain ⟨mc,h⟩:=bk h
    refine xs 29 rfl (iJ (en:=eN) (l:=bl) (l2:=([(idx l0 v6)]:List In)) rfl TT.yx TT.rA rfl m4 rfl rfl rfl mc (by decide) ?_)
    refine xa 5 (.own 1 ((bl++([(idx l0 v6)]:List In)).map eN)) ?_
    refine XK.nil (gC (aY ?_))
    obtain rfl:=sO h
    exact ⟨⟨aF [(0, .d (.slice (l0.map eN))),(1,pI c1),(5, .own 0 ((bl++([(idx l0 v6)]:List In)).map eN)),(6,pI v6)],aj [.spare 2 (bl++([(idx l0 v6)]:List In)).length],1,[]⟩,View.mk 1 [1] _ _ _ rfl rfl (by decide) (iC (iC (iC (iC trivial)))) (And.intro rfl trivial) rfl zL rfl,rfl⟩
   ·replace h:=bF h kI
    refine QW.skip zL (gC (aY ?_))
    obtain rfl:=sO h
    exact ⟨⟨aF [(0, .d (.slice (l0.map eN))),(1,pI c1),(5, .own 0 (bl.map eN)),(6,pI v6)],aj [.spare 2 bl.length],1,[]⟩,View.mk 1 [0] _ _ _ rfl rfl (by decide) (iC (iC (iC (iC trivial)))) (And.intro rfl trivial) rfl zL rfl,rfl⟩
  ·rintro _ rfl
   refine rG ?_
   refine xm 11 (pI v6) ?_
   obtain ⟨rM,h⟩:=gG h
   refine xs 12 rfl (bY (a:=v6) (b:=(1:Int)) rfl rfl rfl rM ?_)
   refine xz 6 (pI (v6+(1:Int))) ?_
   exact ⟨k_1,by omega,⟨aF [(0, .d (.slice (l0.map eN))),(1,pI c1),(5, .own 0 (o6.map eN)),(6,pI (v6+(1:Int)))],aj [.spare 2 o6.length],1,[]⟩,View.mk 1 [0] _ _ _ rfl rfl (by decide) (iC (iC (iC (iC trivial)))) (And.intro rfl trivial) rfl zL rfl,o6,(v6+(1:Int)),by omega,jG h,rfl⟩
 ·replace h:=eY h cv
  refine QW.exit zL (eA (eA (jY (aY ?_))))
  refine sR ?_
  refine xm 30 (.own 0 (bl.map eN)) ?_
  refine xz 4 (.own 0 (bl.map eN)) ?_
  refine QW.ret zL ?_
  obtain rfl:=sG h
  exact Ends.one (.inr rfl) rfl (aG.tmp rfl) rfl rfl
inductive xS where
 | S
 | L1 (v7:Int) (k6:(aE 16 (List UInt8)))
noncomputable def gj (self:(List In)→Option (List UInt8)) (l0:(List In)):xS→Option (xS⊕(Node×Bool))
 | .S=>
  (bif (decide ((l0.length:Int)=(0:Int))) then
  some (.inr ((⟨0,([]:(List UInt8)),([]:List UInt8),(aE.rep 16 ([]:(List UInt8)))⟩:Node),false))
  else
  (bif (decide ((l0.length:Int)=(1:Int))) then
  gO (0≤(0:Int)∧(0:Int)<(l0.length:Int)) (
  gO (0≤(0:Int)∧(0:Int)<(l0.length:Int)) (
  some (.inr ((⟨1,(idx l0 (0:Int)).az,(idx l0 (0:Int)).ay,(aE.rep 16 ([]:(List UInt8)))⟩:Node),true))))
  else
  ((uv l0).bind fun (x_5:Int)=>
  (bif (decide ((0:Int)<x_5)) then
  gO (0≤(0:Int)∧(0:Int)<(l0.length:Int)) (
  gO (0≤(0:Int)∧(0:Int)≤x_5∧x_5≤(((idx l0 (0:Int)).az).length:Int)) (
  ((tC l0 x_5).bind fun (x_10:(List In))=>
  ((self x_10).bind fun (x_12:(List UInt8))=>
  ((rz x_12).bind fun (x_14:(List UInt8))=>
  some (.inr ((⟨2,(sub ((idx l0 (0:Int)).az) (0:Int) x_5),([]:List UInt8),((aE.rep 16 ([]:(List UInt8))).put (0:Int) x_14)⟩:Node),true)))))))
  else
  some (.inl (.L1 (0) (aE.rep 16 ([]:(List UInt8)))))))))
 | .L1 v7 k6=>
  (bif (decide (v7<(16:Int))) then
  ((wk l0 v7).bind fun (x_18:(List In))=>
  ((tC x_18 (1)).bind fun (x_20:(List In))=>
  ((self x_20).bind fun (x_22:(List UInt8))=>
  ((rz x_22).bind fun (x_24:(List UInt8))=>
  gO (0≤v7∧v7<((16:Nat):Int)) (
  gO (bA (v7+(1:Int))) (
  some (.inl (.L1 (v7+(1:Int)) (k6.put v7 x_24)))))))))
  else
  some (.inr ((⟨3,([]:(List UInt8)),([]:List UInt8),k6⟩:Node),true)))
noncomputable def r8 (self:(List In)→Option (List UInt8)) (l0:(List In)):Option (Node×Bool):=gU (gj self l0) .S
theorem Ek (self:(List In)→Option (List UInt8)) (fP:∀ (y0:(List In)) (rr:(List UInt8)),self y0=some rr→bE Tryz.prog 15 [.slice (y0.map eN)] (.val (sV rr))) (l0:(List In)) (r:(Node×Bool)) (h:r8 self l0=some r):bE Tryz.prog 32 [.slice (l0.map eN)] (.tuple [.agg (cNode (r.1)), .val (.bool (r.2))]):=by
 refine bE.aU Tryz.func32 rfl (by simp [Tryz.ntmps32]) ?_
 rw [Tryz.ntmps32,TT.Wi]
 refine QW.view (s':=⟨aF [(0, .d (.slice (l0.map eN)))],aj [],0,[]⟩) (View.init (by rfl)) zL ?_
 replace h:=cG h
 obtain ⟨_,h⟩:=h
 obtain ⟨c8,rfl,h9⟩:=aQ h;replace h:=h9;clear h9;rw [gj] at h
 refine sR ?_
 refine xs 2 rfl (bP (l:=(([pI (0), .full (([]:(List UInt8)).map U),pS ([]:List UInt8)])++(((aE.rep 16 ([]:(List UInt8))).1.map eS).map PV.d))) rfl TT.j9 rfl rfl ?_)
 refine xz 3 (pB false) ?_
 refine QW.seq ?_
 refine sR ?_
 refine xm 8 (.d (.slice (l0.map eN))) ?_
 refine xs 9 rfl (cM (en:=eN) (l:=l0) rfl TT.rA rfl ?_)
 refine xs 10 rfl (ej (a:=(l0.length:Int)) (b:=(0:Int)) rfl rfl rfl ?_)
 refine XK.nz ?_
 refine QW.cond (t:=(decide ((l0.length:Int)=(0:Int)))) rfl zL (fun dm=>?_) (fun dm=>?_)
 ·replace h:=eX h dm
  refine sR ?_
  refine xs 11 rfl (fk (v:= .agg (([pI (0), .full (([]:(List UInt8)).map U),pS ([]:List UInt8)])++(((aE.rep 16 ([]:(List UInt8))).1.map eS).map PV.d))) rfl TT.oO (dM rfl dL) ?_)
  refine XK.st none rfl rfl (bw (c:=(([pI (0), .full (([]:(List UInt8)).map U),pS ([]:List UInt8)])++(((aE.rep 16 ([]:(List UInt8))).1.map eS).map PV.d))) (l':=(([pI (0), .full (([]:(List UInt8)).map U),pS ([]:List UInt8)])++(((aE.rep 16 ([]:(List UInt8))).1.map eS).map PV.d))) rfl TT.dY rfl rfl rfl rfl rfl (aD (A:=[pI (0), .full (([]:(List UInt8)).map U),pS ([]:List UInt8)]) (b:=16) rfl (aq _) rfl) (bX (aD (A:=[pI (0), .full (([]:(List UInt8)).map U),pS ([]:List UInt8)]) (b:=16) rfl (aq _) rfl) bL) (cT ((aD (A:=[pI (0), .full (([]:(List UInt8)).map U),pS ([]:List UInt8)]) (b:=16) rfl (aq _) rfl).trans (aD (A:=[pI (0), .full (([]:(List UInt8)).map U),pS ([]:List UInt8)]) (b:=16) rfl (aq _) rfl).symm)) ?_)
  refine xz 3 (pB false) ?_
  refine QW.ret zL (eC ?_)
  obtain rfl:=sG h
  exact Ends.more (.inr rfl) rfl (ps:=[.agg (([pI (0), .full (([]:(List UInt8)).map U),pS ([]:List UInt8)])++(((aE.rep 16 ([]:(List UInt8))).1.map eS).map PV.d)),pB false]) (And.intro (aG.cell rfl rfl TT.dY (fO (aD (A:=[pI (0), .full (([]:(List UInt8)).map U),pS ([]:List UInt8)]) (b:=16) rfl (aq _) rfl) (Nat.succ_pos _))) (And.intro (aG.tmp rfl) trivial)) (by simp only [PV.cW,PV.eg,iM,cA,Option.bind_some,Option.map_some,cNode]<;>rfl) rfl
 ·replace h:=eY h dm
  refine QW.skip zL (aY ?_)
  refine QW.seq ?_
  refine sR ?_
  refine xm 12 (.d (.slice (l0.map eN))) ?_
  refine xs 13 rfl (cM (en:=eN) (l:=l0) rfl TT.rA rfl ?_)
  refine xs 14 rfl (ej (a:=(l0.length:Int)) (b:=(1:Int)) rfl rfl rfl ?_)
  refine XK.nz ?_
  refine QW.cond (t:=(decide ((l0.length:Int)=(1:Int)))) rfl zL (fun cv=>?_) (fun cv=>?_)
  ·replace h:=eX h cv
   refine QW.seq ?_
   refine QW.region zL (PW.tN (id:=4) dh (M:=_) rfl (by kernel_rfl) ?_)
   refine RK.st (some 15) rfl rfl (au (v:= .d (.slice (l0.map eN))) rfl rfl ?_)
   obtain ⟨dP,h⟩:=gG h
   refine RK.st (some 16) rfl rfl (bN (l:=l0) (i:=(0:Int)) rfl TT.qd m4 rfl rfl dP ?_)
   refine RK.st (some 17) rfl rfl (aO rfl TT.qK (by decide) rfl ?_)
   refine RK.st (some 18) rfl rfl (aC (d:= .slice (((idx l0 (0:Int)).az).map U)) rfl TT.fB rfl (di.one) ?_)
   refine RK.st (some 19) rfl rfl (au (v:= .d (.slice (l0.map eN))) rfl rfl ?_)
   obtain ⟨lY,h⟩:=gG h
   refine RK.st (some 20) rfl rfl (bN (l:=l0) (i:=(0:Int)) rfl TT.qd m4 rfl rfl lY ?_)
   refine RK.st (some 21) rfl rfl (aO rfl TT.HC (by decide) rfl ?_)
   refine RK.st (some 22) rfl rfl (aC (d:= .val (sV ((idx l0 (0:Int)).ay))) rfl TT.fF rfl (di.one) ?_)
   refine RK.st (some 23) rfl rfl (fk (v:= .agg (([pI (1), .d (.slice (((idx l0 (0:Int)).az).map U)),pS ((idx l0 (0:Int)).ay)])++(((aE.rep 16 ([]:(List UInt8))).1.map eS).map PV.d))) rfl TT.oO (dM rfl (cx (p:=pI (1)) (cells:=(([pI (0), .full (([]:(List UInt8)).map U),pS ([]:List UInt8)])++(((aE.rep 16 ([]:(List UInt8))).1.map eS).map PV.d))) (cells':=(([pI (1), .full (([]:(List UInt8)).map U),pS ([]:List UInt8)])++(((aE.rep 16 ([]:(List UInt8))).1.map eS).map PV.d))) rfl rfl rfl (bX (aD (A:=[pI (0), .full (([]:(List UInt8)).map U),pS ([]:List UInt8)]) (b:=16) rfl (aq _) rfl) bL) (fq 0 (by first | exact Nat.le_of_ble_eq_true rfl | simp) rfl) (cx (p:= .d (.slice (((idx l0 (0:Int)).az).map U))) (cells:=(([pI (1), .full (([]:(List UInt8)).map U),pS ([]:List UInt8)])++(((aE.rep 16 ([]:(List UInt8))).1.map eS).map PV.d))) (cells':=(([pI (1), .d (.slice (((idx l0 (0:Int)).az).map U)),pS ([]:List UInt8)])++(((aE.rep 16 ([]:(List UInt8))).1.map eS).map PV.d))) rfl rfl rfl (bX (aD (A:=[pI (1), .full (([]:(List UInt8)).map U),pS ([]:List UInt8)]) (b:=16) rfl (aq _) rfl) bL) (fq 1 (by first | exact Nat.le_of_ble_eq_true rfl | simp) rfl) (cx (p:=pS ((idx l0 (0:Int)).ay)) (cells:=(([pI (1), .d (.slice (((idx l0 (0:Int)).az).map U)),pS ([]:List UInt8)])++(((aE.rep 16 ([]:(List UInt8))).1.map eS).map PV.d))) (cells':=(([pI (1), .d (.slice (((idx l0 (0:Int)).az).map U)),pS ((idx l0 (0:Int)).ay)])++(((aE.rep 16 ([]:(List UInt8))).1.map eS).map PV.d))) rfl rfl rfl (bX (aD (A:=[pI (1), .d (.slice (((idx l0 (0:Int)).az).map U)),pS ([]:List UInt8)]) (b:=16) rfl (aq _) rfl) bL) (fq 2 (by first | exact Nat.le_of_ble_eq_true rfl | simp) rfl) dL)))) ?_)
   refine RK.st none rfl rfl (bw (c:=(([pI (1), .d (.slice (((idx l0 (0:Int)).az).map U)),pS ((idx l0 (0:Int)).ay)])++(((aE.rep 16 ([]:(List UInt8))).1.map eS).map PV.d))) (l':=(([pI (1), .d (.slice (((idx l0 (0:Int)).az).map U)),pS ((idx l0 (0:Int)).ay)])++(((aE.rep 16 ([]:(List UInt8))).1.map eS).map PV.d))) rfl TT.dY rfl rfl rfl rfl rfl (aD (A:=[pI (1), .d (.slice (((idx l0 (0:Int)).az).map U)),pS ((idx l0 (0:Int)).ay)]) (b:=16) rfl (aq _) rfl) (bX (aD (A:=[pI (0), .full (([]:(List UInt8)).map U),pS ([]:List UInt8)]) (b:=16) rfl (aq _) rfl) bL) (cT ((aD (A:=[pI (0), .full (([]:(List UInt8)).map U),pS ([]:List UInt8)]) (b:=16) rfl (aq _) rfl).trans (aD (A:=[pI (1), .d (.slice (((idx l0 (0:Int)).az).map U)),pS ((idx l0 (0:Int)).ay)]) (b:=16) rfl (aq _) rfl).symm)) ?_)
   refine RK.st (some 3) rfl rfl (cq (v:=pB true) rfl rfl ?_)
   refine RK.nil ⟨gl.last 9 (by simp) (by simp) (by rfl),(aY ?_)⟩
   refine QW.ret zL (eC ?_)
   obtain rfl:=sG h
   exact Ends.more (.inr rfl) rfl (ps:=[.agg (([pI (1), .d (.slice (((idx l0 (0:Int)).az).map U)),pS ((idx l0 (0:Int)).ay)])++(((aE.rep 16 ([]:(List UInt8))).1.map eS).map PV.d)),pB true]) (And.intro (aG.cell rfl rfl TT.dY (fO (aD (A:=[pI (1), .d (.slice (((idx l0 (0:Int)).az).map U)),pS ((idx l0 (0:Int)).ay)]) (b:=16) rfl (aq _) rfl) (Nat.succ_pos _))) (And.intro (aG.tmp rfl) trivial)) (by simp only [PV.cW,PV.eg,iM,cA,Option.bind_some,Option.map_some,cNode]<;>rfl) rfl
  ·replace h:=eY h cv
   refine QW.skip zL (aY ?_)
   refine QW.seq ?_
   refine sR ?_
   refine xm 24 (.d (.slice (l0.map eN))) ?_
   obtain ⟨x_5,rj,h⟩:=bG h
   refine xs 25 rfl (aA rfl rfl TT.OJ rfl (Dt l0 _ rj) ?_)
   refine xz 4 (pI x_5) ?_
   refine sR ?_
   refine xm 26 (pI x_5) ?_
   refine xs 27 rfl (oh (a:=x_5) (b:=(0:Int)) rfl rfl rfl ?_)
   refine XK.nz ?_
   refine QW.cond (t:=(decide ((0:Int)<x_5))) rfl zL (fun rS=>?_) (fun rS=>?_)
   ·replace h:=eX h rS
    refine sR ?_
    refine xm 28 (.d (.slice (l0.map eN))) ?_
    obtain ⟨rM,h⟩:=gG h
    refine xs 29 rfl (bN (l:=l0) (i:=(0:Int)) rfl TT.qd m4 rfl rfl rM ?_)
    refine xs 30 rfl (aO rfl TT.qK (by decide) rfl ?_)
    refine xs 31 rfl (aC (d:= .slice (((idx l0 (0:Int)).az).map U)) rfl TT.fB rfl (di.one) ?_)
    refine xm 32 (pI x_5) ?_
    obtain ⟨rN,h⟩:=gG h
    refine xs 33 rfl (nS (l:=(idx l0 (0:Int)).az) (a:=(0:Int)) (b:=x_5) rfl TT.bC TT.eD bH rfl rfl rfl rN ?_)
    refine xs 34 rfl (fk (v:= .agg (([pI (2), .d (.slice ((sub ((idx l0 (0:Int)).az) (0:Int) x_5).map U)),pS ([]:List UInt8)])++(((aE.rep 16 ([]:(List UInt8))).1.map eS).map PV.d))) rfl TT.oO (dM rfl (cx (p:=pI (2)) (cells:=(([pI (0), .full (([]:(List UInt8)).map U),pS ([]:List UInt8)])++(((aE.rep 16 ([]:(List UInt8))).1.map eS).map PV.d))) (cells':=(([pI (2), .full (([]:(List UInt8)).map U),pS ([]:List UInt8)])++(((aE.rep 16 ([]:(List UInt8))).1.map eS).map PV.d))) rfl rfl rfl (bX (aD (A:=[pI (0), .full (([]:(List UInt8)).map U),pS ([]:List UInt8)]) (b:=16) rfl (aq _) rfl) bL) (fq 0 (by first | exact Nat.le_of_ble_eq_true rfl | simp) rfl) (cx (p:= .d (.slice ((sub ((idx l0 (0:Int)).az) (0:Int) x_5).map U))) (cells:=(([pI (2), .full (([]:(List UInt8)).map U),pS ([]:List UInt8)])++(((aE.rep 16 ([]:(List UInt8))).1.map eS).map PV.d))) (cells':=(([pI (2), .d (.slice ((sub ((idx l0 (0:Int)).az) (0:Int) x_5).map U)),pS ([]:List UInt8)])++(((aE.rep 16 ([]:(List UInt8))).1.map eS).map PV.d))) rfl rfl rfl (bX (aD (A:=[pI (2), .full (([]:(List UInt8)).map U),pS ([]:List UInt8)]) (b:=16) rfl (aq _) rfl) bL) (fq 1 (by first | exact Nat.le_of_ble_eq_true rfl | simp) rfl) dL))) ?_)
    refine xs 5 rfl (bP (l:=(([pI (0), .full (([]:(List UInt8)).map U),pS ([]:List UInt8)])++(((aE.rep 16 ([]:(List UInt8))).1.map eS).map PV.d))) rfl TT.j9 rfl rfl ?_)
    refine XK.st none rfl rfl (bw (c:=(([pI (2), .d (.slice ((sub ((idx l0 (0:Int)).az) (0:Int) x_5).map U)),pS ([]:List UInt8)])++(((aE.rep 16 ([]:(List UInt8))).1.map eS).map PV.d))) (l':=(([pI (2), .d (.slice ((sub ((idx l0 (0:Int)).az) (0:Int) x_5).map U)),pS ([]:List UInt8)])++(((aE.rep 16 ([]:(List UInt8))).1.map eS).map PV.d))) rfl TT.dY rfl rfl rfl rfl rfl (aD (A:=[pI (2), .d (.slice ((sub ((idx l0 (0:Int)).az) (0:Int) x_5).map U)),pS ([]:List UInt8)]) (b:=16) rfl (aq _) rfl) (bX (aD (A:=[pI (0), .full (([]:(List UInt8)).map U),pS ([]:List UInt8)]) (b:=16) rfl (aq _) rfl) bL) (cT ((aD (A:=[pI (0), .full (([]:(List UInt8)).map U),pS ([]:List UInt8)]) (b:=16) rfl (aq _) rfl).trans (aD (A:=[pI (2), .d (.slice ((sub ((idx l0 (0:Int)).az) (0:Int) x_5).map U)),pS ([]:List UInt8)]) (b:=16) rfl (aq _) rfl).symm)) ?_)
    refine XK.nz ?_
    refine sR ?_
    refine xm 35 (.d (.slice (l0.map eN))) ?_
    refine xm 36 (pI x_5) ?_
    obtain ⟨x_10,qD,h⟩:=bG h
    refine xs 37 rfl (aA rfl rfl TT.HB rfl (zK l0 x_5 _ qD) ?_)
    obtain ⟨x_12,rO,h⟩:=bG h
    refine xs 38 rfl (aA rfl rfl TT.Cy rfl (fP x_10 _ rO) ?_)
    obtain ⟨x_14,Hw,h⟩:=bG h
    refine xs 39 rfl (aA rfl rfl TT.HA rfl (BO x_12 _ Hw) ?_)
    refine xs 40 rfl (fm rfl TT.mT (by decide) rfl ?_)
    refine xs 41 rfl (cX (i:=(0:Int)) rfl TT.tV TT.oN rfl rfl (by decide) ?_)
    refine XK.st none rfl rfl (bw (l':=(([pI (2), .d (.slice ((sub ((idx l0 (0:Int)).az) (0:Int) x_5).map U)),pS ([]:List UInt8)])++((((aE.rep 16 ([]:(List UInt8))).put (0:Int) x_14).1.map eS).map PV.d))) rfl TT.fF rfl rfl rfl rfl rfl rfl (yS (n:=16) (by decide) (aD (A:=[pI (2), .d (.slice ((sub ((idx l0 (0:Int)).az) (0:Int) x_5).map U)),pS ([]:List UInt8)]) (b:=16) rfl (aq _) rfl) bL) (ql 3 _ rfl (sX (by decide))) ?_)
    refine XK.nz ?_
    refine QW.seq ?_
    refine QW.view (s':=⟨aF [(2, .aK 0 0),(5, .aK 1 0)],aj [.var (([pI (0), .full (([]:(List UInt8)).map U),pS ([]:List UInt8)])++(((aE.rep 16 ([]:(List UInt8))).1.map eS).map PV.d)), .var (([pI (2), .d (.slice ((sub ((idx l0 (0:Int)).az) (0:Int) x_5).map U)),pS ([]:List UInt8)])++((((aE.rep 16 ([]:(List UInt8))).put (0:Int) x_14).1.map eS).map PV.d))],2,[]⟩) (View.mk 2 [0,1] _ _ _ rfl rfl (by decide) (iC (iC trivial)) (And.intro (by simp only [cF,eR,PV.bR];rfl) (And.intro (by simp only [cF,eR,PV.bR];rfl) trivial)) rfl zL rfl) zL ?_
    refine rG ?_
    refine XK.as (some 42) rfl rfl (bx (v:= .agg (([pI (2), .d (.slice ((sub ((idx l0 (0:Int)).az) (0:Int) x_5).map U)),pS ([]:List UInt8)])++((((aE.rep 16 ([]:(List UInt8))).put (0:Int) x_14).1.map eS).map PV.d))) rfl TT.dY rfl rfl (fO (aD (A:=[pI (2), .d (.slice ((sub ((idx l0 (0:Int)).az) (0:Int) x_5).map U)),pS ([]:List UInt8)]) (b:=16) rfl (aq _) rfl) (Nat.succ_pos _)) ⟨.d (.agg (cNode (⟨2,(sub ((idx l0 (0:Int)).az) (0:Int) x_5),([]:List UInt8),((aE.rep 16 ([]:(List UInt8))).put (0:Int) x_14)⟩:Node))),(iy.cW (oI (mj rfl cA))),?_⟩)
    refine XK.st none rfl rfl (bw (c:=(([pI (2), .d (.slice ((sub ((idx l0 (0:Int)).az) (0:Int) x_5).map U)),pS ([]:List UInt8)])++((((aE.rep 16 ([]:(List UInt8))).put (0:Int) x_14).1.map eS).map PV.d))) (l':=(([pI (2), .d (.slice ((sub ((idx l0 (0:Int)).az) (0:Int) x_5).map U)),pS ([]:List UInt8)])++((((aE.rep 16 ([]:(List UInt8))).put (0:Int) x_14).1.map eS).map PV.d))) rfl TT.dY rfl rfl rfl rfl (show (cNode (⟨2,(sub ((idx l0 (0:Int)).az) (0:Int) x_5),([]:List UInt8),((aE.rep 16 ([]:(List UInt8))).put (0:Int) x_14)⟩:Node)).map PV.d=_ by simp only [cNode,List.map_append];rfl) (aD (A:=[pI (2), .d (.slice ((sub ((idx l0 (0:Int)).az) (0:Int) x_5).map U)),pS ([]:List UInt8)]) (b:=16) rfl (aq _) rfl) (bX (aD (A:=[pI (0), .full (([]:(List UInt8)).map U),pS ([]:List UInt8)]) (b:=16) rfl (aq _) rfl) bL) (cT ((aD (A:=[pI (0), .full (([]:(List UInt8)).map U),pS ([]:List UInt8)]) (b:=16) rfl (aq _) rfl).trans (aD (A:=[pI (2), .d (.slice ((sub ((idx l0 (0:Int)).az) (0:Int) x_5).map U)),pS ([]:List UInt8)]) (b:=16) rfl (aq _) rfl).symm)) ?_)
    refine xz 3 (pB true) ?_
    refine QW.ret zL (eC ?_)
    obtain rfl:=sG h
    exact Ends.more (.inr rfl) rfl (ps:=[.agg (([pI (2), .d (.slice ((sub ((idx l0 (0:Int)).az) (0:Int) x_5).map U)),pS ([]:List UInt8)])++((((aE.rep 16 ([]:(List UInt8))).put (0:Int) x_14).1.map eS).map PV.d)),pB true]) (And.intro (aG.cell rfl rfl TT.dY (fO (aD (A:=[pI (2), .d (.slice ((sub ((idx l0 (0:Int)).az) (0:Int) x_5).map U)),pS ([]:List UInt8)]) (b:=16) rfl (aq _) rfl) (Nat.succ_pos _))) (And.intro (aG.tmp rfl) trivial)) (by simp only [PV.cW,PV.eg,iM,cA,Option.bind_some,Option.map_some,cNode]<;>rfl) rfl
   ·replace h:=eY h rS
    refine QW.skip zL (aY ?_)
    refine sR ?_
    refine xs 43 rfl (fk (v:= .agg (([pI (3), .full (([]:(List UInt8)).map U),pS ([]:List UInt8)])++(((aE.rep 16 ([]:(List UInt8))).1.map eS).map PV.d))) rfl TT.oO (dM rfl (cx (p:=pI (3)) (cells:=(([pI (0), .full (([]:(List UInt8)).map U),pS ([]:List UInt8)])++(((aE.rep 16 ([]:(List UInt8))).1.map eS).map PV.d))) (cells':=(([pI (3), .full (([]:(List UInt8)).map U),pS ([]:List UInt8)])++(((aE.rep 16 ([]:(List UInt8))).1.map eS).map PV.d))) rfl rfl rfl (bX (aD (A:=[pI (0), .full (([]:(List UInt8)).map U),pS ([]:List UInt8)]) (b:=16) rfl (aq _) rfl) bL) (fq 0 (by first | exact Nat.le_of_ble_eq_true rfl | simp) rfl) dL)) ?_)
    refine xs 6 rfl (bP (l:=(([pI (0), .full (([]:(List UInt8)).map U),pS ([]:List UInt8)])++(((aE.rep 16 ([]:(List UInt8))).1.map eS).map PV.d))) rfl TT.j9 rfl rfl ?_)
    refine XK.st none rfl rfl (bw (c:=(([pI (3), .full (([]:(List UInt8)).map U),pS ([]:List UInt8)])++(((aE.rep 16 ([]:(List UInt8))).1.map eS).map PV.d))) (l':=(([pI (3), .full (([]:(List UInt8)).map U),pS ([]:List UInt8)])++(((aE.rep 16 ([]:(List UInt8))).1.map eS).map PV.d))) rfl TT.dY rfl rfl rfl rfl rfl (aD (A:=[pI (3), .full (([]:(List UInt8)).map U),pS ([]:List UInt8)]) (b:=16) rfl (aq _) rfl) (bX (aD (A:=[pI (0), .full (([]:(List UInt8)).map U),pS ([]:List UInt8)]) (b:=16) rfl (aq _) rfl) bL) (cT ((aD (A:=[pI (0), .full (([]:(List UInt8)).map U),pS ([]:List UInt8)]) (b:=16) rfl (aq _) rfl).trans (aD (A:=[pI (3), .full (([]:(List UInt8)).map U),pS ([]:List UInt8)]) (b:=16) rfl (aq _) rfl).symm)) ?_)
    refine XK.nz ?_
    refine QW.seq ?_
    refine sR ?_
    refine xz 7 (pI (0)) ?_
    refine QW.block ?_
    refine QW.loop (fun k σ=>∃ v7:Int,∃ k6:(aE 16 (List UInt8)),k≤c8∧run (gj self l0) k (.L1 v7 k6)=some r∧σ=⟨aF [(0, .d (.slice (l0.map eN))),(2, .aK 0 0),(6, .aK 1 0),(7,pI v7)],aj [.var (([pI (0), .full (([]:(List UInt8)).map U),pS ([]:List UInt8)])++(((aE.rep 16 ([]:(List UInt8))).1.map eS).map PV.d)), .var (([pI (3), .full (([]:(List UInt8)).map U),pS ([]:List UInt8)])++((k6.1.map eS).map PV.d))],2,[]⟩) c8 zL ⟨⟨aF [(0, .d (.slice (l0.map eN))),(2, .aK 0 0),(6, .aK 1 0),(7,pI (0))],aj [.var (([pI (0), .full (([]:(List UInt8)).map U),pS ([]:List UInt8)])++(((aE.rep 16 ([]:(List UInt8))).1.map eS).map PV.d)), .var (([pI (3), .full (([]:(List UInt8)).map U),pS ([]:List UInt8)])++(((aE.rep 16 ([]:(List UInt8))).1.map eS).map PV.d))],2,[]⟩,View.mk 2 [0,1] _ _ _ rfl rfl (by decide) (iC (iC (iC (iC trivial)))) (And.intro (by simp only [cF,eR,PV.bR];rfl) (And.intro (by simp only [cF,eR,PV.bR];rfl) trivial)) rfl zL rfl,0,(aE.rep 16 ([]:(List UInt8))),Nat.le_refl _,jG h,rfl⟩ ?_
    rintro XE _ ⟨v7,k6,XF,h,rfl⟩
    obtain ⟨S0,rfl,h9⟩:=aQ h;replace h:=h9;clear h9;rw [gj] at h
    refine QW.seq ?_
    refine sR ?_
    refine xm 44 (pI v7) ?_
    refine xs 45 rfl (cK (a:=v7) (b:=(16:Int)) rfl rfl rfl ?_)
    refine XK.nz ?_
    refine QW.cond (t:=(decide (v7<(16:Int)))) rfl zL (fun qy=>?_) (fun qy=>?_)
    ·replace h:=eX h qy
     refine QW.skip zL (aY ?_)
     refine QW.seq ?_
     refine QW.block ?_
     refine rG ?_
     refine xm 48 (pI v7) ?_
     refine xm 49 (.d (.slice (l0.map eN))) ?_
     refine xm 50 (pI v7) ?_
     obtain ⟨x_18,xF,h⟩:=bG h
     refine xs 51 rfl (aA rfl rfl TT.OK rfl (Ej l0 v7 _ xF) ?_)
     obtain ⟨x_20,yY,h⟩:=bG h
     refine xs 52 rfl (aA rfl rfl TT.HB rfl (zK x_18 (1) _ yY) ?_)
     obtain ⟨x_22,vO,h⟩:=bG h
     refine xs 53 rfl (aA rfl rfl TT.Cy rfl (fP x_20 _ vO) ?_)
     obtain ⟨x_24,Hg,h⟩:=bG h
     refine xs 54 rfl (aA rfl rfl TT.HA rfl (BO x_22 _ Hg) ?_)
     refine xs 55 rfl (fm rfl TT.mT (by decide) rfl ?_)
     obtain ⟨yh,h⟩:=gG h
     refine xs 56 rfl (cX (i:=v7) rfl TT.tV TT.oN rfl rfl yh ?_)
     refine XK.st none rfl rfl (bw (l':=(([pI (3), .full (([]:(List UInt8)).map U),pS ([]:List UInt8)])++(((k6.put v7 x_24).1.map eS).map PV.d))) rfl TT.fF rfl rfl rfl rfl rfl rfl (yS (n:=16) yh (aD (A:=[pI (3), .full (([]:(List UInt8)).map U),pS ([]:List UInt8)]) (b:=16) rfl (aq _) rfl) bL) (ql 3 _ rfl (sX yh)) ?_)
     refine XK.nil (gC (aY ?_))
     refine rG ?_
     refine xm 46 (pI v7) ?_
     obtain ⟨Tx,h⟩:=gG h
     refine xs 47 rfl (bY (a:=v7) (b:=(1:Int)) rfl rfl rfl Tx ?_)
     refine xz 7 (pI (v7+(1:Int))) ?_
     exact ⟨S0,by omega,⟨aF [(0, .d (.slice (l0.map eN))),(2, .aK 0 0),(6, .aK 1 0),(7,pI (v7+(1:Int)))],aj [.var (([pI (0), .full (([]:(List UInt8)).map U),pS ([]:List UInt8)])++(((aE.rep 16 ([]:(List UInt8))).1.map eS).map PV.d)), .var (([pI (3), .full (([]:(List UInt8)).map U),pS ([]:List UInt8)])++(((k6.put v7 x_24).1.map eS).map PV.d))],2,[]⟩,View.mk 2 [0,1] _ _ _ rfl rfl (by decide) (iC (iC (iC (iC trivial)))) (And.intro (by simp only [cF,eR,PV.bR];rfl) (And.intro (by simp only [cF,eR,PV.bR];rfl) trivial)) rfl zL rfl,(v7+(1:Int)),(k6.put v7 x_24),by omega,jG h,rfl⟩
    ·replace h:=eY h qy
     refine QW.exit zL (eA (eA (jY (aY ?_))))
     refine sR ?_
     refine XK.as (some 57) rfl rfl (bx (v:= .agg (([pI (3), .full (([]:(List UInt8)).map U),pS ([]:List UInt8)])++((k6.1.map eS).map PV.d))) rfl TT.dY rfl rfl (fO (aD (A:=[pI (3), .full (([]:(List UInt8)).map U),pS ([]:List UInt8)]) (b:=16) rfl (aq _) rfl) (Nat.succ_pos _)) ⟨.d (.agg (cNode (⟨3,([]:(List UInt8)),([]:List UInt8),k6⟩:Node))),(iy.cW (oI (mj rfl cA))),?_⟩)
     refine XK.st none rfl rfl (bw (c:=(([pI (3), .d (.slice (([]:(List UInt8)).map U)),pS ([]:List UInt8)])++((k6.1.map eS).map PV.d))) (l':=(([pI (3), .d (.slice (([]:(List UInt8)).map U)),pS ([]:List UInt8)])++((k6.1.map eS).map PV.d))) rfl TT.dY rfl rfl rfl rfl (show (cNode (⟨3,([]:(List UInt8)),([]:List UInt8),k6⟩:Node)).map PV.d=_ by simp only [cNode,List.map_append];rfl) (aD (A:=[pI (3), .d (.slice (([]:(List UInt8)).map U)),pS ([]:List UInt8)]) (b:=16) rfl (aq _) rfl) (bX (aD (A:=[pI (0), .full (([]:(List UInt8)).map U),pS ([]:List UInt8)]) (b:=16) rfl (aq _) rfl) bL) (cT ((aD (A:=[pI (0), .full (([]:(List UInt8)).map U),pS ([]:List UInt8)]) (b:=16) rfl (aq _) rfl).trans (aD (A:=[pI (3), .d (.slice (([]:(List UInt8)).map U)),pS ([]:List UInt8)]) (b:=16) rfl (aq _) rfl).symm)) ?_)
     refine xz 3 (pB true) ?_
     refine QW.ret zL ?_
     obtain rfl:=sG h
     exact Ends.more (.inr rfl) rfl (ps:=[.agg (([pI (3), .d (.slice (([]:(List UInt8)).map U)),pS ([]:List UInt8)])++((k6.1.map eS).map PV.d)),pB true]) (And.intro (aG.cell rfl rfl TT.dY (fO (aD (A:=[pI (3), .d (.slice (([]:(List UInt8)).map U)),pS ([]:List UInt8)]) (b:=16) rfl (aq _) rfl) (Nat.succ_pos _))) (And.intro (aG.tmp rfl) trivial)) (by simp only [PV.cW,PV.eg,iM,cA,Option.bind_some,Option.map_some,cNode]<;>rfl) rfl
noncomputable def qe (self:(List In)→Option (List UInt8)) (l0:(List In)):Option (List UInt8):=
  ((r8 self l0).bind fun (x_1:(Node×Bool))=>
  (bif (!(x_1).2) then
  some ([]:List UInt8)
  else
  ((pG (x_1.1)).bind fun (x_4:(List UInt8))=>
  some x_4)))
theorem FE (self:(List In)→Option (List UInt8)) (fP:∀ (y0:(List In)) (rr:(List UInt8)),self y0=some rr→bE Tryz.prog 15 [.slice (y0.map eN)] (.val (sV rr))) (l0:(List In)) (r:(List UInt8)) (h:qe self l0=some r):bE Tryz.prog 15 [.slice (l0.map eN)] (.val (sV r)):=by
 refine bE.aU Tryz.func15 rfl (by simp [Tryz.ntmps15]) ?_
 rw [Tryz.ntmps15,TT.Wg]
 refine QW.view (s':=⟨aF [(0, .d (.slice (l0.map eN)))],aj [],0,[]⟩) (View.init (by rfl)) zL ?_
 unfold qe at h
 refine sR ?_
 refine xz 2 (pS ([]:List UInt8)) ?_
 refine sR ?_
 refine xm 6 (.d (.slice (l0.map eN))) ?_
 obtain ⟨x_1,fy,h⟩:=bO h
 refine xs 7 rfl (aA rfl rfl TT.OH rfl (Ek self fP l0 _ fy) ?_)
 refine xm 5 (.d (.tuple [.agg (cNode (x_1.1)), .val (.bool (x_1.2))])) ?_
 refine xs 8 rfl (bz rfl rfl rfl ?_)
 refine xs 9 rfl (bz rfl rfl rfl ?_)
 refine xs 3 rfl (bP (l:=(([pI (0), .full (([]:(List UInt8)).map U),pS ([]:List UInt8)])++(((aE.rep 16 ([]:(List UInt8))).1.map eS).map PV.d))) rfl TT.j9 rfl rfl ?_)
 refine XK.st none rfl rfl (bw (c:=(([pI ((x_1.1).aW), .d (.slice (((x_1.1).az).map U)),pS ((x_1.1).ay)])++((((x_1.1).aT).1.map eS).map PV.d))) (l':=(([pI ((x_1.1).aW), .d (.slice (((x_1.1).az).map U)),pS ((x_1.1).ay)])++((((x_1.1).aT).1.map eS).map PV.d))) rfl TT.dY rfl rfl rfl rfl (show (cNode (x_1.1)).map PV.d=_ by simp only [cNode,List.map_append];rfl) (aD (A:=[pI ((x_1.1).aW), .d (.slice (((x_1.1).az).map U)),pS ((x_1.1).ay)]) (b:=16) rfl (aq _) rfl) (bX (aD (A:=[pI (0), .full (([]:(List UInt8)).map U),pS ([]:List UInt8)]) (b:=16) rfl (aq _) rfl) bL) (cT ((aD (A:=[pI (0), .full (([]:(List UInt8)).map U),pS ([]:List UInt8)]) (b:=16) rfl (aq _) rfl).trans (aD (A:=[pI ((x_1.1).aW), .d (.slice (((x_1.1).az).map U)),pS ((x_1.1).ay)]) (b:=16) rfl (aq _) rfl).symm)) ?_)
 refine xz 4 (pB (x_1.2)) ?_
 refine QW.seq ?_
 refine sR ?_
 refine xm 10 (pB (x_1.2)) ?_
 refine xs 11 rfl (mC rfl rfl ?_)
 refine XK.nz ?_
 refine QW.cond (t:=(!(x_1).2)) rfl zL (fun dW=>?_) (fun dW=>?_)
 ·replace h:=bT h dW
  refine sR ?_
  refine xz 2 (pS ([]:List UInt8)) ?_
  refine QW.ret zL (eC ?_)
  obtain rfl:=sO h
  exact Ends.one (.inr rfl) rfl (aG.tmp rfl) rfl rfl
 ·replace h:=bF h dW
  refine QW.skip zL (aY ?_)
  refine sR ?_
  refine XK.as (some 12) rfl rfl (bx (v:= .agg (([pI ((x_1.1).aW), .d (.slice (((x_1.1).az).map U)),pS ((x_1.1).ay)])++((((x_1.1).aT).1.map eS).map PV.d))) rfl TT.dY rfl rfl (fO (aD (A:=[pI ((x_1.1).aW), .d (.slice (((x_1.1).az).map U)),pS ((x_1.1).ay)]) (b:=16) rfl (aq _) rfl) (Nat.succ_pos _)) ⟨.d (.agg (cNode (x_1.1))),(iy.cW (oI (mj rfl cA))),?_⟩)
  obtain ⟨x_4,kZ,h⟩:=bO h
  refine xs 13 rfl (aA rfl rfl TT.OG rfl (Hy (x_1.1) _ kZ) ?_)
  refine xz 2 (pS x_4) ?_
  refine QW.ret zL ?_
  obtain rfl:=sO h
  exact Ends.one (.inr rfl) rfl (aG.tmp rfl) rfl rfl
noncomputable def kP:Nat→(List In)→Option (List UInt8)
 | 0=>fun _=>none
 | n+1=>fun y0=>qe (kP n) y0
theorem zM:∀ (n:Nat) (y0:(List In)) (rr:(List UInt8)),kP n y0=some rr→bE Tryz.prog 15 [.slice (y0.map eN)] (.val (sV rr))
 | 0,_,_,h=>by cases h
 | n+1,y0,rr,h=>FE (kP n) (zM n) y0 rr h
noncomputable def pJ (y0:(List In)):Option (List UInt8):=wX (fun n=>kP n y0)
theorem HE (y0:(List In)) (rr:(List UInt8)) (h:pJ y0=some rr):bE Tryz.prog 15 [.slice (y0.map eN)] (.val (sV rr)):=by
 obtain ⟨n,hn⟩:=nY h
 exact zM n y0 rr hn
end Go.Proofs.YtlfjfoknbjcncaaGreat.K
