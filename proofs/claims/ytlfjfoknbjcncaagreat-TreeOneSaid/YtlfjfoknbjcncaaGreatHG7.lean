/- The references of layers 03 and 07. -/
import Derived.Test.YtlfjfoknbjcncaaGreatHG6
import Derived.KernelRfl
namespace Go.Proofs.YtlfjfoknbjcncaaGreat.K
open Go Go.RowKit
set_option linter.unusedSimpArgs false
set_option linter.unusedVariables false
set_option maxRecDepth 20000
set_option maxHeartbeats 4000000
namespace TT
theorem Om:aP Tryz.prog 36=true:=by kernel_rfl
theorem On:aP Tryz.prog 65=true:=by kernel_rfl
theorem Oo:aP Tryz.prog 66=true:=by kernel_rfl
theorem m3:aP Tryz.prog 90=true:=by kernel_rfl
theorem Hi:aP Tryz.prog 91=true:=by kernel_rfl
theorem tc:aP Tryz.prog 92=true:=by kernel_rfl
theorem Oq:aP Tryz.prog 93=true:=by kernel_rfl
theorem Vq:Tryz.f20.results.toList=[.tmp 2]:=rfl
theorem Vr:Tryz.f36.results.toList=[.tmp 2]:=rfl
theorem Vt:Tryz.f65.results.toList=[.tmp 2]:=rfl
theorem Vu:Tryz.f66.results.toList=[.tmp 4]:=rfl
theorem Vv:Tryz.f90.results.toList=[.tmp 4]:=rfl
theorem Vw:Tryz.f91.results.toList=[.tmp 4]:=rfl
theorem Vx:Tryz.f92.results.toList=[.tmp 2]:=rfl
theorem Vy:Tryz.f93.results.toList=[.tmp 2]:=rfl
theorem nq:oH Tryz.prog 113=some (1,8):=by kernel_rfl
theorem fH:mz Tryz.prog 113=some (1,8,false):=by kernel_rfl
theorem gI:jS Tryz.prog 112=some (false,1):=by kernel_rfl
theorem y8:Program.underlying Tryz.prog 113=some (.slice 112):=by kernel_rfl
end TT
inductive BO where
 | S
 | L1 (v3:(List UInt8))
 | L2 (eJ:(List UInt8)) (v4:(BitVec 64)) (v5:(List UInt8)) (v6:Int)
noncomputable def ff (s0:(List UInt8)):BO→Option (BO⊕(List UInt8))
 | .S=>
  gO (s0.length+([128]:List UInt8).length≤9223372036854775807) (
  some (.inl (.L1 (s0++([128]:List UInt8)))))
 | .L1 v3=>
  (bif (!decide (((v3.length:Int).tmod (64:Int))=(56:Int))) then
  gO (v3.length+([0]:List UInt8).length≤9223372036854775807) (
  some (.inl (.L1 (v3++([0]:List UInt8)))))
  else
  gO (bw ((8:Int)*(s0.length:Int))) (
  some (.inl (.L2 v3 (BitVec.ofInt 64 ((8:Int)*(s0.length:Int))) ([]:List UInt8) (0)))))
 | .L2 eJ v4 v5 v6=>
  (bif (decide (v6<(8:Int))) then
  gO (([(gf ((v4%(256:BitVec 64)).toNat:Int))]:List UInt8).length+v5.length≤9223372036854775807) (
  gO (bw (v6+(1:Int))) (
  some (.inl (.L2 eJ (v4/(256:BitVec 64)) (([(gf ((v4%(256:BitVec 64)).toNat:Int))]:List UInt8)++v5) (v6+(1:Int))))))
  else
  gO (eJ.length+v5.length≤9223372036854775807) (
  some (.inr (eJ++v5))))
noncomputable def xN (s0:(List UInt8)):Option (List UInt8):=g9 (ff s0) .S
theorem Fx (s0:(List UInt8)) (r:(List UInt8)) (h:xN s0=some r):bI Tryz.prog 65 [.val (sV s0)] (.val (sV r)):=by
 refine bI.aU Tryz.func65 rfl (by simp [Tryz.ntmps65]) ?_
 rw [Tryz.ntmps65,TT.Vt]
 refine QW.view (s':=⟨aG [(0,pS s0)],aj [],0,[]⟩) (View.init (by rfl)) zL ?_
 replace h:=cL h
 obtain ⟨_,h⟩:=h
 obtain ⟨dm,rfl,h9⟩:=aQ h;replace h:=h9;clear h9;rw [ff] at h
 refine sR ?_
 refine xz 2 (pS ([]:List UInt8)) ?_
 refine sR ?_
 refine xm 7 (pS s0) ?_
 obtain ⟨nV,h⟩:=gG h
 refine xs 8 rfl (lf (a:=s0) (b:=([128]:List UInt8)) rfl rfl rfl nV ?_)
 refine xz 3 (pS (s0++([128]:List UInt8))) ?_
 refine QW.seq ?_
 refine QW.block ?_
 refine QW.loop (fun k σ=>∃ v3:(List UInt8),k≤dm∧run (ff s0) k (.L1 v3)=some r∧σ=⟨aG [(0,pS s0),(3,pS v3)],aj [],0,[]⟩) dm zL ⟨⟨aG [(0,pS s0),(3,pS (s0++([128]:List UInt8)))],aj [],0,[]⟩,View.mk 0 [] _ _ _ rfl rfl (by decide) (iC (iC trivial)) trivial rfl zL rfl,(s0++([128]:List UInt8)),Nat.le_refl _,jG h,rfl⟩ ?_
 rintro SG _ ⟨v3,SH,h,rfl⟩
 obtain ⟨k_2,rfl,h9⟩:=aQ h;replace h:=h9;clear h9;rw [ff] at h
 refine QW.seq ?_
 refine sR ?_
 refine xm 9 (pS v3) ?_
 refine xs 10 rfl (gE (l:=v3) rfl TT.bY rfl ?_)
 refine xs 11 rfl (uT (a:=(v3.length:Int)) (b:=(64:Int)) rfl rfl rfl (by decide) ?_)
 refine xs 12 rfl (qA (a:=((v3.length:Int).tmod (64:Int))) (b:=(56:Int)) rfl rfl rfl ?_)
 refine XK.nz ?_
 refine QW.cond (t:=(!decide (((v3.length:Int).tmod (64:Int))=(56:Int)))) rfl zL (fun dU=>?_) (fun dU=>?_)
 ·replace h:=fF h dU
  refine QW.skip zL (aX ?_)
  refine QW.block ?_
  refine rG ?_
  refine xm 13 (pS v3) ?_
  obtain ⟨mH,h⟩:=gG h
  refine xs 14 rfl (lf (a:=v3) (b:=([0]:List UInt8)) rfl rfl rfl mH ?_)
  refine xa 3 (pS (v3++([0]:List UInt8))) ?_
  refine XK.nil (g6 (aX ?_))
  exact ⟨k_2,by omega,⟨aG [(0,pS s0),(3,pS (v3++([0]:List UInt8)))],aj [],0,[]⟩,View.mk 0 [] _ _ _ rfl rfl (by decide) (iC (iC trivial)) trivial rfl zL rfl,(v3++([0]:List UInt8)),by omega,jG h,rfl⟩
 ·replace h:=fG h dU
  refine QW.exit zL (eD (eD (j3 (aX ?_))))
  refine sR ?_
  refine xm 15 (pS s0) ?_
  refine xs 16 rfl (gE (l:=s0) rfl TT.bY rfl ?_)
  obtain ⟨nU,h⟩:=gG h
  refine xs 17 rfl (wT (a:=(8:Int)) (b:=(s0.length:Int)) rfl rfl rfl nU ?_)
  refine xs 18 rfl (wY (n:=((8:Int)*(s0.length:Int))) rfl TT.kC TT.s6 rfl ?_)
  refine xz 4 (.d (.val (.int .u64 ((BitVec.ofInt 64 ((8:Int)*(s0.length:Int))).toNat:Int)))) ?_
  refine sR ?_
  refine xz 5 (pS ([]:List UInt8)) ?_
  refine QW.seq ?_
  refine sR ?_
  refine xz 6 (pI (0)) ?_
  refine QW.block ?_
  refine QW.loop (fun k σ=>∃ eJ:(List UInt8),∃ v4:(BitVec 64),∃ v5:(List UInt8),∃ v6:Int,k≤k_2∧run (ff s0) k (.L2 eJ v4 v5 v6)=some r∧σ=⟨aG [(3,pS eJ),(4, .d (.val (.int .u64 (v4.toNat:Int)))),(5,pS v5),(6,pI v6)],aj [],0,[]⟩) k_2 zL ⟨⟨aG [(3,pS v3),(4, .d (.val (.int .u64 ((BitVec.ofInt 64 ((8:Int)*(s0.length:Int))).toNat:Int)))),(5,pS ([]:List UInt8)),(6,pI (0))],aj [],0,[]⟩,View.mk 0 [] _ _ _ rfl rfl (by decide) (iC (iC (iC (iC trivial)))) trivial rfl zL rfl,v3,(BitVec.ofInt 64 ((8:Int)*(s0.length:Int))),([]:List UInt8),0,Nat.le_refl _,jG h,rfl⟩ ?_
  rintro Y3 _ ⟨eJ,v4,v5,v6,Y4,h,rfl⟩
  obtain ⟨Xu,rfl,h9⟩:=aQ h;replace h:=h9;clear h9;rw [ff] at h
  refine QW.seq ?_
  refine sR ?_
  refine xm 19 (pI v6) ?_
  refine xs 20 rfl (cJ (a:=v6) (b:=(8:Int)) rfl rfl rfl ?_)
  refine XK.nz ?_
  refine QW.cond (t:=(decide (v6<(8:Int)))) rfl zL (fun rV=>?_) (fun rV=>?_)
  ·replace h:=fF h rV
   refine QW.skip zL (aX ?_)
   refine QW.seq ?_
   refine QW.block ?_
   refine sR ?_
   refine xm 23 (.d (.val (.int .u64 (v4.toNat:Int)))) ?_
   refine xs 24 rfl (A0 (a:=v4) (b:=(256:BitVec 64)) rfl rfl rfl (by decide) ?_)
   refine xs 25 rfl (n6 (n:=((v4%(256:BitVec 64)).toNat:Int)) rfl TT.s6 TT.dR rfl ?_)
   refine xs 26 rfl (ef (en:=U) (l:=([(gf ((v4%(256:BitVec 64)).toNat:Int))]:List UInt8)) rfl TT.e8 bx rfl rfl (by decide) (by simp [dw,cU,aB,dQ,PV.cz,cx,aG,jA,iU,jX,bU,Value.oneCell']) ?_)
   refine xs 27 rfl (nS (l:=([(gf ((v4%(256:BitVec 64)).toNat:Int))]:List UInt8)) rfl TT.bA TT.dR TT.bY rfl ?_)
   refine xm 28 (pS v5) ?_
   obtain ⟨p5,h⟩:=gG h
   refine xs 29 rfl (lf (a:=([(gf ((v4%(256:BitVec 64)).toNat:Int))]:List UInt8)) (b:=v5) rfl rfl rfl p5 ?_)
   refine xz 5 (pS (([(gf ((v4%(256:BitVec 64)).toNat:Int))]:List UInt8)++v5)) ?_
   refine rG ?_
   refine xm 30 (.d (.val (.int .u64 (v4.toNat:Int)))) ?_
   refine xs 31 rfl (AZ (a:=v4) (b:=(256:BitVec 64)) rfl rfl rfl (by decide) ?_)
   refine xa 4 (.d (.val (.int .u64 ((v4/(256:BitVec 64)).toNat:Int)))) ?_
   refine XK.nil (g6 (aX ?_))
   refine rG ?_
   refine xm 21 (pI v6) ?_
   obtain ⟨qG,h⟩:=gG h
   refine xs 22 rfl (bX (a:=v6) (b:=(1:Int)) rfl rfl rfl qG ?_)
   refine xz 6 (pI (v6+(1:Int))) ?_
   exact ⟨Xu,by omega,⟨aG [(3,pS eJ),(4, .d (.val (.int .u64 ((v4/(256:BitVec 64)).toNat:Int)))),(5,pS (([(gf ((v4%(256:BitVec 64)).toNat:Int))]:List UInt8)++v5)),(6,pI (v6+(1:Int)))],aj [],0,[]⟩,View.mk 0 [] _ _ _ rfl rfl (by decide) (iC (iC (iC (iC trivial)))) trivial rfl zL rfl,eJ,(v4/(256:BitVec 64)),(([(gf ((v4%(256:BitVec 64)).toNat:Int))]:List UInt8)++v5),(v6+(1:Int)),by omega,jG h,rfl⟩
  ·replace h:=fG h rV
   refine QW.exit zL (eD (eD (j3 (aX ?_))))
   refine sR ?_
   refine xm 32 (pS eJ) ?_
   refine xm 33 (pS v5) ?_
   obtain ⟨ow,h⟩:=gG h
   refine xs 34 rfl (lf (a:=eJ) (b:=v5) rfl rfl rfl ow ?_)
   refine xz 2 (pS (eJ++v5)) ?_
   refine QW.ret zL ?_
   obtain rfl:=sG h
   exact Ends.one (.inr rfl) rfl (aI.tmp rfl) rfl rfl
inductive BP where
 | S
 | L1 (jW:(BitVec 64)) (v5:Int)
noncomputable def ki (x0:(BitVec 64)) (n1:Int):BP→Option (BP⊕(BitVec 64))
 | .S=>
  some (.inl (.L1 x0 (0)))
 | .L1 jW v5=>
  (bif (decide (v5<n1)) then
  gO (bw (v5+(1:Int))) (
  some (.inl (.L1 ((jW/(2:BitVec 64))+((jW%(2:BitVec 64))*(2147483648:BitVec 64))) (v5+(1:Int)))))
  else
  some (.inr jW))
noncomputable def dN (x0:(BitVec 64)) (n1:Int):Option (BitVec 64):=g9 (ki x0 n1) .S
theorem iw (x0:(BitVec 64)) (n1:Int) (r:(BitVec 64)) (h:dN x0 n1=some r):bI Tryz.prog 90 [.val (.int .u64 (x0.toNat:Int)), .val (.int .i64 n1)] (.val (.int .u64 (r.toNat:Int))):=by
 refine bI.aU Tryz.func90 rfl (by simp [Tryz.ntmps90]) ?_
 rw [Tryz.ntmps90,TT.Vv]
 refine QW.view (s':=⟨aG [(0, .d (.val (.int .u64 (x0.toNat:Int)))),(1,pI n1)],aj [],0,[]⟩) (View.init (by rfl)) zL ?_
 replace h:=cL h
 obtain ⟨_,h⟩:=h
 obtain ⟨dm,rfl,h9⟩:=aQ h;replace h:=h9;clear h9;rw [ki] at h
 refine sR ?_
 refine xz 4 (.d (.val (.int .u64 ((0:BitVec 64).toNat:Int)))) ?_
 refine QW.seq ?_
 refine sR ?_
 refine xz 5 (pI (0)) ?_
 refine QW.block ?_
 refine QW.loop (fun k σ=>∃ jW:(BitVec 64),∃ v5:Int,k≤dm∧run (ki x0 n1) k (.L1 jW v5)=some r∧σ=⟨aG [(0, .d (.val (.int .u64 (jW.toNat:Int)))),(1,pI n1),(5,pI v5)],aj [],0,[]⟩) dm zL ⟨⟨aG [(0, .d (.val (.int .u64 (x0.toNat:Int)))),(1,pI n1),(5,pI (0))],aj [],0,[]⟩,View.mk 0 [] _ _ _ rfl rfl (by decide) (iC (iC (iC trivial))) trivial rfl zL rfl,x0,0,Nat.le_refl _,jG h,rfl⟩ ?_
 rintro rO _ ⟨jW,v5,rP,h,rfl⟩
 obtain ⟨k_1,rfl,h9⟩:=aQ h;replace h:=h9;clear h9;rw [ki] at h
 refine QW.seq ?_
 refine sR ?_
 refine xm 6 (pI v5) ?_
 refine xm 7 (pI n1) ?_
 refine xs 8 rfl (cJ (a:=v5) (b:=n1) rfl rfl rfl ?_)
 refine XK.nz ?_
 refine QW.cond (t:=(decide (v5<n1))) rfl zL (fun cB=>?_) (fun cB=>?_)
 ·replace h:=fF h cB
  refine QW.skip zL (aX ?_)
  refine QW.seq ?_
  refine QW.block ?_
  refine rG ?_
  refine xm 11 (.d (.val (.int .u64 (jW.toNat:Int)))) ?_
  refine xs 12 rfl (AZ (a:=jW) (b:=(2:BitVec 64)) rfl rfl rfl (by decide) ?_)
  refine xm 13 (.d (.val (.int .u64 (jW.toNat:Int)))) ?_
  refine xs 14 rfl (A0 (a:=jW) (b:=(2:BitVec 64)) rfl rfl rfl (by decide) ?_)
  refine xs 15 rfl (Ea (a:=(jW%(2:BitVec 64))) (b:=(2147483648:BitVec 64)) rfl rfl rfl ?_)
  refine xs 16 rfl (fU (a:=(jW/(2:BitVec 64))) (b:=((jW%(2:BitVec 64))*(2147483648:BitVec 64))) rfl rfl rfl ?_)
  refine xa 0 (.d (.val (.int .u64 (((jW/(2:BitVec 64))+((jW%(2:BitVec 64))*(2147483648:BitVec 64))).toNat:Int)))) ?_
  refine XK.nil (g6 (aX ?_))
  refine rG ?_
  refine xm 9 (pI v5) ?_
  obtain ⟨dS,h⟩:=gG h
  refine xs 10 rfl (bX (a:=v5) (b:=(1:Int)) rfl rfl rfl dS ?_)
  refine xz 5 (pI (v5+(1:Int))) ?_
  exact ⟨k_1,by omega,⟨aG [(0, .d (.val (.int .u64 (((jW/(2:BitVec 64))+((jW%(2:BitVec 64))*(2147483648:BitVec 64))).toNat:Int)))),(1,pI n1),(5,pI (v5+(1:Int)))],aj [],0,[]⟩,View.mk 0 [] _ _ _ rfl rfl (by decide) (iC (iC (iC trivial))) trivial rfl zL rfl,((jW/(2:BitVec 64))+((jW%(2:BitVec 64))*(2147483648:BitVec 64))),(v5+(1:Int)),by omega,jG h,rfl⟩
 ·replace h:=fG h cB
  refine QW.exit zL (eD (eD (j3 (aX ?_))))
  refine sR ?_
  refine xm 17 (.d (.val (.int .u64 (jW.toNat:Int)))) ?_
  refine xz 4 (.d (.val (.int .u64 (jW.toNat:Int)))) ?_
  refine QW.ret zL ?_
  obtain rfl:=sG h
  exact Ends.one (.inr rfl) rfl (aI.tmp rfl) rfl rfl
inductive Au where
 | S
 | L1 (jW:(BitVec 64)) (v5:Int)
noncomputable def iT (x0:(BitVec 64)) (n1:Int):Au→Option (Au⊕(BitVec 64))
 | .S=>
  some (.inl (.L1 x0 (0)))
 | .L1 jW v5=>
  (bif (decide (v5<n1)) then
  gO (bw (v5+(1:Int))) (
  some (.inl (.L1 (jW/(2:BitVec 64)) (v5+(1:Int)))))
  else
  some (.inr jW))
noncomputable def nr (x0:(BitVec 64)) (n1:Int):Option (BitVec 64):=g9 (iT x0 n1) .S
theorem yo (x0:(BitVec 64)) (n1:Int) (r:(BitVec 64)) (h:nr x0 n1=some r):bI Tryz.prog 91 [.val (.int .u64 (x0.toNat:Int)), .val (.int .i64 n1)] (.val (.int .u64 (r.toNat:Int))):=by
 refine bI.aU Tryz.func91 rfl (by simp [Tryz.ntmps91]) ?_
 rw [Tryz.ntmps91,TT.Vw]
 refine QW.view (s':=⟨aG [(0, .d (.val (.int .u64 (x0.toNat:Int)))),(1,pI n1)],aj [],0,[]⟩) (View.init (by rfl)) zL ?_
 replace h:=cL h
 obtain ⟨_,h⟩:=h
 obtain ⟨dm,rfl,h9⟩:=aQ h;replace h:=h9;clear h9;rw [iT] at h
 refine sR ?_
 refine xz 4 (.d (.val (.int .u64 ((0:BitVec 64).toNat:Int)))) ?_
 refine QW.seq ?_
 refine sR ?_
 refine xz 5 (pI (0)) ?_
 refine QW.block ?_
 refine QW.loop (fun k σ=>∃ jW:(BitVec 64),∃ v5:Int,k≤dm∧run (iT x0 n1) k (.L1 jW v5)=some r∧σ=⟨aG [(0, .d (.val (.int .u64 (jW.toNat:Int)))),(1,pI n1),(5,pI v5)],aj [],0,[]⟩) dm zL ⟨⟨aG [(0, .d (.val (.int .u64 (x0.toNat:Int)))),(1,pI n1),(5,pI (0))],aj [],0,[]⟩,View.mk 0 [] _ _ _ rfl rfl (by decide) (iC (iC (iC trivial))) trivial rfl zL rfl,x0,0,Nat.le_refl _,jG h,rfl⟩ ?_
 rintro rO _ ⟨jW,v5,rP,h,rfl⟩
 obtain ⟨k_1,rfl,h9⟩:=aQ h;replace h:=h9;clear h9;rw [iT] at h
 refine QW.seq ?_
 refine sR ?_
 refine xm 6 (pI v5) ?_
 refine xm 7 (pI n1) ?_
 refine xs 8 rfl (cJ (a:=v5) (b:=n1) rfl rfl rfl ?_)
 refine XK.nz ?_
 refine QW.cond (t:=(decide (v5<n1))) rfl zL (fun cB=>?_) (fun cB=>?_)
 ·replace h:=fF h cB
  refine QW.skip zL (aX ?_)
  refine QW.seq ?_
  refine QW.block ?_
  refine rG ?_
  refine xm 11 (.d (.val (.int .u64 (jW.toNat:Int)))) ?_
  refine xs 12 rfl (AZ (a:=jW) (b:=(2:BitVec 64)) rfl rfl rfl (by decide) ?_)
  refine xa 0 (.d (.val (.int .u64 ((jW/(2:BitVec 64)).toNat:Int)))) ?_
  refine XK.nil (g6 (aX ?_))
  refine rG ?_
  refine xm 9 (pI v5) ?_
  obtain ⟨dS,h⟩:=gG h
  refine xs 10 rfl (bX (a:=v5) (b:=(1:Int)) rfl rfl rfl dS ?_)
  refine xz 5 (pI (v5+(1:Int))) ?_
  exact ⟨k_1,by omega,⟨aG [(0, .d (.val (.int .u64 ((jW/(2:BitVec 64)).toNat:Int)))),(1,pI n1),(5,pI (v5+(1:Int)))],aj [],0,[]⟩,View.mk 0 [] _ _ _ rfl rfl (by decide) (iC (iC (iC trivial))) trivial rfl zL rfl,(jW/(2:BitVec 64)),(v5+(1:Int)),by omega,jG h,rfl⟩
 ·replace h:=fG h cB
  refine QW.exit zL (eD (eD (j3 (aX ?_))))
  refine sR ?_
  refine xm 13 (.d (.val (.int .u64 (jW.toNat:Int)))) ?_
  refine xz 4 (.d (.val (.int .u64 (jW.toNat:Int)))) ?_
  refine QW.ret zL ?_
  obtain rfl:=sG h
  exact Ends.one (.inr rfl) rfl (aI.tmp rfl) rfl rfl
noncomputable def kA (x0:(BitVec 64)):Option (BitVec 64):=
  some (x0%(4294967296:BitVec 64))
theorem nu (x0:(BitVec 64)) (r:(BitVec 64)) (h:kA x0=some r):bI Tryz.prog 92 [.val (.int .u64 (x0.toNat:Int))] (.val (.int .u64 (r.toNat:Int))):=by
 refine bI.aU Tryz.func92 rfl (by simp [Tryz.ntmps92]) ?_
 rw [Tryz.ntmps92,TT.Vx]
 refine QW.view (s':=⟨aG [(0, .d (.val (.int .u64 (x0.toNat:Int))))],aj [],0,[]⟩) (View.init (by rfl)) zL ?_
 unfold kA at h
 refine sR ?_
 refine xz 2 (.d (.val (.int .u64 ((0:BitVec 64).toNat:Int)))) ?_
 refine sR ?_
 refine xm 3 (.d (.val (.int .u64 (x0.toNat:Int)))) ?_
 refine xs 4 rfl (A0 (a:=x0) (b:=(4294967296:BitVec 64)) rfl rfl rfl (by decide) ?_)
 refine xz 2 (.d (.val (.int .u64 ((x0%(4294967296:BitVec 64)).toNat:Int)))) ?_
 refine QW.ret zL ?_
 obtain rfl:=sO h
 exact Ends.one (.inr rfl) rfl (aI.tmp rfl) rfl rfl
noncomputable def y9 (i0:Int):Option (BitVec 64):=
  gO (0≤i0∧i0<(([(1116352408:BitVec 64),(1899447441:BitVec 64),(3049323471:BitVec 64),(3921009573:BitVec 64),(961987163:BitVec 64),(1508970993:BitVec 64),(2453635748:BitVec 64),(2870763221:BitVec 64),(3624381080:BitVec 64),(310598401:BitVec 64),(607225278:BitVec 64),(1426881987:BitVec 64),(1925078388:BitVec 64),(2162078206:BitVec 64),(2614888103:BitVec 64),(3248222580:BitVec 64),(3835390401:BitVec 64),(4022224774:BitVec 64),(264347078:BitVec 64),(604807628:BitVec 64),(770255983:BitVec 64),(1249150122:BitVec 64),(1555081692:BitVec 64),(1996064986:BitVec 64),(2554220882:BitVec 64),(2821834349:BitVec 64),(2952996808:BitVec 64),(3210313671:BitVec 64),(3336571891:BitVec 64),(3584528711:BitVec 64),(113926993:BitVec 64),(338241895:BitVec 64),(666307205:BitVec 64),(773529912:BitVec 64),(1294757372:BitVec 64),(1396182291:BitVec 64),(1695183700:BitVec 64),(1986661051:BitVec 64),(2177026350:BitVec 64),(2456956037:BitVec 64),(2730485921:BitVec 64),(2820302411:BitVec 64),(3259730800:BitVec 64),(3345764771:BitVec 64),(3516065817:BitVec 64),(3600352804:BitVec 64),(4094571909:BitVec 64),(275423344:BitVec 64),(430227734:BitVec 64),(506948616:BitVec 64),(659060556:BitVec 64),(883997877:BitVec 64),(958139571:BitVec 64),(1322822218:BitVec 64),(1537002063:BitVec 64),(1747873779:BitVec 64),(1955562222:BitVec 64),(2024104815:BitVec 64),(2227730452:BitVec 64),(2361852424:BitVec 64),(2428436474:BitVec 64),(2756734187:BitVec 64),(3204031479:BitVec 64),(3329325298:BitVec 64)]:List (BitVec 64)).length:Int)) (
  some (idx ([(1116352408:BitVec 64),(1899447441:BitVec 64),(3049323471:BitVec 64),(3921009573:BitVec 64),(961987163:BitVec 64),(1508970993:BitVec 64),(2453635748:BitVec 64),(2870763221:BitVec 64),(3624381080:BitVec 64),(310598401:BitVec 64),(607225278:BitVec 64),(1426881987:BitVec 64),(1925078388:BitVec 64),(2162078206:BitVec 64),(2614888103:BitVec 64),(3248222580:BitVec 64),(3835390401:BitVec 64),(4022224774:BitVec 64),(264347078:BitVec 64),(604807628:BitVec 64),(770255983:BitVec 64),(1249150122:BitVec 64),(1555081692:BitVec 64),(1996064986:BitVec 64),(2554220882:BitVec 64),(2821834349:BitVec 64),(2952996808:BitVec 64),(3210313671:BitVec 64),(3336571891:BitVec 64),(3584528711:BitVec 64),(113926993:BitVec 64),(338241895:BitVec 64),(666307205:BitVec 64),(773529912:BitVec 64),(1294757372:BitVec 64),(1396182291:BitVec 64),(1695183700:BitVec 64),(1986661051:BitVec 64),(2177026350:BitVec 64),(2456956037:BitVec 64),(2730485921:BitVec 64),(2820302411:BitVec 64),(3259730800:BitVec 64),(3345764771:BitVec 64),(3516065817:BitVec 64),(3600352804:BitVec 64),(4094571909:BitVec 64),(275423344:BitVec 64),(430227734:BitVec 64),(506948616:BitVec 64),(659060556:BitVec 64),(883997877:BitVec 64),(958139571:BitVec 64),(1322822218:BitVec 64),(1537002063:BitVec 64),(1747873779:BitVec 64),(1955562222:BitVec 64),(2024104815:BitVec 64),(2227730452:BitVec 64),(2361852424:BitVec 64),(2428436474:BitVec 64),(2756734187:BitVec 64),(3204031479:BitVec 64),(3329325298:BitVec 64)]:List (BitVec 64)) i0))
theorem Kv (i0:Int) (r:(BitVec 64)) (h:y9 i0=some r):bI Tryz.prog 93 [.val (.int .i64 i0)] (.val (.int .u64 (r.toNat:Int))):=by
 refine bI.aU Tryz.func93 rfl (by simp [Tryz.ntmps93]) ?_
 rw [Tryz.ntmps93,TT.Vy]
 refine QW.view (s':=⟨aG [(0,pI i0)],aj [],0,[]⟩) (View.init (by rfl)) zL ?_
 unfold y9 at h
 refine sR ?_
 refine xz 2 (.d (.val (.int .u64 ((0:BitVec 64).toNat:Int)))) ?_
 refine sR ?_
 refine xs 4 rfl (ef (en:=ec) (l:=([(1116352408:BitVec 64),(1899447441:BitVec 64),(3049323471:BitVec 64),(3921009573:BitVec 64),(961987163:BitVec 64),(1508970993:BitVec 64),(2453635748:BitVec 64),(2870763221:BitVec 64),(3624381080:BitVec 64),(310598401:BitVec 64),(607225278:BitVec 64),(1426881987:BitVec 64),(1925078388:BitVec 64),(2162078206:BitVec 64),(2614888103:BitVec 64),(3248222580:BitVec 64),(3835390401:BitVec 64),(4022224774:BitVec 64),(264347078:BitVec 64),(604807628:BitVec 64),(770255983:BitVec 64),(1249150122:BitVec 64),(1555081692:BitVec 64),(1996064986:BitVec 64),(2554220882:BitVec 64),(2821834349:BitVec 64),(2952996808:BitVec 64),(3210313671:BitVec 64),(3336571891:BitVec 64),(3584528711:BitVec 64),(113926993:BitVec 64),(338241895:BitVec 64),(666307205:BitVec 64),(773529912:BitVec 64),(1294757372:BitVec 64),(1396182291:BitVec 64),(1695183700:BitVec 64),(1986661051:BitVec 64),(2177026350:BitVec 64),(2456956037:BitVec 64),(2730485921:BitVec 64),(2820302411:BitVec 64),(3259730800:BitVec 64),(3345764771:BitVec 64),(3516065817:BitVec 64),(3600352804:BitVec 64),(4094571909:BitVec 64),(275423344:BitVec 64),(430227734:BitVec 64),(506948616:BitVec 64),(659060556:BitVec 64),(883997877:BitVec 64),(958139571:BitVec 64),(1322822218:BitVec 64),(1537002063:BitVec 64),(1747873779:BitVec 64),(1955562222:BitVec 64),(2024104815:BitVec 64),(2227730452:BitVec 64),(2361852424:BitVec 64),(2428436474:BitVec 64),(2756734187:BitVec 64),(3204031479:BitVec 64),(3329325298:BitVec 64)]:List (BitVec 64))) rfl TT.nq fC rfl rfl (by decide) (by simp [dw,cU,aB,dQ,PV.cz,cx,aG,jA,iU,jX,bU,Value.oneCell']) ?_)
 refine xz 3 (.full (([(1116352408:BitVec 64),(1899447441:BitVec 64),(3049323471:BitVec 64),(3921009573:BitVec 64),(961987163:BitVec 64),(1508970993:BitVec 64),(2453635748:BitVec 64),(2870763221:BitVec 64),(3624381080:BitVec 64),(310598401:BitVec 64),(607225278:BitVec 64),(1426881987:BitVec 64),(1925078388:BitVec 64),(2162078206:BitVec 64),(2614888103:BitVec 64),(3248222580:BitVec 64),(3835390401:BitVec 64),(4022224774:BitVec 64),(264347078:BitVec 64),(604807628:BitVec 64),(770255983:BitVec 64),(1249150122:BitVec 64),(1555081692:BitVec 64),(1996064986:BitVec 64),(2554220882:BitVec 64),(2821834349:BitVec 64),(2952996808:BitVec 64),(3210313671:BitVec 64),(3336571891:BitVec 64),(3584528711:BitVec 64),(113926993:BitVec 64),(338241895:BitVec 64),(666307205:BitVec 64),(773529912:BitVec 64),(1294757372:BitVec 64),(1396182291:BitVec 64),(1695183700:BitVec 64),(1986661051:BitVec 64),(2177026350:BitVec 64),(2456956037:BitVec 64),(2730485921:BitVec 64),(2820302411:BitVec 64),(3259730800:BitVec 64),(3345764771:BitVec 64),(3516065817:BitVec 64),(3600352804:BitVec 64),(4094571909:BitVec 64),(275423344:BitVec 64),(430227734:BitVec 64),(506948616:BitVec 64),(659060556:BitVec 64),(883997877:BitVec 64),(958139571:BitVec 64),(1322822218:BitVec 64),(1537002063:BitVec 64),(1747873779:BitVec 64),(1955562222:BitVec 64),(2024104815:BitVec 64),(2227730452:BitVec 64),(2361852424:BitVec 64),(2428436474:BitVec 64),(2756734187:BitVec 64),(3204031479:BitVec 64),(3329325298:BitVec 64)]:List (BitVec 64)).map ec)) ?_
 refine sR ?_
 refine xm 5 (.full (([(1116352408:BitVec 64),(1899447441:BitVec 64),(3049323471:BitVec 64),(3921009573:BitVec 64),(961987163:BitVec 64),(1508970993:BitVec 64),(2453635748:BitVec 64),(2870763221:BitVec 64),(3624381080:BitVec 64),(310598401:BitVec 64),(607225278:BitVec 64),(1426881987:BitVec 64),(1925078388:BitVec 64),(2162078206:BitVec 64),(2614888103:BitVec 64),(3248222580:BitVec 64),(3835390401:BitVec 64),(4022224774:BitVec 64),(264347078:BitVec 64),(604807628:BitVec 64),(770255983:BitVec 64),(1249150122:BitVec 64),(1555081692:BitVec 64),(1996064986:BitVec 64),(2554220882:BitVec 64),(2821834349:BitVec 64),(2952996808:BitVec 64),(3210313671:BitVec 64),(3336571891:BitVec 64),(3584528711:BitVec 64),(113926993:BitVec 64),(338241895:BitVec 64),(666307205:BitVec 64),(773529912:BitVec 64),(1294757372:BitVec 64),(1396182291:BitVec 64),(1695183700:BitVec 64),(1986661051:BitVec 64),(2177026350:BitVec 64),(2456956037:BitVec 64),(2730485921:BitVec 64),(2820302411:BitVec 64),(3259730800:BitVec 64),(3345764771:BitVec 64),(3516065817:BitVec 64),(3600352804:BitVec 64),(4094571909:BitVec 64),(275423344:BitVec 64),(430227734:BitVec 64),(506948616:BitVec 64),(659060556:BitVec 64),(883997877:BitVec 64),(958139571:BitVec 64),(1322822218:BitVec 64),(1537002063:BitVec 64),(1747873779:BitVec 64),(1955562222:BitVec 64),(2024104815:BitVec 64),(2227730452:BitVec 64),(2361852424:BitVec 64),(2428436474:BitVec 64),(2756734187:BitVec 64),(3204031479:BitVec 64),(3329325298:BitVec 64)]:List (BitVec 64)).map ec)) ?_
 refine xm 6 (pI i0) ?_
 obtain ⟨nV,h⟩:=bk h
 refine xs 7 rfl (bC (l:=([(1116352408:BitVec 64),(1899447441:BitVec 64),(3049323471:BitVec 64),(3921009573:BitVec 64),(961987163:BitVec 64),(1508970993:BitVec 64),(2453635748:BitVec 64),(2870763221:BitVec 64),(3624381080:BitVec 64),(310598401:BitVec 64),(607225278:BitVec 64),(1426881987:BitVec 64),(1925078388:BitVec 64),(2162078206:BitVec 64),(2614888103:BitVec 64),(3248222580:BitVec 64),(3835390401:BitVec 64),(4022224774:BitVec 64),(264347078:BitVec 64),(604807628:BitVec 64),(770255983:BitVec 64),(1249150122:BitVec 64),(1555081692:BitVec 64),(1996064986:BitVec 64),(2554220882:BitVec 64),(2821834349:BitVec 64),(2952996808:BitVec 64),(3210313671:BitVec 64),(3336571891:BitVec 64),(3584528711:BitVec 64),(113926993:BitVec 64),(338241895:BitVec 64),(666307205:BitVec 64),(773529912:BitVec 64),(1294757372:BitVec 64),(1396182291:BitVec 64),(1695183700:BitVec 64),(1986661051:BitVec 64),(2177026350:BitVec 64),(2456956037:BitVec 64),(2730485921:BitVec 64),(2820302411:BitVec 64),(3259730800:BitVec 64),(3345764771:BitVec 64),(3516065817:BitVec 64),(3600352804:BitVec 64),(4094571909:BitVec 64),(275423344:BitVec 64),(430227734:BitVec 64),(506948616:BitVec 64),(659060556:BitVec 64),(883997877:BitVec 64),(958139571:BitVec 64),(1322822218:BitVec 64),(1537002063:BitVec 64),(1747873779:BitVec 64),(1955562222:BitVec 64),(2024104815:BitVec 64),(2227730452:BitVec 64),(2361852424:BitVec 64),(2428436474:BitVec 64),(2756734187:BitVec 64),(3204031479:BitVec 64),(3329325298:BitVec 64)]:List (BitVec 64))) (i:=i0) rfl TT.fH fC rfl rfl nV ?_)
 refine xs 8 rfl (aC (d:= .val (.int .u64 ((idx ([(1116352408:BitVec 64),(1899447441:BitVec 64),(3049323471:BitVec 64),(3921009573:BitVec 64),(961987163:BitVec 64),(1508970993:BitVec 64),(2453635748:BitVec 64),(2870763221:BitVec 64),(3624381080:BitVec 64),(310598401:BitVec 64),(607225278:BitVec 64),(1426881987:BitVec 64),(1925078388:BitVec 64),(2162078206:BitVec 64),(2614888103:BitVec 64),(3248222580:BitVec 64),(3835390401:BitVec 64),(4022224774:BitVec 64),(264347078:BitVec 64),(604807628:BitVec 64),(770255983:BitVec 64),(1249150122:BitVec 64),(1555081692:BitVec 64),(1996064986:BitVec 64),(2554220882:BitVec 64),(2821834349:BitVec 64),(2952996808:BitVec 64),(3210313671:BitVec 64),(3336571891:BitVec 64),(3584528711:BitVec 64),(113926993:BitVec 64),(338241895:BitVec 64),(666307205:BitVec 64),(773529912:BitVec 64),(1294757372:BitVec 64),(1396182291:BitVec 64),(1695183700:BitVec 64),(1986661051:BitVec 64),(2177026350:BitVec 64),(2456956037:BitVec 64),(2730485921:BitVec 64),(2820302411:BitVec 64),(3259730800:BitVec 64),(3345764771:BitVec 64),(3516065817:BitVec 64),(3600352804:BitVec 64),(4094571909:BitVec 64),(275423344:BitVec 64),(430227734:BitVec 64),(506948616:BitVec 64),(659060556:BitVec 64),(883997877:BitVec 64),(958139571:BitVec 64),(1322822218:BitVec 64),(1537002063:BitVec 64),(1747873779:BitVec 64),(1955562222:BitVec 64),(2024104815:BitVec 64),(2227730452:BitVec 64),(2361852424:BitVec 64),(2428436474:BitVec 64),(2756734187:BitVec 64),(3204031479:BitVec 64),(3329325298:BitVec 64)]:List (BitVec 64)) i0).toNat:Int))) rfl TT.gI rfl (c8.one) ?_)
 refine xz 2 (.d (.val (.int .u64 ((idx ([(1116352408:BitVec 64),(1899447441:BitVec 64),(3049323471:BitVec 64),(3921009573:BitVec 64),(961987163:BitVec 64),(1508970993:BitVec 64),(2453635748:BitVec 64),(2870763221:BitVec 64),(3624381080:BitVec 64),(310598401:BitVec 64),(607225278:BitVec 64),(1426881987:BitVec 64),(1925078388:BitVec 64),(2162078206:BitVec 64),(2614888103:BitVec 64),(3248222580:BitVec 64),(3835390401:BitVec 64),(4022224774:BitVec 64),(264347078:BitVec 64),(604807628:BitVec 64),(770255983:BitVec 64),(1249150122:BitVec 64),(1555081692:BitVec 64),(1996064986:BitVec 64),(2554220882:BitVec 64),(2821834349:BitVec 64),(2952996808:BitVec 64),(3210313671:BitVec 64),(3336571891:BitVec 64),(3584528711:BitVec 64),(113926993:BitVec 64),(338241895:BitVec 64),(666307205:BitVec 64),(773529912:BitVec 64),(1294757372:BitVec 64),(1396182291:BitVec 64),(1695183700:BitVec 64),(1986661051:BitVec 64),(2177026350:BitVec 64),(2456956037:BitVec 64),(2730485921:BitVec 64),(2820302411:BitVec 64),(3259730800:BitVec 64),(3345764771:BitVec 64),(3516065817:BitVec 64),(3600352804:BitVec 64),(4094571909:BitVec 64),(275423344:BitVec 64),(430227734:BitVec 64),(506948616:BitVec 64),(659060556:BitVec 64),(883997877:BitVec 64),(958139571:BitVec 64),(1322822218:BitVec 64),(1537002063:BitVec 64),(1747873779:BitVec 64),(1955562222:BitVec 64),(2024104815:BitVec 64),(2227730452:BitVec 64),(2361852424:BitVec 64),(2428436474:BitVec 64),(2756734187:BitVec 64),(3204031479:BitVec 64),(3329325298:BitVec 64)]:List (BitVec 64)) i0).toNat:Int)))) ?_
 refine QW.ret zL ?_
 obtain rfl:=sO h
 exact Ends.one (.inr rfl) rfl (aI.tmp rfl) rfl rfl
inductive Av where
 | S
 | L1 (bJ:(List (BitVec 64))) (v6:Int)
 | L3 (oo:(List (BitVec 64))) (nW:Int) (j5:(BitVec 64)) (kK:Int)
 | J2 (g7:(List (BitVec 64))) (fA:Int)
 | L4 (kV:(List (BitVec 64))) (v11:(List (BitVec 64))) (j4:Int)
 | L5 (qQ:(List (BitVec 64))) (Aw:(List (BitVec 64))) (v20:Int)
noncomputable def bS (h0:(List (BitVec 64))) (s1:(List UInt8)):Av→Option (Av⊕(List (BitVec 64)))
 | .S=>
  some (.inl (.L1 ([]:(List (BitVec 64))) (0)))
 | .L1 bJ v6=>
  (bif (decide (v6<(64:Int))) then
  (bif (decide (v6<(16:Int))) then
  gO (bw ((4:Int)*v6)) (
  some (.inl (.L3 bJ v6 (0:BitVec 64) ((4:Int)*v6))))
  else
  gO (bw (v6-(15:Int))) (
  gO (0≤(v6-(15:Int))∧(v6-(15:Int))<(bJ.length:Int)) (
  gO (bw (v6-(2:Int))) (
  gO (0≤(v6-(2:Int))∧(v6-(2:Int))<(bJ.length:Int)) (
  ((dN (idx bJ (v6-(15:Int))) (7)).bind fun (x_16:(BitVec 64))=>
  ((dN (idx bJ (v6-(15:Int))) (18)).bind fun (x_18:(BitVec 64))=>
  ((nr (idx bJ (v6-(15:Int))) (3)).bind fun (x_20:(BitVec 64))=>
  ((dN (idx bJ (v6-(2:Int))) (17)).bind fun (x_22:(BitVec 64))=>
  ((dN (idx bJ (v6-(2:Int))) (19)).bind fun (x_24:(BitVec 64))=>
  ((nr (idx bJ (v6-(2:Int))) (10)).bind fun (ym:(BitVec 64))=>
  gO (bw (v6-(16:Int))) (
  gO (0≤(v6-(16:Int))∧(v6-(16:Int))<(bJ.length:Int)) (
  gO (bw (v6-(7:Int))) (
  gO (0≤(v6-(7:Int))∧(v6-(7:Int))<(bJ.length:Int)) (
  ((kA ((((idx bJ (v6-(16:Int)))+((x_16^^^x_18)^^^x_20))+(idx bJ (v6-(7:Int))))+((x_22^^^x_24)^^^ym))).bind fun (sN:(BitVec 64))=>
  gO ((bJ.length+([sN]:List (BitVec 64)).length)*8≤140737488355328) (
  some (.inl (.J2 (bJ++([sN]:List (BitVec 64))) v6)))))))))))))))))))
  else
  gO ((([]:List (BitVec 64)).length+h0.length)*8≤140737488355328) (
  some (.inl (.L4 bJ (([]:List (BitVec 64))++h0) (0)))))
 | .L3 oo nW j5 kK=>
  gO (bw ((4:Int)*nW)) (
  gO (bw (((4:Int)*nW)+(4:Int))) (
  (bif (decide (kK<(((4:Int)*nW)+(4:Int)))) then
  gO (0≤kK∧kK<(s1.length:Int)) (
  gO (bw (kK+(1:Int))) (
  some (.inl (.L3 oo nW (((256:BitVec 64)*j5)+(BitVec.ofInt 64 ((idx s1 kK).toNat:Int))) (kK+(1:Int))))))
  else
  gO ((oo.length+([j5]:List (BitVec 64)).length)*8≤140737488355328) (
  some (.inl (.J2 (oo++([j5]:List (BitVec 64))) nW))))))
 | .J2 g7 fA=>
  gO (bw (fA+(1:Int))) (
  some (.inl (.L1 g7 (fA+(1:Int)))))
 | .L4 kV v11 j4=>
  (bif (decide (j4<(64:Int))) then
  gO (0≤(4:Int)∧(4:Int)<(v11.length:Int)) (
  gO (0≤(0:Int)∧(0:Int)<(v11.length:Int)) (
  gO (0≤(5:Int)∧(5:Int)<(v11.length:Int)) (
  gO (0≤(6:Int)∧(6:Int)<(v11.length:Int)) (
  gO (0≤(1:Int)∧(1:Int)<(v11.length:Int)) (
  gO (0≤(2:Int)∧(2:Int)<(v11.length:Int)) (
  gO (0≤(1:Int)∧(1:Int)<(v11.length:Int)) (
  gO (0≤(2:Int)∧(2:Int)<(v11.length:Int)) (
  gO (0≤(7:Int)∧(7:Int)<(v11.length:Int)) (
  ((dN (idx v11 (4:Int)) (6)).bind fun (Dr:(BitVec 64))=>
  ((dN (idx v11 (4:Int)) (11)).bind fun (Ds:(BitVec 64))=>
  ((dN (idx v11 (4:Int)) (25)).bind fun (E6:(BitVec 64))=>
  ((y9 j4).bind fun (Mh:(BitVec 64))=>
  gO (0≤j4∧j4<(kV.length:Int)) (
  ((kA (((((idx v11 (7:Int))+((Dr^^^Ds)^^^E6))+(((idx v11 (4:Int))&&& (idx v11 (5:Int)))||| (((4294967295:BitVec 64)-(idx v11 (4:Int)))&&& (idx v11 (6:Int)))))+Mh)+(idx kV j4))).bind fun (Ax:(BitVec 64))=>
  ((dN (idx v11 (0:Int)) (2)).bind fun (Jp:(BitVec 64))=>
  ((dN (idx v11 (0:Int)) (13)).bind fun (Jq:(BitVec 64))=>
  ((dN (idx v11 (0:Int)) (22)).bind fun (Mi:(BitVec 64))=>
  ((kA (((Jp^^^Jq)^^^Mi)+((((idx v11 (0:Int))&&& (idx v11 (1:Int)))||| ((idx v11 (0:Int))&&& (idx v11 (2:Int))))||| ((idx v11 (1:Int))&&& (idx v11 (2:Int)))))).bind fun (Jr:(BitVec 64))=>
  ((kA (Ax+Jr)).bind fun (Hj:(BitVec 64))=>
  gO (0≤(0:Int)∧(0:Int)<(v11.length:Int)) (
  gO (0≤(1:Int)∧(1:Int)<(v11.length:Int)) (
  gO (0≤(2:Int)∧(2:Int)<(v11.length:Int)) (
  gO (0≤(3:Int)∧(3:Int)<(v11.length:Int)) (
  ((kA ((idx v11 (3:Int))+Ax)).bind fun (Hl:(BitVec 64))=>
  gO (0≤(4:Int)∧(4:Int)<(v11.length:Int)) (
  gO (0≤(5:Int)∧(5:Int)<(v11.length:Int)) (
  gO (0≤(6:Int)∧(6:Int)<(v11.length:Int)) (
  gO (bw (j4+(1:Int))) (
  some (.inl (.L4 kV ([Hj,(idx v11 (0:Int)),(idx v11 (1:Int)),(idx v11 (2:Int)),Hl,(idx v11 (4:Int)),(idx v11 (5:Int)),(idx v11 (6:Int))]:List (BitVec 64)) (j4+(1:Int)))))))))))))))))))))))))))))))))
  else
  some (.inl (.L5 v11 ([]:(List (BitVec 64))) (0))))
 | .L5 qQ Aw v20=>
  (bif (decide (v20<(8:Int))) then
  gO (0≤v20∧v20<(h0.length:Int)) (
  gO (0≤v20∧v20<(qQ.length:Int)) (
  ((kA ((idx h0 v20)+(idx qQ v20))).bind fun (Dt:(BitVec 64))=>
  gO ((Aw.length+([Dt]:List (BitVec 64)).length)*8≤140737488355328) (
  gO (bw (v20+(1:Int))) (
  some (.inl (.L5 qQ (Aw++([Dt]:List (BitVec 64))) (v20+(1:Int)))))))))
  else
  some (.inr Aw))
noncomputable def wg (h0:(List (BitVec 64))) (s1:(List UInt8)):Option (List (BitVec 64)):=g9 (bS h0 s1) .S
theorem Ej (h0:(List (BitVec 64))) (s1:(List UInt8)) (r:(List (BitVec 64))) (h:wg h0 s1=some r):bI Tryz.prog 66 [.slice (h0.map ec), .val (sV s1)] (.slice (r.map ec)):=by
 refine bI.aU Tryz.func66 rfl (by simp [Tryz.ntmps66]) ?_
 rw [Tryz.ntmps66,TT.Vu]
 refine QW.view (s':=⟨aG [(0, .d (.slice (h0.map ec))),(1,pS s1)],aj [],0,[]⟩) (View.init (by rfl)) zL ?_
 replace h:=cL h
 obtain ⟨_,h⟩:=h
 obtain ⟨dm,rfl,h9⟩:=aQ h;replace h:=h9;clear h9;rw [bS] at h
 refine sR ?_
 refine xz 4 (.full (([]:(List (BitVec 64))).map ec)) ?_
 refine sR ?_
 refine xz 5 (.full (([]:(List (BitVec 64))).map ec)) ?_
 refine QW.seq ?_
 refine sR ?_
 refine xz 6 (pI (0)) ?_
 refine QW.block ?_
 refine QW.loop (fun k σ=>∃ bJ:(List (BitVec 64)),∃ v6:Int,k≤dm∧run (bS h0 s1) k (.L1 bJ v6)=some r∧σ=⟨aG [(0, .d (.slice (h0.map ec))),(1,pS s1),(5, .own 0 (bJ.map ec)),(6,pI v6)],aj [.spare 1 bJ.length],1,[]⟩) dm zL ⟨⟨aG [(0, .d (.slice (h0.map ec))),(1,pS s1),(5, .own 0 (([]:(List (BitVec 64))).map ec)),(6,pI (0))],aj [.spare 1 ([]:(List (BitVec 64))).length],1,[]⟩,View.trans (View.buf 5 1 rfl zL) (View.mk 1 [0] _ _ _ rfl rfl (by decide) (iC (iC (iC (iC trivial)))) (And.intro rfl trivial) rfl zL rfl),([]:(List (BitVec 64))),0,Nat.le_refl _,jG h,rfl⟩ ?_
 rintro rO _ ⟨bJ,v6,rP,h,rfl⟩
 obtain ⟨k_1,rfl,h9⟩:=aQ h;replace h:=h9;clear h9;rw [bS] at h
 refine QW.seq ?_
 refine sR ?_
 refine xm 21 (pI v6) ?_
 refine xs 22 rfl (cJ (a:=v6) (b:=(64:Int)) rfl rfl rfl ?_)
 refine XK.nz ?_
 refine QW.cond (t:=(decide (v6<(64:Int)))) rfl zL (fun cB=>?_) (fun cB=>?_)
 ·replace h:=fF h cB
  refine QW.skip zL (aX ?_)
  refine QW.qY (fun s'=>∃ g7:(List (BitVec 64)),∃ fA:Int,∃ k:Nat,k≤k_1∧run (bS h0 s1) k (.J2 g7 fA)=some r∧s'=⟨aG [(0, .d (.slice (h0.map ec))),(1,pS s1),(5, .own 0 (g7.map ec)),(6,pI fA)],aj [.spare 1 g7.length],1,[]⟩) ?_ ?_
  ·refine QW.block ?_
   refine QW.seq ?_
   refine sR ?_
   refine xm 25 (pI v6) ?_
   refine xs 26 rfl (cJ (a:=v6) (b:=(16:Int)) rfl rfl rfl ?_)
   refine XK.nz ?_
   refine QW.cond (t:=(decide (v6<(16:Int)))) rfl zL (fun dU=>?_) (fun dU=>?_)
   ·replace h:=fF h dU
    refine sR ?_
    refine xz 7 (.d (.val (.int .u64 ((0:BitVec 64).toNat:Int)))) ?_
    refine QW.seq ?_
    refine sR ?_
    refine xm 27 (pI v6) ?_
    obtain ⟨mH,h⟩:=gG h
    refine xs 28 rfl (wT (a:=(4:Int)) (b:=v6) rfl rfl rfl mH ?_)
    refine xz 8 (pI ((4:Int)*v6)) ?_
    refine QW.block ?_
    refine QW.loop (fun k σ=>∃ oo:(List (BitVec 64)),∃ nW:Int,∃ j5:(BitVec 64),∃ kK:Int,k≤k_1∧run (bS h0 s1) k (.L3 oo nW j5 kK)=some r∧σ=⟨aG [(0, .d (.slice (h0.map ec))),(1,pS s1),(5, .own 0 (oo.map ec)),(6,pI nW),(7, .d (.val (.int .u64 (j5.toNat:Int)))),(8,pI kK)],aj [.spare 1 oo.length],1,[]⟩) k_1 zL ⟨⟨aG [(0, .d (.slice (h0.map ec))),(1,pS s1),(5, .own 0 (bJ.map ec)),(6,pI v6),(7, .d (.val (.int .u64 ((0:BitVec 64).toNat:Int)))),(8,pI ((4:Int)*v6))],aj [.spare 1 bJ.length],1,[]⟩,View.mk 1 [0] _ _ _ rfl rfl (by decide) (iC (iC (iC (iC (iC (iC trivial)))))) (And.intro rfl trivial) rfl zL rfl,bJ,v6,(0:BitVec 64),((4:Int)*v6),Nat.le_refl _,jG h,rfl⟩ ?_
    rintro Pg _ ⟨oo,nW,j5,kK,Ph,h,rfl⟩
    obtain ⟨Br,rfl,h9⟩:=aQ h;replace h:=h9;clear h9;rw [bS] at h
    refine QW.seq ?_
    refine sR ?_
    refine xm 29 (pI kK) ?_
    refine xm 30 (pI nW) ?_
    obtain ⟨mJ,h⟩:=gG h
    refine xs 31 rfl (wT (a:=(4:Int)) (b:=nW) rfl rfl rfl mJ ?_)
    obtain ⟨lQ,h⟩:=gG h
    refine xs 32 rfl (bX (a:=((4:Int)*nW)) (b:=(4:Int)) rfl rfl rfl lQ ?_)
    refine xs 33 rfl (cJ (a:=kK) (b:=(((4:Int)*nW)+(4:Int))) rfl rfl rfl ?_)
    refine XK.nz ?_
    refine QW.cond (t:=(decide (kK<(((4:Int)*nW)+(4:Int))))) rfl zL (fun rZ=>?_) (fun rZ=>?_)
    ·replace h:=fF h rZ
     refine QW.skip zL (aX ?_)
     refine QW.seq ?_
     refine QW.block ?_
     refine rG ?_
     refine xm 36 (.d (.val (.int .u64 (j5.toNat:Int)))) ?_
     refine xs 37 rfl (Ea (a:=(256:BitVec 64)) (b:=j5) rfl rfl rfl ?_)
     refine xm 38 (pS s1) ?_
     refine xm 39 (pI kK) ?_
     obtain ⟨qG,h⟩:=gG h
     refine xs 40 rfl (lK (l:=s1) (i:=kK) rfl TT.bY TT.nT rfl rfl qG ?_)
     refine xs 41 rfl (wY (n:=((idx s1 kK).toNat:Int)) rfl TT.dR TT.s6 rfl ?_)
     refine xs 42 rfl (fU (a:=((256:BitVec 64)*j5)) (b:=(BitVec.ofInt 64 ((idx s1 kK).toNat:Int))) rfl rfl rfl ?_)
     refine xa 7 (.d (.val (.int .u64 ((((256:BitVec 64)*j5)+(BitVec.ofInt 64 ((idx s1 kK).toNat:Int))).toNat:Int)))) ?_
     refine XK.nil (g6 (aX ?_))
     refine rG ?_
     refine xm 34 (pI kK) ?_
     obtain ⟨ow,h⟩:=gG h
     refine xs 35 rfl (bX (a:=kK) (b:=(1:Int)) rfl rfl rfl ow ?_)
     refine xz 8 (pI (kK+(1:Int))) ?_
     exact ⟨Br,by omega,⟨aG [(0, .d (.slice (h0.map ec))),(1,pS s1),(5, .own 0 (oo.map ec)),(6,pI nW),(7, .d (.val (.int .u64 ((((256:BitVec 64)*j5)+(BitVec.ofInt 64 ((idx s1 kK).toNat:Int))).toNat:Int)))),(8,pI (kK+(1:Int)))],aj [.spare 1 oo.length],1,[]⟩,View.mk 1 [0] _ _ _ rfl rfl (by decide) (iC (iC (iC (iC (iC (iC trivial)))))) (And.intro rfl trivial) rfl zL rfl,oo,nW,(((256:BitVec 64)*j5)+(BitVec.ofInt 64 ((idx s1 kK).toNat:Int))),(kK+(1:Int)),by omega,jG h,rfl⟩
    ·replace h:=fG h rZ
     refine QW.exit zL (eD (eD (j3 (aX ?_))))
     refine sR ?_
     refine xm 43 (.own 0 (oo.map ec)) ?_
     refine xm 44 (.d (.val (.int .u64 (j5.toNat:Int)))) ?_
     refine xs 45 rfl (ef (en:=ec) (l:=([j5]:List (BitVec 64))) rfl TT.nq fC rfl rfl (by decide) (by simp [dw,cU,aB,dQ,PV.cz,cx,aG,jA,iU,jX,bU,Value.oneCell']) ?_)
     obtain ⟨vH,h⟩:=gG h
     refine xs 46 rfl (iY (en:=ec) (l:=oo) (l2:=([j5]:List (BitVec 64))) rfl TT.nq TT.y8 rfl fC rfl rfl rfl vH (by decide) ?_)
     refine xz 5 (.own 1 ((oo++([j5]:List (BitVec 64))).map ec)) ?_
     refine QW.exit zL (eD (j3 (aX ?_)))
     exact ⟨⟨aG [(0, .d (.slice (h0.map ec))),(1,pS s1),(5, .own 0 ((oo++([j5]:List (BitVec 64))).map ec)),(6,pI nW)],aj [.spare 1 (oo++([j5]:List (BitVec 64))).length],1,[]⟩,View.mk 1 [1] _ _ _ rfl rfl (by decide) (iC (iC (iC (iC trivial)))) (And.intro rfl trivial) rfl zL rfl,(oo++([j5]:List (BitVec 64))),nW,Br,by omega,jG h,rfl⟩
   ·replace h:=fG h dU
    refine QW.skip zL (aX ?_)
    refine sR ?_
    refine xm 47 (.own 0 (bJ.map ec)) ?_
    refine xm 48 (pI v6) ?_
    obtain ⟨m5,h⟩:=gG h
    refine xs 49 rfl (mE (a:=v6) (b:=(15:Int)) rfl rfl rfl m5 ?_)
    obtain ⟨nJ,h⟩:=gG h
    refine xs 50 rfl (bC (l:=bJ) (i:=(v6-(15:Int))) rfl TT.fH fC rfl rfl nJ ?_)
    refine xs 51 rfl (aC (d:= .val (.int .u64 ((idx bJ (v6-(15:Int))).toNat:Int))) rfl TT.gI rfl (c8.one) ?_)
    refine xz 9 (.d (.val (.int .u64 ((idx bJ (v6-(15:Int))).toNat:Int)))) ?_
    refine sR ?_
    refine xm 52 (.own 0 (bJ.map ec)) ?_
    refine xm 53 (pI v6) ?_
    obtain ⟨rQ,h⟩:=gG h
    refine xs 54 rfl (mE (a:=v6) (b:=(2:Int)) rfl rfl rfl rQ ?_)
    obtain ⟨tR,h⟩:=gG h
    refine xs 55 rfl (bC (l:=bJ) (i:=(v6-(2:Int))) rfl TT.fH fC rfl rfl tR ?_)
    refine xs 56 rfl (aC (d:= .val (.int .u64 ((idx bJ (v6-(2:Int))).toNat:Int))) rfl TT.gI rfl (c8.one) ?_)
    refine xz 10 (.d (.val (.int .u64 ((idx bJ (v6-(2:Int))).toNat:Int)))) ?_
    refine sR ?_
    refine xm 57 (.d (.val (.int .u64 ((idx bJ (v6-(15:Int))).toNat:Int)))) ?_
    obtain ⟨x_16,GW,h⟩:=bG h
    refine xs 58 rfl (aA rfl rfl TT.m3 rfl (iw (idx bJ (v6-(15:Int))) (7) _ GW) ?_)
    refine xm 59 (.d (.val (.int .u64 ((idx bJ (v6-(15:Int))).toNat:Int)))) ?_
    obtain ⟨x_18,xF,h⟩:=bG h
    refine xs 60 rfl (aA rfl rfl TT.m3 rfl (iw (idx bJ (v6-(15:Int))) (18) _ xF) ?_)
    refine xs 61 rfl (j6 (a:=x_16) (b:=x_18) rfl rfl rfl ?_)
    refine xm 62 (.d (.val (.int .u64 ((idx bJ (v6-(15:Int))).toNat:Int)))) ?_
    obtain ⟨x_20,yV,h⟩:=bG h
    refine xs 63 rfl (aA rfl rfl TT.Hi rfl (yo (idx bJ (v6-(15:Int))) (3) _ yV) ?_)
    refine xs 64 rfl (j6 (a:=(x_16^^^x_18)) (b:=x_20) rfl rfl rfl ?_)
    refine xz 9 (.d (.val (.int .u64 (((x_16^^^x_18)^^^x_20).toNat:Int)))) ?_
    refine QW.seq ?_
    refine QW.view (s':=⟨aG [(0, .d (.slice (h0.map ec))),(1,pS s1),(5, .own 0 (bJ.map ec)),(6,pI v6),(9, .d (.val (.int .u64 (((x_16^^^x_18)^^^x_20).toNat:Int)))),(10, .d (.val (.int .u64 ((idx bJ (v6-(2:Int))).toNat:Int))))],aj [.spare 1 bJ.length],1,[]⟩) (View.mk 1 [0] _ _ _ rfl rfl (by decide) (iC (iC (iC (iC (iC (iC trivial)))))) (And.intro rfl trivial) rfl zL rfl) zL ?_
    refine rG ?_
    refine xm 65 (.d (.val (.int .u64 ((idx bJ (v6-(2:Int))).toNat:Int)))) ?_
    obtain ⟨x_22,yX,h⟩:=bG h
    refine xs 66 rfl (aA rfl rfl TT.m3 rfl (iw (idx bJ (v6-(2:Int))) (17) _ yX) ?_)
    refine xm 67 (.d (.val (.int .u64 ((idx bJ (v6-(2:Int))).toNat:Int)))) ?_
    obtain ⟨x_24,He,h⟩:=bG h
    refine xs 68 rfl (aA rfl rfl TT.m3 rfl (iw (idx bJ (v6-(2:Int))) (19) _ He) ?_)
    refine xs 69 rfl (j6 (a:=x_22) (b:=x_24) rfl rfl rfl ?_)
    refine xm 70 (.d (.val (.int .u64 ((idx bJ (v6-(2:Int))).toNat:Int)))) ?_
    obtain ⟨ym,Ok,h⟩:=bG h
    refine xs 71 rfl (aA rfl rfl TT.Hi rfl (yo (idx bJ (v6-(2:Int))) (10) _ Ok) ?_)
    refine xs 72 rfl (j6 (a:=(x_22^^^x_24)) (b:=ym) rfl rfl rfl ?_)
    refine xz 10 (.d (.val (.int .u64 (((x_22^^^x_24)^^^ym).toNat:Int)))) ?_
    refine QW.region zL (PW.rL (id:=16) dc (M:=_) rfl (by kernel_rfl) ?_)
    refine RK.st (some 73) rfl rfl (au (v:= .own 0 (bJ.map ec)) rfl rfl ?_)
    refine RK.st (some 74) rfl rfl (au (v:= .own 0 (bJ.map ec)) rfl rfl ?_)
    refine RK.st (some 75) rfl rfl (au (v:=pI v6) rfl rfl ?_)
    obtain ⟨Mg,h⟩:=gG h
    refine RK.st (some 76) rfl rfl (mE (a:=v6) (b:=(16:Int)) rfl rfl rfl Mg ?_)
    obtain ⟨rz,h⟩:=gG h
    refine RK.st (some 77) rfl rfl (bC (l:=bJ) (i:=(v6-(16:Int))) rfl TT.fH fC rfl rfl rz ?_)
    refine RK.st (some 78) rfl rfl (aC (d:= .val (.int .u64 ((idx bJ (v6-(16:Int))).toNat:Int))) rfl TT.gI rfl (c8.one) ?_)
    refine RK.st (some 79) rfl rfl (au (v:= .d (.val (.int .u64 (((x_16^^^x_18)^^^x_20).toNat:Int)))) rfl rfl ?_)
    refine RK.st (some 80) rfl rfl (fU (a:=(idx bJ (v6-(16:Int)))) (b:=((x_16^^^x_18)^^^x_20)) rfl rfl rfl ?_)
    refine RK.st (some 81) rfl rfl (au (v:= .own 0 (bJ.map ec)) rfl rfl ?_)
    refine RK.st (some 82) rfl rfl (au (v:=pI v6) rfl rfl ?_)
    obtain ⟨zE,h⟩:=gG h
    refine RK.st (some 83) rfl rfl (mE (a:=v6) (b:=(7:Int)) rfl rfl rfl zE ?_)
    obtain ⟨GL,h⟩:=gG h
    refine RK.st (some 84) rfl rfl (bC (l:=bJ) (i:=(v6-(7:Int))) rfl TT.fH fC rfl rfl GL ?_)
    refine RK.st (some 85) rfl rfl (aC (d:= .val (.int .u64 ((idx bJ (v6-(7:Int))).toNat:Int))) rfl TT.gI rfl (c8.one) ?_)
    refine RK.st (some 86) rfl rfl (fU (a:=((idx bJ (v6-(16:Int)))+((x_16^^^x_18)^^^x_20))) (b:=(idx bJ (v6-(7:Int)))) rfl rfl rfl ?_)
    refine RK.st (some 87) rfl rfl (au (v:= .d (.val (.int .u64 (((x_22^^^x_24)^^^ym).toNat:Int)))) rfl rfl ?_)
    refine RK.st (some 88) rfl rfl (fU (a:=(((idx bJ (v6-(16:Int)))+((x_16^^^x_18)^^^x_20))+(idx bJ (v6-(7:Int))))) (b:=((x_22^^^x_24)^^^ym)) rfl rfl rfl ?_)
    obtain ⟨sN,Ol,h⟩:=bG h
    refine RK.st (some 89) rfl rfl (aA rfl rfl TT.tc rfl (nu ((((idx bJ (v6-(16:Int)))+((x_16^^^x_18)^^^x_20))+(idx bJ (v6-(7:Int))))+((x_22^^^x_24)^^^ym)) _ Ol) ?_)
    refine RK.st (some 90) rfl rfl (ef (en:=ec) (l:=([sN]:List (BitVec 64))) rfl TT.nq fC rfl rfl (by decide) (by simp [dw,cU,aB,dQ,PV.cz,cx,aG,jA,iU,jX,bU,Value.oneCell']) ?_)
    obtain ⟨EZ,h⟩:=gG h
    refine RK.st (some 91) rfl rfl (iY (en:=ec) (l:=bJ) (l2:=([sN]:List (BitVec 64))) rfl TT.nq TT.y8 rfl fC rfl rfl rfl EZ (by decide) ?_)
    refine RK.st (some 5) rfl rfl (cq (v:= .own 1 ((bJ++([sN]:List (BitVec 64))).map ec)) rfl rfl ?_)
    refine RK.nil ⟨fT.last 18 (by simp) (by simp) (by rfl),(g6 (aX ?_))⟩
    exact ⟨⟨aG [(0, .d (.slice (h0.map ec))),(1,pS s1),(5, .own 0 ((bJ++([sN]:List (BitVec 64))).map ec)),(6,pI v6)],aj [.spare 1 (bJ++([sN]:List (BitVec 64))).length],1,[]⟩,View.mk 1 [1] _ _ _ rfl rfl (by decide) (iC (iC (iC (iC trivial)))) (And.intro rfl trivial) rfl zL rfl,(bJ++([sN]:List (BitVec 64))),v6,k_1,by omega,jG h,rfl⟩
  ·rintro _ ⟨g7,fA,aaD,aaE,h,rfl⟩
   obtain ⟨Y5,rfl,h9⟩:=aQ h;replace h:=h9;clear h9;rw [bS] at h
   refine rG ?_
   refine xm 23 (pI fA) ?_
   obtain ⟨S4,h⟩:=gG h
   refine xs 24 rfl (bX (a:=fA) (b:=(1:Int)) rfl rfl rfl S4 ?_)
   refine xz 6 (pI (fA+(1:Int))) ?_
   exact ⟨Y5,by omega,⟨aG [(0, .d (.slice (h0.map ec))),(1,pS s1),(5, .own 0 (g7.map ec)),(6,pI (fA+(1:Int)))],aj [.spare 1 g7.length],1,[]⟩,View.mk 1 [0] _ _ _ rfl rfl (by decide) (iC (iC (iC (iC trivial)))) (And.intro rfl trivial) rfl zL rfl,g7,(fA+(1:Int)),by omega,jG h,rfl⟩
 ·replace h:=fG h cB
  refine QW.exit zL (eD (eD (j3 (aX ?_))))
  refine sR ?_
  refine xs 92 rfl (ef (en:=ec) (l:=([]:List (BitVec 64))) rfl TT.nq fC rfl rfl (by decide) (by simp [dw,cU,aB,dQ,PV.cz,cx,aG,jA,iU,jX,bU,Value.oneCell']) ?_)
  refine xm 93 (.d (.slice (h0.map ec))) ?_
  obtain ⟨SL,h⟩:=gG h
  refine xs 94 rfl (Gq (en:=ec) (l:=([]:List (BitVec 64))) (l2:=h0) rfl TT.nq TT.y8 rfl fC rfl rfl ⟨SL,fun _=>rfl⟩ (by decide) ?_)
  refine xz 11 (.own 1 ((([]:List (BitVec 64))++h0).map ec)) ?_
  refine QW.seq ?_
  refine sR ?_
  refine xz 12 (pI (0)) ?_
  refine QW.block ?_
  refine QW.loop (fun k σ=>∃ kV:(List (BitVec 64)),∃ v11:(List (BitVec 64)),∃ j4:Int,k≤k_1∧run (bS h0 s1) k (.L4 kV v11 j4)=some r∧σ=⟨aG [(0, .d (.slice (h0.map ec))),(5, .own 0 (kV.map ec)),(11, .d (.slice (v11.map ec))),(12,pI j4)],aj [.spare 1 kV.length],1,[]⟩) k_1 zL ⟨⟨aG [(0, .d (.slice (h0.map ec))),(5, .own 0 (bJ.map ec)),(11, .d (.slice ((([]:List (BitVec 64))++h0).map ec))),(12,pI (0))],aj [.spare 1 bJ.length],1,[]⟩,View.mk 1 [0] _ _ _ rfl rfl (by decide) (iC (iC (And.intro (iH.dj rfl) (iC trivial)))) (And.intro rfl trivial) rfl zL rfl,bJ,(([]:List (BitVec 64))++h0),0,Nat.le_refl _,jG h,rfl⟩ ?_
  rintro aaF _ ⟨kV,v11,j4,aaG,h,rfl⟩
  obtain ⟨S5,rfl,h9⟩:=aQ h;replace h:=h9;clear h9;rw [bS] at h
  refine QW.seq ?_
  refine sR ?_
  refine xm 95 (pI j4) ?_
  refine xs 96 rfl (cJ (a:=j4) (b:=(64:Int)) rfl rfl rfl ?_)
  refine XK.nz ?_
  refine QW.cond (t:=(decide (j4<(64:Int)))) rfl zL (fun Ot=>?_) (fun Ot=>?_)
  ·replace h:=fF h Ot
   refine QW.skip zL (aX ?_)
   refine QW.seq ?_
   refine QW.block ?_
   refine sR ?_
   refine xm 99 (.d (.slice (v11.map ec))) ?_
   obtain ⟨Y6,h⟩:=gG h
   refine xs 100 rfl (bC (l:=v11) (i:=(4:Int)) rfl TT.fH fC rfl rfl Y6 ?_)
   refine xs 101 rfl (aC (d:= .val (.int .u64 ((idx v11 (4:Int)).toNat:Int))) rfl TT.gI rfl (c8.one) ?_)
   refine xz 13 (.d (.val (.int .u64 ((idx v11 (4:Int)).toNat:Int)))) ?_
   refine sR ?_
   refine xm 102 (.d (.slice (v11.map ec))) ?_
   obtain ⟨SE,h⟩:=gG h
   refine xs 103 rfl (bC (l:=v11) (i:=(0:Int)) rfl TT.fH fC rfl rfl SE ?_)
   refine xs 104 rfl (aC (d:= .val (.int .u64 ((idx v11 (0:Int)).toNat:Int))) rfl TT.gI rfl (c8.one) ?_)
   refine xz 14 (.d (.val (.int .u64 ((idx v11 (0:Int)).toNat:Int)))) ?_
   refine QW.seq ?_
   refine QW.region zL (PW.kX (id:=23) dc (M:=_) rfl (by kernel_rfl) ?_)
   refine RQ.st (some 105) rfl rfl (au (v:= .d (.val (.int .u64 ((idx v11 (4:Int)).toNat:Int)))) rfl rfl ⟨⟨rfl,rfl⟩,?_⟩)
   refine RQ.st (some 106) rfl rfl (au (v:= .d (.slice (v11.map ec))) rfl rfl ⟨⟨rfl,rfl⟩,?_⟩)
   obtain ⟨Y7,h⟩:=gG h
   refine RQ.st (some 107) rfl rfl (bC (l:=v11) (i:=(5:Int)) rfl TT.fH fC rfl rfl Y7 ⟨⟨rfl,rfl⟩,?_⟩)
   refine RQ.st (some 108) rfl rfl (aC (d:= .val (.int .u64 ((idx v11 (5:Int)).toNat:Int))) rfl TT.gI rfl (c8.one) ⟨⟨rfl,rfl⟩,?_⟩)
   refine RQ.st (some 109) rfl rfl (nj (a:=(idx v11 (4:Int))) (b:=(idx v11 (5:Int))) rfl rfl rfl ⟨⟨rfl,rfl⟩,?_⟩)
   refine RQ.st (some 110) rfl rfl (au (v:= .d (.val (.int .u64 ((idx v11 (4:Int)).toNat:Int)))) rfl rfl ⟨⟨rfl,rfl⟩,?_⟩)
   refine RQ.st (some 111) rfl rfl (Ja (a:=(4294967295:BitVec 64)) (b:=(idx v11 (4:Int))) rfl rfl rfl ⟨⟨rfl,rfl⟩,?_⟩)
   refine RQ.st (some 112) rfl rfl (au (v:= .d (.slice (v11.map ec))) rfl rfl ⟨⟨rfl,rfl⟩,?_⟩)
   obtain ⟨Y8,h⟩:=gG h
   refine RQ.st (some 113) rfl rfl (bC (l:=v11) (i:=(6:Int)) rfl TT.fH fC rfl rfl Y8 ⟨⟨rfl,rfl⟩,?_⟩)
   refine RQ.st (some 114) rfl rfl (aC (d:= .val (.int .u64 ((idx v11 (6:Int)).toNat:Int))) rfl TT.gI rfl (c8.one) ⟨⟨rfl,rfl⟩,?_⟩)
   refine RQ.st (some 115) rfl rfl (nj (a:=((4294967295:BitVec 64)-(idx v11 (4:Int)))) (b:=(idx v11 (6:Int))) rfl rfl rfl ⟨⟨rfl,rfl⟩,?_⟩)
   refine RQ.st (some 116) rfl rfl (vA (a:=((idx v11 (4:Int))&&& (idx v11 (5:Int)))) (b:=(((4294967295:BitVec 64)-(idx v11 (4:Int)))&&& (idx v11 (6:Int)))) rfl rfl rfl ⟨⟨rfl,rfl⟩,?_⟩)
   refine RQ.st (some 15) rfl rfl (cq (v:= .d (.val (.int .u64 ((((idx v11 (4:Int))&&& (idx v11 (5:Int)))||| (((4294967295:BitVec 64)-(idx v11 (4:Int)))&&& (idx v11 (6:Int)))).toNat:Int)))) rfl rfl ⟨⟨rfl,rfl⟩,?_⟩)
   refine RQ.nil (aX ?_)
   refine QW.seq ?_
   refine QW.view (s':=⟨aG [(0, .d (.slice (h0.map ec))),(5, .own 0 (kV.map ec)),(11, .d (.slice (v11.map ec))),(12,pI j4),(13, .d (.val (.int .u64 ((idx v11 (4:Int)).toNat:Int)))),(14, .d (.val (.int .u64 ((idx v11 (0:Int)).toNat:Int)))),(15, .d (.val (.int .u64 ((((idx v11 (4:Int))&&& (idx v11 (5:Int)))||| (((4294967295:BitVec 64)-(idx v11 (4:Int)))&&& (idx v11 (6:Int)))).toNat:Int))))],aj [.spare 1 kV.length],1,[]⟩) (View.mk 1 [0] _ _ _ rfl rfl (by decide) (iC (iC (iC (iC (iC (iC (iC trivial))))))) (And.intro rfl trivial) rfl zL rfl) zL ?_
   refine QW.region zL (PW.kX (id:=24) dc (M:=_) rfl (by kernel_rfl) ?_)
   refine RQ.st (some 117) rfl rfl (au (v:= .d (.val (.int .u64 ((idx v11 (0:Int)).toNat:Int)))) rfl rfl ⟨⟨rfl,rfl⟩,?_⟩)
   refine RQ.st (some 118) rfl rfl (au (v:= .d (.slice (v11.map ec))) rfl rfl ⟨⟨rfl,rfl⟩,?_⟩)
   obtain ⟨SF,h⟩:=gG h
   refine RQ.st (some 119) rfl rfl (bC (l:=v11) (i:=(1:Int)) rfl TT.fH fC rfl rfl SF ⟨⟨rfl,rfl⟩,?_⟩)
   refine RQ.st (some 120) rfl rfl (aC (d:= .val (.int .u64 ((idx v11 (1:Int)).toNat:Int))) rfl TT.gI rfl (c8.one) ⟨⟨rfl,rfl⟩,?_⟩)
   refine RQ.st (some 121) rfl rfl (nj (a:=(idx v11 (0:Int))) (b:=(idx v11 (1:Int))) rfl rfl rfl ⟨⟨rfl,rfl⟩,?_⟩)
   refine RQ.st (some 122) rfl rfl (au (v:= .d (.val (.int .u64 ((idx v11 (0:Int)).toNat:Int)))) rfl rfl ⟨⟨rfl,rfl⟩,?_⟩)
   refine RQ.st (some 123) rfl rfl (au (v:= .d (.slice (v11.map ec))) rfl rfl ⟨⟨rfl,rfl⟩,?_⟩)
   obtain ⟨Y9,h⟩:=gG h
   refine RQ.st (some 124) rfl rfl (bC (l:=v11) (i:=(2:Int)) rfl TT.fH fC rfl rfl Y9 ⟨⟨rfl,rfl⟩,?_⟩)
   refine RQ.st (some 125) rfl rfl (aC (d:= .val (.int .u64 ((idx v11 (2:Int)).toNat:Int))) rfl TT.gI rfl (c8.one) ⟨⟨rfl,rfl⟩,?_⟩)
   refine RQ.st (some 126) rfl rfl (nj (a:=(idx v11 (0:Int))) (b:=(idx v11 (2:Int))) rfl rfl rfl ⟨⟨rfl,rfl⟩,?_⟩)
   refine RQ.st (some 127) rfl rfl (vA (a:=((idx v11 (0:Int))&&& (idx v11 (1:Int)))) (b:=((idx v11 (0:Int))&&& (idx v11 (2:Int)))) rfl rfl rfl ⟨⟨rfl,rfl⟩,?_⟩)
   refine RQ.st (some 128) rfl rfl (au (v:= .d (.slice (v11.map ec))) rfl rfl ⟨⟨rfl,rfl⟩,?_⟩)
   obtain ⟨Za,h⟩:=gG h
   refine RQ.st (some 129) rfl rfl (bC (l:=v11) (i:=(1:Int)) rfl TT.fH fC rfl rfl Za ⟨⟨rfl,rfl⟩,?_⟩)
   refine RQ.st (some 130) rfl rfl (aC (d:= .val (.int .u64 ((idx v11 (1:Int)).toNat:Int))) rfl TT.gI rfl (c8.one) ⟨⟨rfl,rfl⟩,?_⟩)
   refine RQ.st (some 131) rfl rfl (au (v:= .d (.slice (v11.map ec))) rfl rfl ⟨⟨rfl,rfl⟩,?_⟩)
   obtain ⟨yf,h⟩:=gG h
   refine RQ.st (some 132) rfl rfl (bC (l:=v11) (i:=(2:Int)) rfl TT.fH fC rfl rfl yf ⟨⟨rfl,rfl⟩,?_⟩)
   refine RQ.st (some 133) rfl rfl (aC (d:= .val (.int .u64 ((idx v11 (2:Int)).toNat:Int))) rfl TT.gI rfl (c8.one) ⟨⟨rfl,rfl⟩,?_⟩)
   refine RQ.st (some 134) rfl rfl (nj (a:=(idx v11 (1:Int))) (b:=(idx v11 (2:Int))) rfl rfl rfl ⟨⟨rfl,rfl⟩,?_⟩)
   refine RQ.st (some 135) rfl rfl (vA (a:=(((idx v11 (0:Int))&&& (idx v11 (1:Int)))||| ((idx v11 (0:Int))&&& (idx v11 (2:Int))))) (b:=((idx v11 (1:Int))&&& (idx v11 (2:Int)))) rfl rfl rfl ⟨⟨rfl,rfl⟩,?_⟩)
   refine RQ.st (some 16) rfl rfl (cq (v:= .d (.val (.int .u64 (((((idx v11 (0:Int))&&& (idx v11 (1:Int)))||| ((idx v11 (0:Int))&&& (idx v11 (2:Int))))||| ((idx v11 (1:Int))&&& (idx v11 (2:Int)))).toNat:Int)))) rfl rfl ⟨⟨rfl,rfl⟩,?_⟩)
   refine RQ.nil (aX ?_)
   refine QW.seq ?_
   refine QW.view (s':=⟨aG [(0, .d (.slice (h0.map ec))),(5, .own 0 (kV.map ec)),(11, .d (.slice (v11.map ec))),(12,pI j4),(13, .d (.val (.int .u64 ((idx v11 (4:Int)).toNat:Int)))),(14, .d (.val (.int .u64 ((idx v11 (0:Int)).toNat:Int)))),(15, .d (.val (.int .u64 ((((idx v11 (4:Int))&&& (idx v11 (5:Int)))||| (((4294967295:BitVec 64)-(idx v11 (4:Int)))&&& (idx v11 (6:Int)))).toNat:Int)))),(16, .d (.val (.int .u64 (((((idx v11 (0:Int))&&& (idx v11 (1:Int)))||| ((idx v11 (0:Int))&&& (idx v11 (2:Int))))||| ((idx v11 (1:Int))&&& (idx v11 (2:Int)))).toNat:Int))))],aj [.spare 1 kV.length],1,[]⟩) (View.mk 1 [0] _ _ _ rfl rfl (by decide) (iC (iC (iC (iC (iC (iC (iC (iC trivial)))))))) (And.intro rfl trivial) rfl zL rfl) zL ?_
   refine QW.region zL (PW.kX (id:=25) dc (M:=_) rfl (by kernel_rfl) ?_)
   refine RQ.st (some 136) rfl rfl (au (v:= .d (.slice (v11.map ec))) rfl rfl ⟨⟨rfl,rfl⟩,?_⟩)
   obtain ⟨Zb,h⟩:=gG h
   refine RQ.st (some 137) rfl rfl (bC (l:=v11) (i:=(7:Int)) rfl TT.fH fC rfl rfl Zb ⟨⟨rfl,rfl⟩,?_⟩)
   refine RQ.st (some 138) rfl rfl (aC (d:= .val (.int .u64 ((idx v11 (7:Int)).toNat:Int))) rfl TT.gI rfl (c8.one) ⟨⟨rfl,rfl⟩,?_⟩)
   refine RQ.st (some 139) rfl rfl (au (v:= .d (.val (.int .u64 ((idx v11 (4:Int)).toNat:Int)))) rfl rfl ⟨⟨rfl,rfl⟩,?_⟩)
   obtain ⟨Dr,Xv,h⟩:=bG h
   refine RQ.st (some 140) rfl rfl (aA rfl rfl TT.m3 rfl (iw (idx v11 (4:Int)) (6) _ Xv) ⟨⟨rfl,rfl⟩,?_⟩)
   refine RQ.st (some 141) rfl rfl (au (v:= .d (.val (.int .u64 ((idx v11 (4:Int)).toNat:Int)))) rfl rfl ⟨⟨rfl,rfl⟩,?_⟩)
   obtain ⟨Ds,Xw,h⟩:=bG h
   refine RQ.st (some 142) rfl rfl (aA rfl rfl TT.m3 rfl (iw (idx v11 (4:Int)) (11) _ Xw) ⟨⟨rfl,rfl⟩,?_⟩)
   refine RQ.st (some 143) rfl rfl (j6 (a:=Dr) (b:=Ds) rfl rfl rfl ⟨⟨rfl,rfl⟩,?_⟩)
   refine RQ.st (some 144) rfl rfl (au (v:= .d (.val (.int .u64 ((idx v11 (4:Int)).toNat:Int)))) rfl rfl ⟨⟨rfl,rfl⟩,?_⟩)
   obtain ⟨E6,Xx,h⟩:=bG h
   refine RQ.st (some 145) rfl rfl (aA rfl rfl TT.m3 rfl (iw (idx v11 (4:Int)) (25) _ Xx) ⟨⟨rfl,rfl⟩,?_⟩)
   refine RQ.st (some 146) rfl rfl (j6 (a:=(Dr^^^Ds)) (b:=E6) rfl rfl rfl ⟨⟨rfl,rfl⟩,?_⟩)
   refine RQ.st (some 147) rfl rfl (fU (a:=(idx v11 (7:Int))) (b:=((Dr^^^Ds)^^^E6)) rfl rfl rfl ⟨⟨rfl,rfl⟩,?_⟩)
   refine RQ.st (some 148) rfl rfl (au (v:= .d (.val (.int .u64 ((((idx v11 (4:Int))&&& (idx v11 (5:Int)))||| (((4294967295:BitVec 64)-(idx v11 (4:Int)))&&& (idx v11 (6:Int)))).toNat:Int)))) rfl rfl ⟨⟨rfl,rfl⟩,?_⟩)
   refine RQ.st (some 149) rfl rfl (fU (a:=((idx v11 (7:Int))+((Dr^^^Ds)^^^E6))) (b:=(((idx v11 (4:Int))&&& (idx v11 (5:Int)))||| (((4294967295:BitVec 64)-(idx v11 (4:Int)))&&& (idx v11 (6:Int))))) rfl rfl rfl ⟨⟨rfl,rfl⟩,?_⟩)
   refine RQ.st (some 150) rfl rfl (au (v:=pI j4) rfl rfl ⟨⟨rfl,rfl⟩,?_⟩)
   obtain ⟨Mh,Xy,h⟩:=bG h
   refine RQ.st (some 151) rfl rfl (aA rfl rfl TT.Oq rfl (Kv j4 _ Xy) ⟨⟨rfl,rfl⟩,?_⟩)
   refine RQ.st (some 152) rfl rfl (fU (a:=(((idx v11 (7:Int))+((Dr^^^Ds)^^^E6))+(((idx v11 (4:Int))&&& (idx v11 (5:Int)))||| (((4294967295:BitVec 64)-(idx v11 (4:Int)))&&& (idx v11 (6:Int)))))) (b:=Mh) rfl rfl rfl ⟨⟨rfl,rfl⟩,?_⟩)
   refine RQ.st (some 153) rfl rfl (au (v:= .own 0 (kV.map ec)) rfl rfl ⟨⟨rfl,rfl⟩,?_⟩)
   refine RQ.st (some 154) rfl rfl (au (v:=pI j4) rfl rfl ⟨⟨rfl,rfl⟩,?_⟩)
   obtain ⟨Zc,h⟩:=gG h
   refine RQ.st (some 155) rfl rfl (bC (l:=kV) (i:=j4) rfl TT.fH fC rfl rfl Zc ⟨⟨rfl,rfl⟩,?_⟩)
   refine RQ.st (some 156) rfl rfl (aC (d:= .val (.int .u64 ((idx kV j4).toNat:Int))) rfl TT.gI rfl (c8.one) ⟨⟨rfl,rfl⟩,?_⟩)
   refine RQ.st (some 157) rfl rfl (fU (a:=((((idx v11 (7:Int))+((Dr^^^Ds)^^^E6))+(((idx v11 (4:Int))&&& (idx v11 (5:Int)))||| (((4294967295:BitVec 64)-(idx v11 (4:Int)))&&& (idx v11 (6:Int)))))+Mh)) (b:=(idx kV j4)) rfl rfl rfl ⟨⟨rfl,rfl⟩,?_⟩)
   obtain ⟨Ax,Xz,h⟩:=bG h
   refine RQ.st (some 158) rfl rfl (aA rfl rfl TT.tc rfl (nu (((((idx v11 (7:Int))+((Dr^^^Ds)^^^E6))+(((idx v11 (4:Int))&&& (idx v11 (5:Int)))||| (((4294967295:BitVec 64)-(idx v11 (4:Int)))&&& (idx v11 (6:Int)))))+Mh)+(idx kV j4)) _ Xz) ⟨⟨rfl,rfl⟩,?_⟩)
   refine RQ.st (some 17) rfl rfl (cq (v:= .d (.val (.int .u64 (Ax.toNat:Int)))) rfl rfl ⟨⟨rfl,rfl⟩,?_⟩)
   refine RQ.nil (aX ?_)
   refine QW.seq ?_
   refine QW.view (s':=⟨aG [(0, .d (.slice (h0.map ec))),(5, .own 0 (kV.map ec)),(11, .d (.slice (v11.map ec))),(12,pI j4),(14, .d (.val (.int .u64 ((idx v11 (0:Int)).toNat:Int)))),(16, .d (.val (.int .u64 (((((idx v11 (0:Int))&&& (idx v11 (1:Int)))||| ((idx v11 (0:Int))&&& (idx v11 (2:Int))))||| ((idx v11 (1:Int))&&& (idx v11 (2:Int)))).toNat:Int)))),(17, .d (.val (.int .u64 (Ax.toNat:Int))))],aj [.spare 1 kV.length],1,[]⟩) (View.mk 1 [0] _ _ _ rfl rfl (by decide) (iC (iC (iC (iC (iC (iC (iC trivial))))))) (And.intro rfl trivial) rfl zL rfl) zL ?_
   refine rG ?_
   refine xm 159 (.d (.val (.int .u64 ((idx v11 (0:Int)).toNat:Int)))) ?_
   obtain ⟨Jp,XA,h⟩:=bG h
   refine xs 160 rfl (aA rfl rfl TT.m3 rfl (iw (idx v11 (0:Int)) (2) _ XA) ?_)
   refine xm 161 (.d (.val (.int .u64 ((idx v11 (0:Int)).toNat:Int)))) ?_
   obtain ⟨Jq,XB,h⟩:=bG h
   refine xs 162 rfl (aA rfl rfl TT.m3 rfl (iw (idx v11 (0:Int)) (13) _ XB) ?_)
   refine xs 163 rfl (j6 (a:=Jp) (b:=Jq) rfl rfl rfl ?_)
   refine xm 164 (.d (.val (.int .u64 ((idx v11 (0:Int)).toNat:Int)))) ?_
   obtain ⟨Mi,XC,h⟩:=bG h
   refine xs 165 rfl (aA rfl rfl TT.m3 rfl (iw (idx v11 (0:Int)) (22) _ XC) ?_)
   refine xs 166 rfl (j6 (a:=(Jp^^^Jq)) (b:=Mi) rfl rfl rfl ?_)
   refine xm 167 (.d (.val (.int .u64 (((((idx v11 (0:Int))&&& (idx v11 (1:Int)))||| ((idx v11 (0:Int))&&& (idx v11 (2:Int))))||| ((idx v11 (1:Int))&&& (idx v11 (2:Int)))).toNat:Int)))) ?_
   refine xs 168 rfl (fU (a:=((Jp^^^Jq)^^^Mi)) (b:=((((idx v11 (0:Int))&&& (idx v11 (1:Int)))||| ((idx v11 (0:Int))&&& (idx v11 (2:Int))))||| ((idx v11 (1:Int))&&& (idx v11 (2:Int))))) rfl rfl rfl ?_)
   obtain ⟨Jr,XD,h⟩:=bG h
   refine xs 169 rfl (aA rfl rfl TT.tc rfl (nu (((Jp^^^Jq)^^^Mi)+((((idx v11 (0:Int))&&& (idx v11 (1:Int)))||| ((idx v11 (0:Int))&&& (idx v11 (2:Int))))||| ((idx v11 (1:Int))&&& (idx v11 (2:Int))))) _ XD) ?_)
   refine xz 18 (.d (.val (.int .u64 (Jr.toNat:Int)))) ?_
   refine QW.region zL (PW.kX (id:=27) dc (M:=_) rfl (by kernel_rfl) ?_)
   refine RQ.st (some 170) rfl rfl (au (v:= .d (.val (.int .u64 (Ax.toNat:Int)))) rfl rfl ⟨⟨rfl,rfl⟩,?_⟩)
   refine RQ.st (some 171) rfl rfl (au (v:= .d (.val (.int .u64 (Jr.toNat:Int)))) rfl rfl ⟨⟨rfl,rfl⟩,?_⟩)
   refine RQ.st (some 172) rfl rfl (fU (a:=Ax) (b:=Jr) rfl rfl rfl ⟨⟨rfl,rfl⟩,?_⟩)
   obtain ⟨Hj,XE,h⟩:=bG h
   refine RQ.st (some 173) rfl rfl (aA rfl rfl TT.tc rfl (nu (Ax+Jr) _ XE) ⟨⟨rfl,rfl⟩,?_⟩)
   refine RQ.st (some 174) rfl rfl (au (v:= .d (.slice (v11.map ec))) rfl rfl ⟨⟨rfl,rfl⟩,?_⟩)
   obtain ⟨Zd,h⟩:=gG h
   refine RQ.st (some 175) rfl rfl (bC (l:=v11) (i:=(0:Int)) rfl TT.fH fC rfl rfl Zd ⟨⟨rfl,rfl⟩,?_⟩)
   refine RQ.st (some 176) rfl rfl (aC (d:= .val (.int .u64 ((idx v11 (0:Int)).toNat:Int))) rfl TT.gI rfl (c8.one) ⟨⟨rfl,rfl⟩,?_⟩)
   refine RQ.st (some 177) rfl rfl (au (v:= .d (.slice (v11.map ec))) rfl rfl ⟨⟨rfl,rfl⟩,?_⟩)
   obtain ⟨Ze,h⟩:=gG h
   refine RQ.st (some 178) rfl rfl (bC (l:=v11) (i:=(1:Int)) rfl TT.fH fC rfl rfl Ze ⟨⟨rfl,rfl⟩,?_⟩)
   refine RQ.st (some 179) rfl rfl (aC (d:= .val (.int .u64 ((idx v11 (1:Int)).toNat:Int))) rfl TT.gI rfl (c8.one) ⟨⟨rfl,rfl⟩,?_⟩)
   refine RQ.st (some 180) rfl rfl (au (v:= .d (.slice (v11.map ec))) rfl rfl ⟨⟨rfl,rfl⟩,?_⟩)
   obtain ⟨Zf,h⟩:=gG h
   refine RQ.st (some 181) rfl rfl (bC (l:=v11) (i:=(2:Int)) rfl TT.fH fC rfl rfl Zf ⟨⟨rfl,rfl⟩,?_⟩)
   refine RQ.st (some 182) rfl rfl (aC (d:= .val (.int .u64 ((idx v11 (2:Int)).toNat:Int))) rfl TT.gI rfl (c8.one) ⟨⟨rfl,rfl⟩,?_⟩)
   refine RQ.st (some 183) rfl rfl (au (v:= .d (.slice (v11.map ec))) rfl rfl ⟨⟨rfl,rfl⟩,?_⟩)
   obtain ⟨Zg,h⟩:=gG h
   refine RQ.st (some 184) rfl rfl (bC (l:=v11) (i:=(3:Int)) rfl TT.fH fC rfl rfl Zg ⟨⟨rfl,rfl⟩,?_⟩)
   refine RQ.st (some 185) rfl rfl (aC (d:= .val (.int .u64 ((idx v11 (3:Int)).toNat:Int))) rfl TT.gI rfl (c8.one) ⟨⟨rfl,rfl⟩,?_⟩)
   refine RQ.st (some 186) rfl rfl (au (v:= .d (.val (.int .u64 (Ax.toNat:Int)))) rfl rfl ⟨⟨rfl,rfl⟩,?_⟩)
   refine RQ.st (some 187) rfl rfl (fU (a:=(idx v11 (3:Int))) (b:=Ax) rfl rfl rfl ⟨⟨rfl,rfl⟩,?_⟩)
   obtain ⟨Hl,XF,h⟩:=bG h
   refine RQ.st (some 188) rfl rfl (aA rfl rfl TT.tc rfl (nu ((idx v11 (3:Int))+Ax) _ XF) ⟨⟨rfl,rfl⟩,?_⟩)
   refine RQ.st (some 189) rfl rfl (au (v:= .d (.slice (v11.map ec))) rfl rfl ⟨⟨rfl,rfl⟩,?_⟩)
   obtain ⟨Zh,h⟩:=gG h
   refine RQ.st (some 190) rfl rfl (bC (l:=v11) (i:=(4:Int)) rfl TT.fH fC rfl rfl Zh ⟨⟨rfl,rfl⟩,?_⟩)
   refine RQ.st (some 191) rfl rfl (aC (d:= .val (.int .u64 ((idx v11 (4:Int)).toNat:Int))) rfl TT.gI rfl (c8.one) ⟨⟨rfl,rfl⟩,?_⟩)
   refine RQ.st (some 192) rfl rfl (au (v:= .d (.slice (v11.map ec))) rfl rfl ⟨⟨rfl,rfl⟩,?_⟩)
   obtain ⟨Zi,h⟩:=gG h
   refine RQ.st (some 193) rfl rfl (bC (l:=v11) (i:=(5:Int)) rfl TT.fH fC rfl rfl Zi ⟨⟨rfl,rfl⟩,?_⟩)
   refine RQ.st (some 194) rfl rfl (aC (d:= .val (.int .u64 ((idx v11 (5:Int)).toNat:Int))) rfl TT.gI rfl (c8.one) ⟨⟨rfl,rfl⟩,?_⟩)
   refine RQ.st (some 195) rfl rfl (au (v:= .d (.slice (v11.map ec))) rfl rfl ⟨⟨rfl,rfl⟩,?_⟩)
   obtain ⟨Zj,h⟩:=gG h
   refine RQ.st (some 196) rfl rfl (bC (l:=v11) (i:=(6:Int)) rfl TT.fH fC rfl rfl Zj ⟨⟨rfl,rfl⟩,?_⟩)
   refine RQ.st (some 197) rfl rfl (aC (d:= .val (.int .u64 ((idx v11 (6:Int)).toNat:Int))) rfl TT.gI rfl (c8.one) ⟨⟨rfl,rfl⟩,?_⟩)
   refine RQ.st (some 198) rfl rfl (ef (en:=ec) (l:=([Hj,(idx v11 (0:Int)),(idx v11 (1:Int)),(idx v11 (2:Int)),Hl,(idx v11 (4:Int)),(idx v11 (5:Int)),(idx v11 (6:Int))]:List (BitVec 64))) rfl TT.nq fC rfl rfl (by decide) (by simp [dw,cU,aB,dQ,PV.cz,cx,aG,jA,iU,jX,bU,Value.oneCell']) ⟨⟨rfl,rfl⟩,?_⟩)
   refine RQ.st (some 11) rfl rfl (cq (v:= .full (([Hj,(idx v11 (0:Int)),(idx v11 (1:Int)),(idx v11 (2:Int)),Hl,(idx v11 (4:Int)),(idx v11 (5:Int)),(idx v11 (6:Int))]:List (BitVec 64)).map ec)) rfl rfl ⟨⟨rfl,rfl⟩,?_⟩)
   refine RQ.nil (g6 (aX ?_))
   refine QW.view (s':=⟨aG [(0, .d (.slice (h0.map ec))),(5, .own 0 (kV.map ec)),(11, .full (([Hj,(idx v11 (0:Int)),(idx v11 (1:Int)),(idx v11 (2:Int)),Hl,(idx v11 (4:Int)),(idx v11 (5:Int)),(idx v11 (6:Int))]:List (BitVec 64)).map ec)),(12,pI j4)],aj [.spare 1 kV.length],1,[]⟩) (View.mk 1 [0] _ _ _ rfl rfl (by decide) (iC (iC (iC (iC trivial)))) (And.intro rfl trivial) rfl zL rfl) zL ?_
   refine rG ?_
   refine xm 97 (pI j4) ?_
   obtain ⟨Zk,h⟩:=gG h
   refine xs 98 rfl (bX (a:=j4) (b:=(1:Int)) rfl rfl rfl Zk ?_)
   refine xz 12 (pI (j4+(1:Int))) ?_
   exact ⟨S5,by omega,⟨aG [(0, .d (.slice (h0.map ec))),(5, .own 0 (kV.map ec)),(11, .d (.slice (([Hj,(idx v11 (0:Int)),(idx v11 (1:Int)),(idx v11 (2:Int)),Hl,(idx v11 (4:Int)),(idx v11 (5:Int)),(idx v11 (6:Int))]:List (BitVec 64)).map ec))),(12,pI (j4+(1:Int)))],aj [.spare 1 kV.length],1,[]⟩,View.mk 1 [0] _ _ _ rfl rfl (by decide) (iC (iC (And.intro (iH.dj rfl) (iC trivial)))) (And.intro rfl trivial) rfl zL rfl,kV,([Hj,(idx v11 (0:Int)),(idx v11 (1:Int)),(idx v11 (2:Int)),Hl,(idx v11 (4:Int)),(idx v11 (5:Int)),(idx v11 (6:Int))]:List (BitVec 64)),(j4+(1:Int)),by omega,jG h,rfl⟩
  ·replace h:=fG h Ot
   refine QW.exit zL (eD (eD (j3 (aX ?_))))
   refine sR ?_
   refine xz 19 (.full (([]:(List (BitVec 64))).map ec)) ?_
   refine QW.seq ?_
   refine sR ?_
   refine xz 20 (pI (0)) ?_
   refine QW.block ?_
   refine QW.loop (fun k σ=>∃ qQ:(List (BitVec 64)),∃ Aw:(List (BitVec 64)),∃ v20:Int,k≤S5∧run (bS h0 s1) k (.L5 qQ Aw v20)=some r∧σ=⟨aG [(0, .d (.slice (h0.map ec))),(11, .d (.slice (qQ.map ec))),(19, .own 0 (Aw.map ec)),(20,pI v20)],aj [.spare 1 Aw.length],1,[]⟩) S5 zL ⟨⟨aG [(0, .d (.slice (h0.map ec))),(11, .d (.slice (v11.map ec))),(19, .own 0 (([]:(List (BitVec 64))).map ec)),(20,pI (0))],aj [.spare 1 ([]:(List (BitVec 64))).length],1,[]⟩,View.trans (View.buf 19 1 rfl zL) (View.mk 1 [1] _ _ _ rfl rfl (by decide) (iC (iC (iC (iC trivial)))) (And.intro rfl trivial) rfl zL rfl),v11,([]:(List (BitVec 64))),0,Nat.le_refl _,jG h,rfl⟩ ?_
   rintro aaH _ ⟨qQ,Aw,v20,aaI,h,rfl⟩
   obtain ⟨Zl,rfl,h9⟩:=aQ h;replace h:=h9;clear h9;rw [bS] at h
   refine QW.seq ?_
   refine sR ?_
   refine xm 199 (pI v20) ?_
   refine xs 200 rfl (cJ (a:=v20) (b:=(8:Int)) rfl rfl rfl ?_)
   refine XK.nz ?_
   refine QW.cond (t:=(decide (v20<(8:Int)))) rfl zL (fun Ou=>?_) (fun Ou=>?_)
   ·replace h:=fF h Ou
    refine QW.skip zL (aX ?_)
    refine QW.seq ?_
    refine QW.block ?_
    refine QW.region zL (PW.rL (id:=32) dc (M:=_) rfl (by kernel_rfl) ?_)
    refine RK.st (some 203) rfl rfl (au (v:= .own 0 (Aw.map ec)) rfl rfl ?_)
    refine RK.st (some 204) rfl rfl (au (v:= .d (.slice (h0.map ec))) rfl rfl ?_)
    refine RK.st (some 205) rfl rfl (au (v:=pI v20) rfl rfl ?_)
    obtain ⟨Zm,h⟩:=gG h
    refine RK.st (some 206) rfl rfl (bC (l:=h0) (i:=v20) rfl TT.fH fC rfl rfl Zm ?_)
    refine RK.st (some 207) rfl rfl (aC (d:= .val (.int .u64 ((idx h0 v20).toNat:Int))) rfl TT.gI rfl (c8.one) ?_)
    refine RK.st (some 208) rfl rfl (au (v:= .d (.slice (qQ.map ec))) rfl rfl ?_)
    refine RK.st (some 209) rfl rfl (au (v:=pI v20) rfl rfl ?_)
    obtain ⟨Zn,h⟩:=gG h
    refine RK.st (some 210) rfl rfl (bC (l:=qQ) (i:=v20) rfl TT.fH fC rfl rfl Zn ?_)
    refine RK.st (some 211) rfl rfl (aC (d:= .val (.int .u64 ((idx qQ v20).toNat:Int))) rfl TT.gI rfl (c8.one) ?_)
    refine RK.st (some 212) rfl rfl (fU (a:=(idx h0 v20)) (b:=(idx qQ v20)) rfl rfl rfl ?_)
    obtain ⟨Dt,XG,h⟩:=bG h
    refine RK.st (some 213) rfl rfl (aA rfl rfl TT.tc rfl (nu ((idx h0 v20)+(idx qQ v20)) _ XG) ?_)
    refine RK.st (some 214) rfl rfl (ef (en:=ec) (l:=([Dt]:List (BitVec 64))) rfl TT.nq fC rfl rfl (by decide) (by simp [dw,cU,aB,dQ,PV.cz,cx,aG,jA,iU,jX,bU,Value.oneCell']) ?_)
    obtain ⟨Zo,h⟩:=gG h
    refine RK.st (some 215) rfl rfl (iY (en:=ec) (l:=Aw) (l2:=([Dt]:List (BitVec 64))) rfl TT.nq TT.y8 rfl fC rfl rfl rfl Zo (by decide) ?_)
    refine RK.st (some 19) rfl rfl (cq (v:= .own 1 ((Aw++([Dt]:List (BitVec 64))).map ec)) rfl rfl ?_)
    refine RK.nil ⟨fT.last 12 (by simp) (by simp) (by rfl),(g6 (aX ?_))⟩
    refine rG ?_
    refine xm 201 (pI v20) ?_
    obtain ⟨Zp,h⟩:=gG h
    refine xs 202 rfl (bX (a:=v20) (b:=(1:Int)) rfl rfl rfl Zp ?_)
    refine xz 20 (pI (v20+(1:Int))) ?_
    exact ⟨Zl,by omega,⟨aG [(0, .d (.slice (h0.map ec))),(11, .d (.slice (qQ.map ec))),(19, .own 0 ((Aw++([Dt]:List (BitVec 64))).map ec)),(20,pI (v20+(1:Int)))],aj [.spare 1 (Aw++([Dt]:List (BitVec 64))).length],1,[]⟩,View.mk 1 [1] _ _ _ rfl rfl (by decide) (iC (iC (iC (iC trivial)))) (And.intro rfl trivial) rfl zL rfl,qQ,(Aw++([Dt]:List (BitVec 64))),(v20+(1:Int)),by omega,jG h,rfl⟩
   ·replace h:=fG h Ou
    refine QW.exit zL (eD (eD (j3 (aX ?_))))
    refine sR ?_
    refine xm 216 (.own 0 (Aw.map ec)) ?_
    refine xz 4 (.own 0 (Aw.map ec)) ?_
    refine QW.ret zL ?_
    obtain rfl:=sG h
    exact Ends.one (.inr rfl) rfl (aI.tmp rfl) rfl rfl
inductive E7 where
 | S
 | L1 (v3:(List (BitVec 64))) (cZ:(List UInt8)) (v5:Int)
 | L2 (uM:(List (BitVec 64))) (v6:(List UInt8)) (v7:Int)
 | L3 (g8:(List (BitVec 64))) (wh:(List UInt8)) (j5:Int) (pV:(BitVec 64)) (uN:Int)
noncomputable def dP (s0:(List UInt8)):E7→Option (E7⊕(List UInt8))
 | .S=>
  ((xN s0).bind fun (x_1:(List UInt8))=>
  some (.inl (.L1 ([(1779033703:BitVec 64),(3144134277:BitVec 64),(1013904242:BitVec 64),(2773480762:BitVec 64),(1359893119:BitVec 64),(2600822924:BitVec 64),(528734635:BitVec 64),(1541459225:BitVec 64)]:List (BitVec 64)) x_1 (0))))
 | .L1 v3 cZ v5=>
  (bif (decide (v5<(cZ.length:Int))) then
  gO (bw (v5+(64:Int))) (
  gO (0≤v5∧v5≤(v5+(64:Int))∧(v5+(64:Int))≤(cZ.length:Int)) (
  ((wg v3 (sub cZ v5 (v5+(64:Int)))).bind fun (x_7:(List (BitVec 64)))=>
  gO (bw (v5+(64:Int))) (
  some (.inl (.L1 x_7 cZ (v5+(64:Int))))))))
  else
  some (.inl (.L2 v3 ([]:List UInt8) (0))))
 | .L2 uM v6 v7=>
  (bif (decide (v7<(32:Int))) then
  gO ((4:Int)≠0∧bw (v7.tdiv (4:Int))) (
  gO (0≤(v7.tdiv (4:Int))∧(v7.tdiv (4:Int))<(uM.length:Int)) (
  some (.inl (.L3 uM v6 v7 (idx uM (v7.tdiv (4:Int))) (v7.tmod (4:Int))))))
  else
  some (.inr v6))
 | .L3 g8 wh j5 pV uN=>
  (bif (decide (uN<(3:Int))) then
  gO (bw (uN+(1:Int))) (
  some (.inl (.L3 g8 wh j5 (pV/(256:BitVec 64)) (uN+(1:Int)))))
  else
  gO (wh.length+([(gf ((pV%(256:BitVec 64)).toNat:Int))]:List UInt8).length≤9223372036854775807) (
  gO (bw (j5+(1:Int))) (
  some (.inl (.L2 g8 (wh++([(gf ((pV%(256:BitVec 64)).toNat:Int))]:List UInt8)) (j5+(1:Int)))))))
noncomputable def Ay (s0:(List UInt8)):Option (List UInt8):=g9 (dP s0) .S
theorem IA (s0:(List UInt8)) (r:(List UInt8)) (h:Ay s0=some r):bI Tryz.prog 36 [.val (sV s0)] (.val (sV r)):=by
 refine bI.aU Tryz.func36 rfl (by simp [Tryz.ntmps36]) ?_
 rw [Tryz.ntmps36,TT.Vr]
 refine QW.view (s':=⟨aG [(0,pS s0)],aj [],0,[]⟩) (View.init (by rfl)) zL ?_
 replace h:=cL h
 obtain ⟨_,h⟩:=h
 obtain ⟨dm,rfl,h9⟩:=aQ h;replace h:=h9;clear h9;rw [dP] at h
 refine sR ?_
 refine xz 2 (pS ([]:List UInt8)) ?_
 refine sR ?_
 refine xs 10 rfl (ef (en:=ec) (l:=([(1779033703:BitVec 64),(3144134277:BitVec 64),(1013904242:BitVec 64),(2773480762:BitVec 64),(1359893119:BitVec 64),(2600822924:BitVec 64),(528734635:BitVec 64),(1541459225:BitVec 64)]:List (BitVec 64))) rfl TT.nq fC rfl rfl (by decide) (by simp [dw,cU,aB,dQ,PV.cz,cx,aG,jA,iU,jX,bU,Value.oneCell']) ?_)
 refine xz 3 (.full (([(1779033703:BitVec 64),(3144134277:BitVec 64),(1013904242:BitVec 64),(2773480762:BitVec 64),(1359893119:BitVec 64),(2600822924:BitVec 64),(528734635:BitVec 64),(1541459225:BitVec 64)]:List (BitVec 64)).map ec)) ?_
 refine sR ?_
 refine xm 11 (pS s0) ?_
 obtain ⟨x_1,fB,h⟩:=bG h
 refine xs 12 rfl (aA rfl rfl TT.On rfl (Fx s0 _ fB) ?_)
 refine xz 4 (pS x_1) ?_
 refine QW.seq ?_
 refine sR ?_
 refine xz 5 (pI (0)) ?_
 refine QW.block ?_
 refine QW.loop (fun k σ=>∃ v3:(List (BitVec 64)),∃ cZ:(List UInt8),∃ v5:Int,k≤dm∧run (dP s0) k (.L1 v3 cZ v5)=some r∧σ=⟨aG [(3, .d (.slice (v3.map ec))),(4,pS cZ),(5,pI v5)],aj [],0,[]⟩) dm zL ⟨⟨aG [(3, .d (.slice (([(1779033703:BitVec 64),(3144134277:BitVec 64),(1013904242:BitVec 64),(2773480762:BitVec 64),(1359893119:BitVec 64),(2600822924:BitVec 64),(528734635:BitVec 64),(1541459225:BitVec 64)]:List (BitVec 64)).map ec))),(4,pS x_1),(5,pI (0))],aj [],0,[]⟩,View.mk 0 [] _ _ _ rfl rfl (by decide) (And.intro (iH.dj rfl) (iC (iC trivial))) trivial rfl zL rfl,([(1779033703:BitVec 64),(3144134277:BitVec 64),(1013904242:BitVec 64),(2773480762:BitVec 64),(1359893119:BitVec 64),(2600822924:BitVec 64),(528734635:BitVec 64),(1541459225:BitVec 64)]:List (BitVec 64)),x_1,0,Nat.le_refl _,jG h,rfl⟩ ?_
 rintro YY _ ⟨v3,cZ,v5,YZ,h,rfl⟩
 obtain ⟨Oe,rfl,h9⟩:=aQ h;replace h:=h9;clear h9;rw [dP] at h
 refine QW.seq ?_
 refine sR ?_
 refine xm 13 (pI v5) ?_
 refine xm 14 (pS cZ) ?_
 refine xs 15 rfl (gE (l:=cZ) rfl TT.bY rfl ?_)
 refine xs 16 rfl (cJ (a:=v5) (b:=(cZ.length:Int)) rfl rfl rfl ?_)
 refine XK.nz ?_
 refine QW.cond (t:=(decide (v5<(cZ.length:Int)))) rfl zL (fun jb=>?_) (fun jb=>?_)
 ·replace h:=fF h jb
  refine QW.skip zL (aX ?_)
  refine QW.seq ?_
  refine QW.block ?_
  refine rG ?_
  refine xm 19 (.d (.slice (v3.map ec))) ?_
  refine xm 20 (pS cZ) ?_
  refine xm 21 (pI v5) ?_
  refine xm 22 (pI v5) ?_
  obtain ⟨nU,h⟩:=gG h
  refine xs 23 rfl (bX (a:=v5) (b:=(64:Int)) rfl rfl rfl nU ?_)
  obtain ⟨mJ,h⟩:=gG h
  refine xs 24 rfl (tN (l:=cZ) (a:=v5) (b:=(v5+(64:Int))) rfl TT.bY rfl rfl rfl mJ ?_)
  obtain ⟨x_7,pR,h⟩:=bG h
  refine xs 25 rfl (aA rfl rfl TT.Oo rfl (Ej v3 (sub cZ v5 (v5+(64:Int))) _ pR) ?_)
  refine xa 3 (.d (.slice (x_7.map ec))) ?_
  refine XK.nil (g6 (aX ?_))
  refine rG ?_
  refine xm 17 (pI v5) ?_
  obtain ⟨qG,h⟩:=gG h
  refine xs 18 rfl (bX (a:=v5) (b:=(64:Int)) rfl rfl rfl qG ?_)
  refine xz 5 (pI (v5+(64:Int))) ?_
  exact ⟨Oe,by omega,⟨aG [(3, .d (.slice (x_7.map ec))),(4,pS cZ),(5,pI (v5+(64:Int)))],aj [],0,[]⟩,View.mk 0 [] _ _ _ rfl rfl (by decide) (iC (iC (iC trivial))) trivial rfl zL rfl,x_7,cZ,(v5+(64:Int)),by omega,jG h,rfl⟩
 ·replace h:=fG h jb
  refine QW.exit zL (eD (eD (j3 (aX ?_))))
  refine sR ?_
  refine xz 6 (pS ([]:List UInt8)) ?_
  refine QW.seq ?_
  refine sR ?_
  refine xz 7 (pI (0)) ?_
  refine QW.block ?_
  refine QW.loop (fun k σ=>∃ uM:(List (BitVec 64)),∃ v6:(List UInt8),∃ v7:Int,k≤Oe∧run (dP s0) k (.L2 uM v6 v7)=some r∧σ=⟨aG [(3, .d (.slice (uM.map ec))),(6,pS v6),(7,pI v7)],aj [],0,[]⟩) Oe zL ⟨⟨aG [(3, .d (.slice (v3.map ec))),(6,pS ([]:List UInt8)),(7,pI (0))],aj [],0,[]⟩,View.mk 0 [] _ _ _ rfl rfl (by decide) (iC (iC (iC trivial))) trivial rfl zL rfl,v3,([]:List UInt8),0,Nat.le_refl _,jG h,rfl⟩ ?_
  rintro Xk _ ⟨uM,v6,v7,Xl,h,rfl⟩
  obtain ⟨L6,rfl,h9⟩:=aQ h;replace h:=h9;clear h9;rw [dP] at h
  refine QW.seq ?_
  refine sR ?_
  refine xm 26 (pI v7) ?_
  refine xs 27 rfl (cJ (a:=v7) (b:=(32:Int)) rfl rfl rfl ?_)
  refine XK.nz ?_
  refine QW.cond (t:=(decide (v7<(32:Int)))) rfl zL (fun vM=>?_) (fun vM=>?_)
  ·replace h:=fF h vM
   refine QW.skip zL (aX ?_)
   refine QW.seq ?_
   refine QW.block ?_
   refine sR ?_
   refine xm 30 (.d (.slice (uM.map ec))) ?_
   refine xm 31 (pI v7) ?_
   obtain ⟨m5,h⟩:=gG h
   refine xs 32 rfl (FH (a:=v7) (b:=(4:Int)) rfl rfl rfl m5 ?_)
   obtain ⟨nJ,h⟩:=gG h
   refine xs 33 rfl (bC (l:=uM) (i:=(v7.tdiv (4:Int))) rfl TT.fH fC rfl rfl nJ ?_)
   refine xs 34 rfl (aC (d:= .val (.int .u64 ((idx uM (v7.tdiv (4:Int))).toNat:Int))) rfl TT.gI rfl (c8.one) ?_)
   refine xz 8 (.d (.val (.int .u64 ((idx uM (v7.tdiv (4:Int))).toNat:Int)))) ?_
   refine QW.seq ?_
   refine sR ?_
   refine xm 35 (pI v7) ?_
   refine xs 36 rfl (uT (a:=v7) (b:=(4:Int)) rfl rfl rfl (by decide) ?_)
   refine xz 9 (pI (v7.tmod (4:Int))) ?_
   refine QW.block ?_
   refine QW.loop (fun k σ=>∃ g8:(List (BitVec 64)),∃ wh:(List UInt8),∃ j5:Int,∃ pV:(BitVec 64),∃ uN:Int,k≤L6∧run (dP s0) k (.L3 g8 wh j5 pV uN)=some r∧σ=⟨aG [(3, .d (.slice (g8.map ec))),(6,pS wh),(7,pI j5),(8, .d (.val (.int .u64 (pV.toNat:Int)))),(9,pI uN)],aj [],0,[]⟩) L6 zL ⟨⟨aG [(3, .d (.slice (uM.map ec))),(6,pS v6),(7,pI v7),(8, .d (.val (.int .u64 ((idx uM (v7.tdiv (4:Int))).toNat:Int)))),(9,pI (v7.tmod (4:Int)))],aj [],0,[]⟩,View.mk 0 [] _ _ _ rfl rfl (by decide) (iC (iC (iC (iC (iC trivial))))) trivial rfl zL rfl,uM,v6,v7,(idx uM (v7.tdiv (4:Int))),(v7.tmod (4:Int)),Nat.le_refl _,jG h,rfl⟩ ?_
   rintro Xo _ ⟨g8,wh,j5,pV,uN,Xp,h,rfl⟩
   obtain ⟨Pj,rfl,h9⟩:=aQ h;replace h:=h9;clear h9;rw [dP] at h
   refine QW.seq ?_
   refine sR ?_
   refine xm 37 (pI uN) ?_
   refine xs 38 rfl (cJ (a:=uN) (b:=(3:Int)) rfl rfl rfl ?_)
   refine XK.nz ?_
   refine QW.cond (t:=(decide (uN<(3:Int)))) rfl zL (fun vO=>?_) (fun vO=>?_)
   ·replace h:=fF h vO
    refine QW.skip zL (aX ?_)
    refine QW.seq ?_
    refine QW.block ?_
    refine rG ?_
    refine xm 41 (.d (.val (.int .u64 (pV.toNat:Int)))) ?_
    refine xs 42 rfl (AZ (a:=pV) (b:=(256:BitVec 64)) rfl rfl rfl (by decide) ?_)
    refine xa 8 (.d (.val (.int .u64 ((pV/(256:BitVec 64)).toNat:Int)))) ?_
    refine XK.nil (g6 (aX ?_))
    refine rG ?_
    refine xm 39 (pI uN) ?_
    obtain ⟨oR,h⟩:=gG h
    refine xs 40 rfl (bX (a:=uN) (b:=(1:Int)) rfl rfl rfl oR ?_)
    refine xz 9 (pI (uN+(1:Int))) ?_
    exact ⟨Pj,by omega,⟨aG [(3, .d (.slice (g8.map ec))),(6,pS wh),(7,pI j5),(8, .d (.val (.int .u64 ((pV/(256:BitVec 64)).toNat:Int)))),(9,pI (uN+(1:Int)))],aj [],0,[]⟩,View.mk 0 [] _ _ _ rfl rfl (by decide) (iC (iC (iC (iC (iC trivial))))) trivial rfl zL rfl,g8,wh,j5,(pV/(256:BitVec 64)),(uN+(1:Int)),by omega,jG h,rfl⟩
   ·replace h:=fG h vO
    refine QW.exit zL (eD (eD (j3 (aX ?_))))
    refine rG ?_
    refine xm 43 (pS wh) ?_
    refine xm 44 (.d (.val (.int .u64 (pV.toNat:Int)))) ?_
    refine xs 45 rfl (A0 (a:=pV) (b:=(256:BitVec 64)) rfl rfl rfl (by decide) ?_)
    refine xs 46 rfl (n6 (n:=((pV%(256:BitVec 64)).toNat:Int)) rfl TT.s6 TT.dR rfl ?_)
    refine xs 47 rfl (ef (en:=U) (l:=([(gf ((pV%(256:BitVec 64)).toNat:Int))]:List UInt8)) rfl TT.e8 bx rfl rfl (by decide) (by simp [dw,cU,aB,dQ,PV.cz,cx,aG,jA,iU,jX,bU,Value.oneCell']) ?_)
    refine xs 48 rfl (nS (l:=([(gf ((pV%(256:BitVec 64)).toNat:Int))]:List UInt8)) rfl TT.bA TT.dR TT.bY rfl ?_)
    obtain ⟨pT,h⟩:=gG h
    refine xs 49 rfl (lf (a:=wh) (b:=([(gf ((pV%(256:BitVec 64)).toNat:Int))]:List UInt8)) rfl rfl rfl pT ?_)
    refine xa 6 (pS (wh++([(gf ((pV%(256:BitVec 64)).toNat:Int))]:List UInt8))) ?_
    refine XK.nil (g6 (aX ?_))
    refine rG ?_
    refine xm 28 (pI j5) ?_
    obtain ⟨rA,h⟩:=gG h
    refine xs 29 rfl (bX (a:=j5) (b:=(1:Int)) rfl rfl rfl rA ?_)
    refine xz 7 (pI (j5+(1:Int))) ?_
    exact ⟨Pj,by omega,⟨aG [(3, .d (.slice (g8.map ec))),(6,pS (wh++([(gf ((pV%(256:BitVec 64)).toNat:Int))]:List UInt8))),(7,pI (j5+(1:Int)))],aj [],0,[]⟩,View.mk 0 [] _ _ _ rfl rfl (by decide) (iC (iC (iC trivial))) trivial rfl zL rfl,g8,(wh++([(gf ((pV%(256:BitVec 64)).toNat:Int))]:List UInt8)),(j5+(1:Int)),by omega,jG h,rfl⟩
  ·replace h:=fG h vM
   refine QW.exit zL (eD (eD (j3 (aX ?_))))
   refine sR ?_
   refine xm 50 (pS v6) ?_
   refine xz 2 (pS v6) ?_
   refine QW.ret zL ?_
   obtain rfl:=sG h
   exact Ends.one (.inr rfl) rfl (aI.tmp rfl) rfl rfl
noncomputable def o5 (lT:(List UInt8)):Option (List UInt8):=
  (bif (decide ((32:Int)≤(lT.length:Int))) then
  ((Ay lT).bind fun (x_2:(List UInt8))=>
  some x_2)
  else
  some lT)
theorem xO (lT:(List UInt8)) (r:(List UInt8)) (h:o5 lT=some r):bI Tryz.prog 20 [.val (sV lT)] (.val (sV r)):=by
 refine bI.aU Tryz.func20 rfl (by simp [Tryz.ntmps20]) ?_
 rw [Tryz.ntmps20,TT.Vq]
 refine QW.view (s':=⟨aG [(0,pS lT)],aj [],0,[]⟩) (View.init (by rfl)) zL ?_
 unfold o5 at h
 refine sR ?_
 refine xz 2 (pS ([]:List UInt8)) ?_
 refine QW.seq ?_
 refine sR ?_
 refine xm 3 (pS lT) ?_
 refine xs 4 rfl (gE (l:=lT) rfl TT.bY rfl ?_)
 refine xs 5 rfl (uU (a:=(lT.length:Int)) (b:=(32:Int)) rfl rfl rfl ?_)
 refine XK.nz ?_
 refine QW.cond (t:=(decide ((32:Int)≤(lT.length:Int)))) rfl zL (fun dh=>?_) (fun dh=>?_)
 ·replace h:=bT h dh
  refine sR ?_
  refine xm 6 (pS lT) ?_
  obtain ⟨x_2,nI,h⟩:=bO h
  refine xs 7 rfl (aA rfl rfl TT.Om rfl (IA lT _ nI) ?_)
  refine xz 2 (pS x_2) ?_
  refine QW.ret zL (gm ?_)
  obtain rfl:=sO h
  exact Ends.one (.inr rfl) rfl (aI.tmp rfl) rfl rfl
 ·replace h:=bF h dh
  refine QW.skip zL (aX ?_)
  refine sR ?_
  refine xm 8 (pS lT) ?_
  refine xz 2 (pS lT) ?_
  refine QW.ret zL ?_
  obtain rfl:=sO h
  exact Ends.one (.inr rfl) rfl (aI.tmp rfl) rfl rfl
end Go.Proofs.YtlfjfoknbjcncaaGreat.K
namespace Go.Proofs.YtlfjfoknbjcncaaGreat.K
open Go Go.RowKit
set_option linter.unusedSimpArgs false
set_option linter.unusedVariables false
set_option maxRecDepth 20000
set_option maxHeartbeats 4000000
namespace TT
theorem Ov:aP Tryz.prog 33=true:=by kernel_rfl
theorem za:aP Tryz.prog 59=true:=by kernel_rfl
theorem Ho:aP Tryz.prog 60=true:=by kernel_rfl
theorem Hp:aP Tryz.prog 61=true:=by kernel_rfl
theorem Cu:aP Tryz.prog 62=true:=by kernel_rfl
theorem Hq:aP Tryz.prog 70=true:=by kernel_rfl
theorem Hr:aP Tryz.prog 86=true:=by kernel_rfl
theorem Vz:Tryz.f33.results.toList=[.tmp 2]:=rfl
theorem VA:Tryz.f59.results.toList=[.tmp 2]:=rfl
theorem VB:Tryz.f61.results.toList=[.tmp 2]:=rfl
theorem VC:Tryz.f62.results.toList=[.tmp 4]:=rfl
theorem VD:Tryz.f70.results.toList=[.tmp 2]:=rfl
theorem VE:Tryz.f86.results.toList=[.tmp 2]:=rfl
end TT
noncomputable def qi (self:Int→Option (List UInt8)) (n0:Int):Option (List UInt8):=
  (bif (decide (n0=(0:Int))) then
  some ([]:List UInt8)
  else
  gO ((256:Int)≠0∧bw (n0.tdiv (256:Int))) (
  ((self (n0.tdiv (256:Int))).bind fun (x_3:(List UInt8))=>
  gO (x_3.length+([(gf (n0.tmod (256:Int)))]:List UInt8).length≤9223372036854775807) (
  some (x_3++([(gf (n0.tmod (256:Int)))]:List UInt8))))))
theorem Fy (self:Int→Option (List UInt8)) (fQ:∀ (y0:Int) (rr:(List UInt8)),self y0=some rr→bI Tryz.prog 86 [.val (.int .i64 y0)] (.val (sV rr))) (n0:Int) (r:(List UInt8)) (h:qi self n0=some r):bI Tryz.prog 86 [.val (.int .i64 n0)] (.val (sV r)):=by
 refine bI.aU Tryz.func86 rfl (by simp [Tryz.ntmps86]) ?_
 rw [Tryz.ntmps86,TT.VE]
 refine QW.view (s':=⟨aG [(0,pI n0)],aj [],0,[]⟩) (View.init (by rfl)) zL ?_
 unfold qi at h
 refine sR ?_
 refine xz 2 (pS ([]:List UInt8)) ?_
 refine QW.seq ?_
 refine sR ?_
 refine xm 3 (pI n0) ?_
 refine xs 4 rfl (eF (a:=n0) (b:=(0:Int)) rfl rfl rfl ?_)
 refine XK.nz ?_
 refine QW.cond (t:=(decide (n0=(0:Int)))) rfl zL (fun dh=>?_) (fun dh=>?_)
 ·replace h:=bT h dh
  refine sR ?_
  refine xz 2 (pS ([]:List UInt8)) ?_
  refine QW.ret zL (gm ?_)
  obtain rfl:=sO h
  exact Ends.one (.inr rfl) rfl (aI.tmp rfl) rfl rfl
 ·replace h:=bF h dh
  refine QW.skip zL (aX ?_)
  refine QW.seq ?_
  refine QW.region zL (PW.kX (id:=3) dc (M:=_) rfl (by kernel_rfl) ?_)
  refine RQ.st (some 5) rfl rfl (au (v:=pI n0) rfl rfl ⟨⟨rfl,rfl⟩,?_⟩)
  obtain ⟨xE,h⟩:=bk h
  refine RQ.st (some 6) rfl rfl (FH (a:=n0) (b:=(256:Int)) rfl rfl rfl xE ⟨⟨rfl,rfl⟩,?_⟩)
  obtain ⟨x_3,tX,h⟩:=bO h
  refine RQ.st (some 7) rfl rfl (aA rfl rfl TT.Hr rfl (fQ (n0.tdiv (256:Int)) _ tX) ⟨⟨rfl,rfl⟩,?_⟩)
  refine RQ.st (some 8) rfl rfl (au (v:=pI n0) rfl rfl ⟨⟨rfl,rfl⟩,?_⟩)
  refine RQ.st (some 9) rfl rfl (uT (a:=n0) (b:=(256:Int)) rfl rfl rfl (by decide) ⟨⟨rfl,rfl⟩,?_⟩)
  refine RQ.st (some 10) rfl rfl (n6 (n:=(n0.tmod (256:Int))) rfl TT.kC TT.dR rfl ⟨⟨rfl,rfl⟩,?_⟩)
  refine RQ.st (some 11) rfl rfl (ef (en:=U) (l:=([(gf (n0.tmod (256:Int)))]:List UInt8)) rfl TT.e8 bx rfl rfl (by decide) (by simp [dw,cU,aB,dQ,PV.cz,cx,aG,jA,iU,jX,bU,Value.oneCell']) ⟨⟨rfl,rfl⟩,?_⟩)
  refine RQ.st (some 12) rfl rfl (nS (l:=([(gf (n0.tmod (256:Int)))]:List UInt8)) rfl TT.bA TT.dR TT.bY rfl ⟨⟨rfl,rfl⟩,?_⟩)
  obtain ⟨nU,h⟩:=bk h
  refine RQ.st (some 13) rfl rfl (lf (a:=x_3) (b:=([(gf (n0.tmod (256:Int)))]:List UInt8)) rfl rfl rfl nU ⟨⟨rfl,rfl⟩,?_⟩)
  refine RQ.st (some 2) rfl rfl (cq (v:=pS (x_3++([(gf (n0.tmod (256:Int)))]:List UInt8))) rfl rfl ⟨⟨rfl,rfl⟩,?_⟩)
  refine RQ.nil (aX ?_)
  refine QW.ret zL ?_
  obtain rfl:=sO h
  exact Ends.one (.inr rfl) rfl (aI.tmp rfl) rfl rfl
noncomputable def nv:Nat→Int→Option (List UInt8)
 | 0=>fun _=>none
 | n+1=>fun y0=>qi (nv n) y0
theorem zI:∀ (n:Nat) (y0:Int) (rr:(List UInt8)),nv n y0=some rr→bI Tryz.prog 86 [.val (.int .i64 y0)] (.val (sV rr))
 | 0,_,_,h=>by cases h
 | n+1,y0,rr,h=>Fy (nv n) (zI n) y0 rr h
noncomputable def zb (y0:Int):Option (List UInt8):=wX (fun n=>nv n y0)
theorem Ht (y0:Int) (rr:(List UInt8)) (h:zb y0=some rr):bI Tryz.prog 86 [.val (.int .i64 y0)] (.val (sV rr)):=by
 obtain ⟨n,hn⟩:=oe h
 exact zI n y0 rr hn
noncomputable def m4 (n0:Int) (Cv:Bool):Option (List UInt8):=
  (((bif Cv then
  some (192)
  else
  some (128)):Option Int).bind fun (v5:Int)=>
  (bif (decide (n0<(56:Int))) then
  gO (bw (v5+n0)) (
  some ([(gf (v5+n0))]:List UInt8))
  else
  ((zb n0).bind fun (x_4:(List UInt8))=>
  gO (bw (v5+(55:Int))) (
  gO (bw ((v5+(55:Int))+(x_4.length:Int))) (
  gO (([(gf ((v5+(55:Int))+(x_4.length:Int)))]:List UInt8).length+x_4.length≤9223372036854775807) (
  some (([(gf ((v5+(55:Int))+(x_4.length:Int)))]:List UInt8)++x_4)))))))
theorem uu (n0:Int) (Cv:Bool) (r:(List UInt8)) (h:m4 n0 Cv=some r):bI Tryz.prog 62 [.val (.int .i64 n0), .val (.bool Cv)] (.val (sV r)):=by
 refine bI.aU Tryz.func62 rfl (by simp [Tryz.ntmps62]) ?_
 rw [Tryz.ntmps62,TT.VC]
 refine QW.view (s':=⟨aG [(0,pI n0),(1,pB Cv)],aj [],0,[]⟩) (View.init (by rfl)) zL ?_
 unfold m4 at h
 refine sR ?_
 refine xz 4 (pS ([]:List UInt8)) ?_
 refine sR ?_
 refine xz 5 (pI (128)) ?_
 obtain ⟨v5,hq,h⟩:=bO h
 refine QW.qY (fun s'=>s'=⟨aG [(0,pI n0),(5,pI v5)],aj [],0,[]⟩) ?_ ?_
 ·replace h:=hq;clear hq
  refine sR ?_
  refine xm 7 (pB Cv) ?_
  refine XK.nz ?_
  refine QW.cond (t:=Cv) rfl zL (fun dh=>?_) (fun dh=>?_)
  ·replace h:=bT h dh
   refine rG ?_
   refine xz 5 (pI (192)) ?_
   obtain rfl:=sO h
   exact ⟨⟨aG [(0,pI n0),(5,pI (192))],aj [],0,[]⟩,View.mk 0 [] _ _ _ rfl rfl (by decide) (iC (iC trivial)) trivial rfl zL rfl,rfl⟩
  ·replace h:=bF h dh
   refine QW.skip zL (aX ?_)
   obtain rfl:=sO h
   exact ⟨⟨aG [(0,pI n0),(5,pI (128))],aj [],0,[]⟩,View.mk 0 [] _ _ _ rfl rfl (by decide) (iC (iC trivial)) trivial rfl zL rfl,rfl⟩
 ·rintro _ rfl
  refine QW.seq ?_
  refine sR ?_
  refine xm 8 (pI n0) ?_
  refine xs 9 rfl (cJ (a:=n0) (b:=(56:Int)) rfl rfl rfl ?_)
  refine XK.nz ?_
  refine QW.cond (t:=(decide (n0<(56:Int)))) rfl zL (fun cB=>?_) (fun cB=>?_)
  ·replace h:=bT h cB
   refine sR ?_
   refine xm 10 (pI v5) ?_
   refine xm 11 (pI n0) ?_
   obtain ⟨dS,h⟩:=bk h
   refine xs 12 rfl (bX (a:=v5) (b:=n0) rfl rfl rfl dS ?_)
   refine xs 13 rfl (n6 (n:=(v5+n0)) rfl TT.kC TT.dR rfl ?_)
   refine xs 14 rfl (ef (en:=U) (l:=([(gf (v5+n0))]:List UInt8)) rfl TT.e8 bx rfl rfl (by decide) (by simp [dw,cU,aB,dQ,PV.cz,cx,aG,jA,iU,jX,bU,Value.oneCell']) ?_)
   refine xs 15 rfl (nS (l:=([(gf (v5+n0))]:List UInt8)) rfl TT.bA TT.dR TT.bY rfl ?_)
   refine xz 4 (pS ([(gf (v5+n0))]:List UInt8)) ?_
   refine QW.ret zL (gm ?_)
   obtain rfl:=sO h
   exact Ends.one (.inr rfl) rfl (aI.tmp rfl) rfl rfl
  ·replace h:=bF h cB
   refine QW.skip zL (aX ?_)
   refine sR ?_
   refine xm 16 (pI n0) ?_
   obtain ⟨x_4,kZ,h⟩:=bO h
   refine xs 17 rfl (aA rfl rfl TT.Hr rfl (Ht n0 _ kZ) ?_)
   refine xz 6 (pS x_4) ?_
   refine sR ?_
   refine xm 18 (pI v5) ?_
   obtain ⟨mJ,h⟩:=bk h
   refine xs 19 rfl (bX (a:=v5) (b:=(55:Int)) rfl rfl rfl mJ ?_)
   refine xm 20 (pS x_4) ?_
   refine xs 21 rfl (gE (l:=x_4) rfl TT.bY rfl ?_)
   obtain ⟨lQ,h⟩:=bk h
   refine xs 22 rfl (bX (a:=(v5+(55:Int))) (b:=(x_4.length:Int)) rfl rfl rfl lQ ?_)
   refine xs 23 rfl (n6 (n:=((v5+(55:Int))+(x_4.length:Int))) rfl TT.kC TT.dR rfl ?_)
   refine xs 24 rfl (ef (en:=U) (l:=([(gf ((v5+(55:Int))+(x_4.length:Int)))]:List UInt8)) rfl TT.e8 bx rfl rfl (by decide) (by simp [dw,cU,aB,dQ,PV.cz,cx,aG,jA,iU,jX,bU,Value.oneCell']) ?_)
   refine xs 25 rfl (nS (l:=([(gf ((v5+(55:Int))+(x_4.length:Int)))]:List UInt8)) rfl TT.bA TT.dR TT.bY rfl ?_)
   refine xm 26 (pS x_4) ?_
   obtain ⟨p5,h⟩:=bk h
   refine xs 27 rfl (lf (a:=([(gf ((v5+(55:Int))+(x_4.length:Int)))]:List UInt8)) (b:=x_4) rfl rfl rfl p5 ?_)
   refine xz 4 (pS (([(gf ((v5+(55:Int))+(x_4.length:Int)))]:List UInt8)++x_4)) ?_
   refine QW.ret zL ?_
   obtain rfl:=sO h
   exact Ends.one (.inr rfl) rfl (aI.tmp rfl) rfl rfl
inductive Du where
 | S
 | L1 (v3:(List UInt8)) (v4:Int)
noncomputable def jf (self:Item→Option (List UInt8)) (x0:Item):Du→Option (Du⊕(List UInt8))
 | .S=>
  (bif (!(x0).cF) then
  gO ((decide (((x0.fS).length:Int)=(1:Int)))=true→0≤(0:Int)∧(0:Int)<((x0.fS).length:Int)) (
  (bif ((decide (((x0.fS).length:Int)=(1:Int)))&&(decide (((idx (x0.fS) (0:Int)).toNat:Int)≤(127:Int)))) then
  some (.inr (x0.fS))
  else
  ((m4 ((x0.fS).length:Int) false).bind fun (x_4:(List UInt8))=>
  gO (x_4.length+(x0.fS).length≤9223372036854775807) (
  some (.inr (x_4++x0.fS))))))
  else
  some (.inl (.L1 ([]:List UInt8) (0))))
 | .L1 v3 v4=>
  (bif (decide (v4<((x0.fL).length:Int))) then
  gO (0≤v4∧v4<((x0.fL).length:Int)) (
  ((self (idx (x0.fL) v4)).bind fun (x_10:(List UInt8))=>
  gO (v3.length+x_10.length≤9223372036854775807) (
  gO (bw (v4+(1:Int))) (
  some (.inl (.L1 (v3++x_10) (v4+(1:Int))))))))
  else
  ((m4 (v3.length:Int) true).bind fun (x_14:(List UInt8))=>
  gO (x_14.length+v3.length≤9223372036854775807) (
  some (.inr (x_14++v3)))))
noncomputable def xP (self:Item→Option (List UInt8)) (x0:Item):Option (List UInt8):=g9 (jf self x0) .S
theorem Fz (self:Item→Option (List UInt8)) (fQ:∀ (y0:Item) (rr:(List UInt8)),self y0=some rr→bI Tryz.prog 70 [.agg (dA y0)] (.val (sV rr))) (x0:Item) (r:(List UInt8)) (h:xP self x0=some r):bI Tryz.prog 70 [.agg (dA x0)] (.val (sV r)):=by
 refine bI.aU Tryz.func70 rfl (by simp [Tryz.ntmps70]) ?_
 rw [Tryz.ntmps70,TT.VD]
 refine QW.view (s':=⟨aG [(0, .d (.agg (dA x0)))],aj [],0,[]⟩) (View.init (by rfl)) zL ?_
 replace h:=cL h
 obtain ⟨_,h⟩:=h
 obtain ⟨dm,rfl,h9⟩:=aQ h;replace h:=h9;clear h9;rw [jf] at h
 refine sR ?_
 refine XK.fz (some 1) rfl rfl (fl (ds:=dA x0) rfl rfl rfl rfl rfl ?_)
 refine xz 2 (pS ([]:List UInt8)) ?_
 refine QW.seq ?_
 refine sR ?_
 refine xs 5 rfl (aO rfl TT.vB (by decide) rfl ?_)
 refine xs 6 rfl (aC (d:= .val (.bool (x0.cF))) rfl TT.GG rfl (c8.one) ?_)
 refine xs 7 rfl (ou rfl rfl ?_)
 refine XK.nz ?_
 refine QW.cond (t:=(!(x0).cF)) rfl zL (fun dh=>?_) (fun dh=>?_)
 ·replace h:=fF h dh
  refine QW.seq ?_
  refine sR ?_
  refine xs 8 rfl (aO rfl TT.jD (by decide) rfl ?_)
  refine xs 9 rfl (aC (d:= .val (sV (x0.fS))) rfl TT.fJ rfl (c8.one) ?_)
  refine xs 10 rfl (gE (l:=x0.fS) rfl TT.bY rfl ?_)
  refine xs 11 rfl (eF (a:=((x0.fS).length:Int)) (b:=(1:Int)) rfl rfl rfl ?_)
  refine xm 12 (pB (decide (((x0.fS).length:Int)=(1:Int)))) ?_
  refine xg 13 (.d (.cA ((dA x0).drop 1))) rfl rfl (fun hg=>aO rfl TT.jD (by decide) rfl g3) ?_
  refine xg 14 (pS (x0.fS)) rfl rfl (fun hg=>aC (d:= .val (sV (x0.fS))) rfl TT.fJ rfl (c8.one) g3) ?_
  obtain ⟨xE,h⟩:=gG h
  refine xg 15 (.d (.val (.int .u8 ((idx (x0.fS) (0:Int)).toNat:Int)))) rfl rfl (fun hg=>lK (l:=x0.fS) (i:=(0:Int)) rfl TT.bY TT.nT rfl rfl (xE (Fp hg)) g3) ?_
  refine xg 16 (pB (decide (((idx (x0.fS) (0:Int)).toNat:Int)≤(127:Int)))) rfl rfl (fun hg=>yN (a:=((idx (x0.fS) (0:Int)).toNat:Int)) (b:=(127:Int)) rfl rfl rfl g3) ?_
  refine xs 17 rfl (fu rfl rfl rfl rfl (fun hb=>by rw [hb];rfl) (fun _=>rfl) ?_)
  refine XK.nz ?_
  refine QW.cond (t:=((decide (((x0.fS).length:Int)=(1:Int)))&&(decide (((idx (x0.fS) (0:Int)).toNat:Int)≤(127:Int))))) rfl zL (fun dU=>?_) (fun dU=>?_)
  ·replace h:=fF h dU
   refine sR ?_
   refine xs 18 rfl (aO rfl TT.jD (by decide) rfl ?_)
   refine xs 19 rfl (aC (d:= .val (sV (x0.fS))) rfl TT.fJ rfl (c8.one) ?_)
   refine xz 2 (pS (x0.fS)) ?_
   refine QW.ret zL (gm (gm ?_))
   obtain rfl:=sG h
   exact Ends.one (.inr rfl) rfl (aI.tmp rfl) rfl rfl
  ·replace h:=fG h dU
   refine QW.skip zL (aX ?_)
   refine QW.seq ?_
   refine QW.region zL (PW.kX (id:=4) dc (M:=_) rfl (by kernel_rfl) ?_)
   refine RQ.st (some 20) rfl rfl (aO rfl TT.jD (by decide) rfl ⟨⟨rfl,rfl⟩,?_⟩)
   refine RQ.st (some 21) rfl rfl (aC (d:= .val (sV (x0.fS))) rfl TT.fJ rfl (c8.one) ⟨⟨rfl,rfl⟩,?_⟩)
   refine RQ.st (some 22) rfl rfl (gE (l:=x0.fS) rfl TT.bY rfl ⟨⟨rfl,rfl⟩,?_⟩)
   obtain ⟨x_4,kZ,h⟩:=bG h
   refine RQ.st (some 23) rfl rfl (aA rfl rfl TT.Cu rfl (uu ((x0.fS).length:Int) false _ kZ) ⟨⟨rfl,rfl⟩,?_⟩)
   refine RQ.st (some 24) rfl rfl (aO rfl TT.jD (by decide) rfl ⟨⟨rfl,rfl⟩,?_⟩)
   refine RQ.st (some 25) rfl rfl (aC (d:= .val (sV (x0.fS))) rfl TT.fJ rfl (c8.one) ⟨⟨rfl,rfl⟩,?_⟩)
   obtain ⟨mJ,h⟩:=gG h
   refine RQ.st (some 26) rfl rfl (lf (a:=x_4) (b:=x0.fS) rfl rfl rfl mJ ⟨⟨rfl,rfl⟩,?_⟩)
   refine RQ.st (some 2) rfl rfl (cq (v:=pS (x_4++x0.fS)) rfl rfl ⟨⟨rfl,rfl⟩,?_⟩)
   refine RQ.nil (aX ?_)
   refine QW.ret zL (gm ?_)
   obtain rfl:=sG h
   exact Ends.one (.inr rfl) rfl (aI.tmp rfl) rfl rfl
 ·replace h:=fG h dh
  refine QW.skip zL (aX ?_)
  refine sR ?_
  refine xz 3 (pS ([]:List UInt8)) ?_
  refine QW.seq ?_
  refine sR ?_
  refine xz 4 (pI (0)) ?_
  refine QW.block ?_
  refine QW.loop (fun k σ=>∃ v3:(List UInt8),∃ v4:Int,k≤dm∧run (jf self x0) k (.L1 v3 v4)=some r∧σ=⟨aG [(1, .d (.cA (dA x0))),(3,pS v3),(4,pI v4)],aj [],0,[]⟩) dm zL ⟨⟨aG [(1, .d (.cA (dA x0))),(3,pS ([]:List UInt8)),(4,pI (0))],aj [],0,[]⟩,View.mk 0 [] _ _ _ rfl rfl (by decide) (iC (iC (iC trivial))) trivial rfl zL rfl,([]:List UInt8),0,Nat.le_refl _,jG h,rfl⟩ ?_
  rintro Y1 _ ⟨v3,v4,Y2,h,rfl⟩
  obtain ⟨Xt,rfl,h9⟩:=aQ h;replace h:=h9;clear h9;rw [jf] at h
  refine QW.seq ?_
  refine sR ?_
  refine xm 27 (pI v4) ?_
  refine xs 28 rfl (aO rfl TT.mV (by decide) rfl ?_)
  refine xs 29 rfl (aC (d:= .slice ((x0.fL).map bu)) rfl TT.tv rfl (c8.one) ?_)
  refine xs 30 rfl (cM (en:=bu) (l:=x0.fL) rfl TT.q7 rfl ?_)
  refine xs 31 rfl (cJ (a:=v4) (b:=((x0.fL).length:Int)) rfl rfl rfl ?_)
  refine XK.nz ?_
  refine QW.cond (t:=(decide (v4<((x0.fL).length:Int)))) rfl zL (fun rZ=>?_) (fun rZ=>?_)
  ·replace h:=fF h rZ
   refine QW.skip zL (aX ?_)
   refine QW.seq ?_
   refine QW.block ?_
   refine rG ?_
   refine xm 34 (pS v3) ?_
   refine xs 35 rfl (aO rfl TT.mV (by decide) rfl ?_)
   refine xs 36 rfl (aC (d:= .slice ((x0.fL).map bu)) rfl TT.tv rfl (c8.one) ?_)
   refine xm 37 (pI v4) ?_
   obtain ⟨qG,h⟩:=gG h
   refine xs 38 rfl (bC (l:=x0.fL) (i:=v4) rfl TT.Ac kQ rfl rfl qG ?_)
   refine xs 39 rfl (aC (d:= .agg (dA (idx (x0.fL) v4))) rfl TT.eC rfl (⟨by simp [dA],rfl⟩) ?_)
   obtain ⟨x_10,qJ,h⟩:=bG h
   refine xs 40 rfl (aA rfl rfl TT.Hq rfl (fQ (idx (x0.fL) v4) _ qJ) ?_)
   obtain ⟨m5,h⟩:=gG h
   refine xs 41 rfl (lf (a:=v3) (b:=x_10) rfl rfl rfl m5 ?_)
   refine xa 3 (pS (v3++x_10)) ?_
   refine XK.nil (g6 (aX ?_))
   refine rG ?_
   refine xm 32 (pI v4) ?_
   obtain ⟨nJ,h⟩:=gG h
   refine xs 33 rfl (bX (a:=v4) (b:=(1:Int)) rfl rfl rfl nJ ?_)
   refine xz 4 (pI (v4+(1:Int))) ?_
   exact ⟨Xt,by omega,⟨aG [(1, .d (.cA (dA x0))),(3,pS (v3++x_10)),(4,pI (v4+(1:Int)))],aj [],0,[]⟩,View.mk 0 [] _ _ _ rfl rfl (by decide) (iC (iC (iC trivial))) trivial rfl zL rfl,(v3++x_10),(v4+(1:Int)),by omega,jG h,rfl⟩
  ·replace h:=fG h rZ
   refine QW.exit zL (eD (eD (j3 (aX ?_))))
   refine sR ?_
   refine xm 42 (pS v3) ?_
   refine xs 43 rfl (gE (l:=v3) rfl TT.bY rfl ?_)
   obtain ⟨x_14,Hu,h⟩:=bG h
   refine xs 44 rfl (aA rfl rfl TT.Cu rfl (uu (v3.length:Int) true _ Hu) ?_)
   refine xm 45 (pS v3) ?_
   obtain ⟨oR,h⟩:=gG h
   refine xs 46 rfl (lf (a:=x_14) (b:=v3) rfl rfl rfl oR ?_)
   refine xz 2 (pS (x_14++v3)) ?_
   refine QW.ret zL ?_
   obtain rfl:=sG h
   exact Ends.one (.inr rfl) rfl (aI.tmp rfl) rfl rfl
noncomputable def nw:Nat→Item→Option (List UInt8)
 | 0=>fun _=>none
 | n+1=>fun y0=>xP (nw n) y0
theorem zJ:∀ (n:Nat) (y0:Item) (rr:(List UInt8)),nw n y0=some rr→bI Tryz.prog 70 [.agg (dA y0)] (.val (sV rr))
 | 0,_,_,h=>by cases h
 | n+1,y0,rr,h=>Fz (nw n) (zJ n) y0 rr h
noncomputable def zc (y0:Item):Option (List UInt8):=wX (fun n=>nw n y0)
theorem Hv (y0:Item) (rr:(List UInt8)) (h:zc y0=some rr):bI Tryz.prog 70 [.agg (dA y0)] (.val (sV rr)):=by
 obtain ⟨n,hn⟩:=oe h
 exact zJ n y0 rr hn
noncomputable def lG (s0:(List UInt8)):Option (List UInt8):=
  ((zc (⟨false,s0,([]:(List Item))⟩:Item)).bind fun (x_1:(List UInt8))=>
  some x_1)
theorem qs (s0:(List UInt8)) (r:(List UInt8)) (h:lG s0=some r):bI Tryz.prog 59 [.val (sV s0)] (.val (sV r)):=by
 refine bI.aU Tryz.func59 rfl (by simp [Tryz.ntmps59]) ?_
 rw [Tryz.ntmps59,TT.VA]
 refine QW.view (s':=⟨aG [(0,pS s0)],aj [],0,[]⟩) (View.init (by rfl)) zL ?_
 unfold lG at h
 refine sR ?_
 refine xz 2 (pS ([]:List UInt8)) ?_
 refine sR ?_
 refine xm 3 (pS s0) ?_
 refine xs 4 rfl (eT (v:= .agg [pB false,pS s0, .full (([]:(List Item)).map bu)]) rfl TT.x9 (dG rfl (cw (cells':=[pB false,pS s0, .full (([]:(List Item)).map bu)]) rfl rfl rfl bL rfl dF)) ?_)
 obtain ⟨x_1,fB,h⟩:=bO h
 refine xs 5 rfl (aA rfl rfl TT.Hq rfl (Hv (⟨false,s0,([]:(List Item))⟩:Item) _ fB) ?_)
 refine xz 2 (pS x_1) ?_
 refine QW.ret zL ?_
 obtain rfl:=sO h
 exact Ends.one (.inr rfl) rfl (aI.tmp rfl) rfl rfl
noncomputable def kB (s0:(List UInt8)):Option (List UInt8):=
  (bif ((s0==([]:List UInt8))||(decide ((s0.length:Int)=(32:Int)))) then
  ((lG s0).bind fun (x_2:(List UInt8))=>
  some x_2)
  else
  some s0)
theorem Az (s0:(List UInt8)) (r:(List UInt8)) (h:kB s0=some r):bI Tryz.prog 61 [.val (sV s0)] (.val (sV r)):=by
 refine bI.aU Tryz.func61 rfl (by simp [Tryz.ntmps61]) ?_
 rw [Tryz.ntmps61,TT.VB]
 refine QW.view (s':=⟨aG [(0,pS s0)],aj [],0,[]⟩) (View.init (by rfl)) zL ?_
 unfold kB at h
 refine sR ?_
 refine xz 2 (pS ([]:List UInt8)) ?_
 refine QW.seq ?_
 refine sR ?_
 refine xm 3 (pS s0) ?_
 refine xs 4 rfl (nR (a:=s0) (b:=([]:List UInt8)) rfl rfl rfl ?_)
 refine xm 5 (pB (s0==([]:List UInt8))) ?_
 refine xg 6 (pS s0) rfl rfl (fun hg=>au (v:=pS s0) rfl rfl g3) ?_
 refine xg 7 (pI (s0.length:Int)) rfl rfl (fun hg=>gE (l:=s0) rfl TT.bY rfl g3) ?_
 refine xg 8 (pB (decide ((s0.length:Int)=(32:Int)))) rfl rfl (fun hg=>eF (a:=(s0.length:Int)) (b:=(32:Int)) rfl rfl rfl g3) ?_
 refine xs 9 rfl (jt rfl rfl rfl rfl (fun _=>rfl) (fun hb=>by rw [hb];rfl) ?_)
 refine XK.nz ?_
 refine QW.cond (t:=((s0==([]:List UInt8))||(decide ((s0.length:Int)=(32:Int))))) rfl zL (fun dh=>?_) (fun dh=>?_)
 ·replace h:=bT h dh
  refine sR ?_
  refine xm 10 (pS s0) ?_
  obtain ⟨x_2,nI,h⟩:=bO h
  refine xs 11 rfl (aA rfl rfl TT.za rfl (qs s0 _ nI) ?_)
  refine xz 2 (pS x_2) ?_
  refine QW.ret zL (gm ?_)
  obtain rfl:=sO h
  exact Ends.one (.inr rfl) rfl (aI.tmp rfl) rfl rfl
 ·replace h:=bF h dh
  refine QW.skip zL (aX ?_)
  refine sR ?_
  refine xm 12 (pS s0) ?_
  refine xz 2 (pS s0) ?_
  refine QW.ret zL ?_
  obtain rfl:=sO h
  exact Ends.one (.inr rfl) rfl (aI.tmp rfl) rfl rfl
inductive zd where
 | S
 | L4 (r8:(List UInt8)) (o6:Int)
 | J3 (xj:(List UInt8))
noncomputable def cN (n0:Node):zd→Option (zd⊕(List UInt8))
 | .S=>
  (((bif (decide ((n0.bf)=(1:Int))) then
  ((tB (n0.av) true).bind fun (x_2:(List UInt8))=>
  ((lG x_2).bind fun (x_4:(List UInt8))=>
  ((lG (n0.az)).bind fun (x_6:(List UInt8))=>
  gO (x_4.length+x_6.length≤9223372036854775807) (
  some (x_4++x_6)))))
  else
  some ([]:List UInt8)):Option (List UInt8)).bind fun (v3:(List UInt8))=>
  (((bif (decide ((n0.bf)=(2:Int))) then
  ((tB (n0.av) false).bind fun (x_10:(List UInt8))=>
  ((lG x_10).bind fun (x_12:(List UInt8))=>
  ((kB (idx (n0.aR).1 (0:Int))).bind fun (x_14:(List UInt8))=>
  gO (x_12.length+x_14.length≤9223372036854775807) (
  some (x_12++x_14)))))
  else
  some v3):Option (List UInt8)).bind fun (kH:(List UInt8))=>
  (bif (decide ((n0.bf)=(3:Int))) then
  some (.inl (.L4 kH (0)))
  else
  some (.inl (.J3 kH)))))
 | .L4 r8 o6=>
  (bif (decide (o6<(16:Int))) then
  gO (0≤o6∧o6<((16:Nat):Int)) (
  ((kB (idx (n0.aR).1 o6)).bind fun (x_21:(List UInt8))=>
  gO (r8.length+x_21.length≤9223372036854775807) (
  gO (bw (o6+(1:Int))) (
  some (.inl (.L4 (r8++x_21) (o6+(1:Int))))))))
  else
  gO (r8.length+([128]:List UInt8).length≤9223372036854775807) (
  some (.inl (.J3 (r8++([128]:List UInt8))))))
 | .J3 xj=>
  ((m4 (xj.length:Int) true).bind fun (vN:(List UInt8))=>
  gO (vN.length+xj.length≤9223372036854775807) (
  some (.inr (vN++xj))))
noncomputable def pK (n0:Node):Option (List UInt8):=g9 (cN n0) .S
theorem Hw (n0:Node) (r:(List UInt8)) (h:pK n0=some r):bI Tryz.prog 33 [.agg (cNode n0)] (.val (sV r)):=by
 refine bI.aU Tryz.func33 rfl (by simp [Tryz.ntmps33]) ?_
 rw [Tryz.ntmps33,TT.Vz]
 refine QW.view (s':=⟨aG [(0, .d (.agg (cNode n0)))],aj [],0,[]⟩) (View.init (by rfl)) zL ?_
 replace h:=cL h
 obtain ⟨_,h⟩:=h
 obtain ⟨dm,rfl,h9⟩:=aQ h;replace h:=h9;clear h9;rw [cN] at h
 refine sR ?_
 refine XK.fz (some 1) rfl rfl (fl (ds:=cNode n0) rfl rfl rfl rfl cH ?_)
 refine xz 2 (pS ([]:List UInt8)) ?_
 refine sR ?_
 refine xz 3 (pS ([]:List UInt8)) ?_
 obtain ⟨v3,hq,h⟩:=bG h
 refine QW.qY (fun s'=>s'=⟨aG [(1, .d (.cA (cNode n0))),(3,pS v3)],aj [],0,[]⟩) ?_ ?_
 ·replace h:=hq;clear hq
  refine sR ?_
  refine xs 5 rfl (aO rfl TT.qK (by decide) rfl ?_)
  refine xs 6 rfl (aC (d:= .val (.int .i64 (n0.bf))) rfl TT.mW rfl (q8 _) ?_)
  refine xs 7 rfl (eF (a:=(n0.bf)) (b:=(1:Int)) rfl rfl rfl ?_)
  refine XK.nz ?_
  refine QW.cond (t:=(decide ((n0.bf)=(1:Int)))) rfl zL (fun dh=>?_) (fun dh=>?_)
  ·replace h:=bT h dh
   refine QW.region zL (PW.kX (id:=3) dc (M:=_) rfl (by kernel_rfl) ?_)
   refine RQ.st (some 8) rfl rfl (aO rfl TT.qL (by decide) rfl ⟨⟨rfl,rfl⟩,?_⟩)
   refine RQ.st (some 9) rfl rfl (aC (d:= .slice ((n0.av).map U)) rfl TT.fh rfl (oM _) ⟨⟨rfl,rfl⟩,?_⟩)
   obtain ⟨x_2,nI,h⟩:=bO h
   refine RQ.st (some 10) rfl rfl (aA rfl rfl TT.Ho rfl (zH (n0.av) true _ nI) ⟨⟨rfl,rfl⟩,?_⟩)
   obtain ⟨x_4,kZ,h⟩:=bO h
   refine RQ.st (some 11) rfl rfl (aA rfl rfl TT.za rfl (qs x_2 _ kZ) ⟨⟨rfl,rfl⟩,?_⟩)
   refine RQ.st (some 12) rfl rfl (aO rfl TT.s5 (by decide) rfl ⟨⟨rfl,rfl⟩,?_⟩)
   refine RQ.st (some 13) rfl rfl (aC (d:= .val (sV (n0.az))) rfl TT.fJ rfl (q9 _) ⟨⟨rfl,rfl⟩,?_⟩)
   obtain ⟨x_6,yg,h⟩:=bO h
   refine RQ.st (some 14) rfl rfl (aA rfl rfl TT.za rfl (qs (n0.az) _ yg) ⟨⟨rfl,rfl⟩,?_⟩)
   obtain ⟨p5,h⟩:=bk h
   refine RQ.st (some 15) rfl rfl (lf (a:=x_4) (b:=x_6) rfl rfl rfl p5 ⟨⟨rfl,rfl⟩,?_⟩)
   refine RQ.st (some 3) rfl rfl (cq (v:=pS (x_4++x_6)) rfl rfl ⟨⟨rfl,rfl⟩,?_⟩)
   refine RQ.nil (aX ?_)
   obtain rfl:=sO h
   exact ⟨⟨aG [(1, .d (.cA (cNode n0))),(3,pS (x_4++x_6))],aj [],0,[]⟩,View.mk 0 [] _ _ _ rfl rfl (by decide) (iC (iC trivial)) trivial rfl zL rfl,rfl⟩
  ·replace h:=bF h dh
   refine QW.skip zL (aX ?_)
   obtain rfl:=sO h
   exact ⟨⟨aG [(1, .d (.cA (cNode n0))),(3,pS ([]:List UInt8))],aj [],0,[]⟩,View.mk 0 [] _ _ _ rfl rfl (by decide) (iC (iC trivial)) trivial rfl zL rfl,rfl⟩
 ·rintro _ rfl
  obtain ⟨kH,hq,h⟩:=bG h
  refine QW.qY (fun s'=>s'=⟨aG [(1, .d (.cA (cNode n0))),(3,pS kH)],aj [],0,[]⟩) ?_ ?_
  ·replace h:=hq;clear hq
   refine sR ?_
   refine xs 16 rfl (aO rfl TT.qK (by decide) rfl ?_)
   refine xs 17 rfl (aC (d:= .val (.int .i64 (n0.bf))) rfl TT.mW rfl (q8 _) ?_)
   refine xs 18 rfl (eF (a:=(n0.bf)) (b:=(2:Int)) rfl rfl rfl ?_)
   refine XK.nz ?_
   refine QW.cond (t:=(decide ((n0.bf)=(2:Int)))) rfl zL (fun rX=>?_) (fun rX=>?_)
   ·replace h:=bT h rX
    refine QW.region zL (PW.kX (id:=5) dc (M:=_) rfl (by kernel_rfl) ?_)
    refine RQ.st (some 19) rfl rfl (aO rfl TT.qL (by decide) rfl ⟨⟨rfl,rfl⟩,?_⟩)
    refine RQ.st (some 20) rfl rfl (aC (d:= .slice ((n0.av).map U)) rfl TT.fh rfl (oM _) ⟨⟨rfl,rfl⟩,?_⟩)
    obtain ⟨x_10,qJ,h⟩:=bO h
    refine RQ.st (some 21) rfl rfl (aA rfl rfl TT.Ho rfl (zH (n0.av) false _ qJ) ⟨⟨rfl,rfl⟩,?_⟩)
    obtain ⟨x_12,uq,h⟩:=bO h
    refine RQ.st (some 22) rfl rfl (aA rfl rfl TT.za rfl (qs x_10 _ uq) ⟨⟨rfl,rfl⟩,?_⟩)
    refine RQ.st (some 23) rfl rfl (aO rfl TT.mY (by decide) rfl ⟨⟨rfl,rfl⟩,?_⟩)
    refine RQ.st (some 24) rfl rfl (mF (i:=(0:Int)) rfl TT.tV TT.oP rfl rfl (by decide) ⟨⟨rfl,rfl⟩,?_⟩)
    refine RQ.st (some 25) rfl rfl (aC (d:= .val (sV (idx (n0.aR).1 (0:Int)))) rfl TT.fJ rfl (ov (ri _) (by decide)) ⟨⟨rfl,rfl⟩,?_⟩)
    obtain ⟨x_14,Hu,h⟩:=bO h
    refine RQ.st (some 26) rfl rfl (aA rfl rfl TT.Hp rfl (Az (idx (n0.aR).1 (0:Int)) _ Hu) ⟨⟨rfl,rfl⟩,?_⟩)
    obtain ⟨oR,h⟩:=bk h
    refine RQ.st (some 27) rfl rfl (lf (a:=x_12) (b:=x_14) rfl rfl rfl oR ⟨⟨rfl,rfl⟩,?_⟩)
    refine RQ.st (some 3) rfl rfl (cq (v:=pS (x_12++x_14)) rfl rfl ⟨⟨rfl,rfl⟩,?_⟩)
    refine RQ.nil (aX ?_)
    obtain rfl:=sO h
    exact ⟨⟨aG [(1, .d (.cA (cNode n0))),(3,pS (x_12++x_14))],aj [],0,[]⟩,View.mk 0 [] _ _ _ rfl rfl (by decide) (iC (iC trivial)) trivial rfl zL rfl,rfl⟩
   ·replace h:=bF h rX
    refine QW.skip zL (aX ?_)
    obtain rfl:=sO h
    exact ⟨⟨aG [(1, .d (.cA (cNode n0))),(3,pS v3)],aj [],0,[]⟩,View.mk 0 [] _ _ _ rfl rfl (by decide) (iC (iC trivial)) trivial rfl zL rfl,rfl⟩
  ·rintro _ rfl
   refine QW.qY (fun s'=>∃ xj:(List UInt8),∃ k:Nat,k≤dm∧run (cN n0) k (.J3 xj)=some r∧s'=⟨aG [(3,pS xj)],aj [],0,[]⟩) ?_ ?_
   ·refine sR ?_
    refine xs 28 rfl (aO rfl TT.qK (by decide) rfl ?_)
    refine xs 29 rfl (aC (d:= .val (.int .i64 (n0.bf))) rfl TT.mW rfl (q8 _) ?_)
    refine xs 30 rfl (eF (a:=(n0.bf)) (b:=(3:Int)) rfl rfl rfl ?_)
    refine XK.nz ?_
    refine QW.cond (t:=(decide ((n0.bf)=(3:Int)))) rfl zL (fun qE=>?_) (fun qE=>?_)
    ·replace h:=fF h qE
     refine QW.seq ?_
     refine sR ?_
     refine xz 4 (pI (0)) ?_
     refine QW.block ?_
     refine QW.loop (fun k σ=>∃ r8:(List UInt8),∃ o6:Int,k≤dm∧run (cN n0) k (.L4 r8 o6)=some r∧σ=⟨aG [(1, .d (.cA (cNode n0))),(3,pS r8),(4,pI o6)],aj [],0,[]⟩) dm zL ⟨⟨aG [(1, .d (.cA (cNode n0))),(3,pS kH),(4,pI (0))],aj [],0,[]⟩,View.mk 0 [] _ _ _ rfl rfl (by decide) (iC (iC (iC trivial))) trivial rfl zL rfl,kH,0,Nat.le_refl _,jG h,rfl⟩ ?_
     rintro aaJ _ ⟨r8,o6,aaK,h,rfl⟩
     obtain ⟨Wt,rfl,h9⟩:=aQ h;replace h:=h9;clear h9;rw [cN] at h
     refine QW.seq ?_
     refine sR ?_
     refine xm 31 (pI o6) ?_
     refine xs 32 rfl (cJ (a:=o6) (b:=(16:Int)) rfl rfl rfl ?_)
     refine XK.nz ?_
     refine QW.cond (t:=(decide (o6<(16:Int)))) rfl zL (fun Ce=>?_) (fun Ce=>?_)
     ·replace h:=fF h Ce
      refine QW.skip zL (aX ?_)
      refine QW.seq ?_
      refine QW.block ?_
      refine rG ?_
      refine xm 35 (pS r8) ?_
      refine xm 36 (pI o6) ?_
      refine xs 37 rfl (aO rfl TT.mY (by decide) rfl ?_)
      obtain ⟨vS,h⟩:=gG h
      refine xs 38 rfl (mF (i:=o6) rfl TT.tV TT.oP rfl rfl vS ?_)
      refine xs 39 rfl (aC (d:= .val (sV (idx (n0.aR).1 o6))) rfl TT.fJ rfl (ov (ri _) vS) ?_)
      obtain ⟨x_21,G2,h⟩:=bG h
      refine xs 40 rfl (aA rfl rfl TT.Hp rfl (Az (idx (n0.aR).1 o6) _ G2) ?_)
      obtain ⟨Dh,h⟩:=gG h
      refine xs 41 rfl (lf (a:=r8) (b:=x_21) rfl rfl rfl Dh ?_)
      refine xa 3 (pS (r8++x_21)) ?_
      refine XK.nil (g6 (aX ?_))
      refine rG ?_
      refine xm 33 (pI o6) ?_
      obtain ⟨w5,h⟩:=gG h
      refine xs 34 rfl (bX (a:=o6) (b:=(1:Int)) rfl rfl rfl w5 ?_)
      refine xz 4 (pI (o6+(1:Int))) ?_
      exact ⟨Wt,by omega,⟨aG [(1, .d (.cA (cNode n0))),(3,pS (r8++x_21)),(4,pI (o6+(1:Int)))],aj [],0,[]⟩,View.mk 0 [] _ _ _ rfl rfl (by decide) (iC (iC (iC trivial))) trivial rfl zL rfl,(r8++x_21),(o6+(1:Int)),by omega,jG h,rfl⟩
     ·replace h:=fG h Ce
      refine QW.exit zL (eD (eD (j3 (aX ?_))))
      refine rG ?_
      refine xm 42 (pS r8) ?_
      obtain ⟨Di,h⟩:=gG h
      refine xs 43 rfl (lf (a:=r8) (b:=([128]:List UInt8)) rfl rfl rfl Di ?_)
      refine xz 3 (pS (r8++([128]:List UInt8))) ?_
      exact ⟨⟨aG [(3,pS (r8++([128]:List UInt8)))],aj [],0,[]⟩,View.mk 0 [] _ _ _ rfl rfl (by decide) (iC trivial) trivial rfl zL rfl,(r8++([128]:List UInt8)),Wt,by omega,jG h,rfl⟩
    ·replace h:=fG h qE
     refine QW.skip zL (aX ?_)
     exact ⟨⟨aG [(3,pS kH)],aj [],0,[]⟩,View.mk 0 [] _ _ _ rfl rfl (by decide) (iC trivial) trivial rfl zL rfl,kH,dm,by omega,jG h,rfl⟩
   ·rintro _ ⟨xj,aaL,aaM,h,rfl⟩
    obtain ⟨abm,rfl,h9⟩:=aQ h;replace h:=h9;clear h9;rw [cN] at h
    refine sR ?_
    refine xm 44 (pS xj) ?_
    refine xs 45 rfl (gE (l:=xj) rfl TT.bY rfl ?_)
    obtain ⟨vN,yU,h⟩:=bG h
    refine xs 46 rfl (aA rfl rfl TT.Cu rfl (uu (xj.length:Int) true _ yU) ?_)
    refine xm 47 (pS xj) ?_
    obtain ⟨rz,h⟩:=gG h
    refine xs 48 rfl (lf (a:=vN) (b:=xj) rfl rfl rfl rz ?_)
    refine xz 2 (pS (vN++xj)) ?_
    refine QW.ret zL ?_
    obtain rfl:=sG h
    exact Ends.one (.inr rfl) rfl (aI.tmp rfl) rfl rfl
end Go.Proofs.YtlfjfoknbjcncaaGreat.K
namespace Go.Proofs.YtlfjfoknbjcncaaGreat.K
open Go Go.RowKit
set_option linter.unusedSimpArgs false
set_option linter.unusedVariables false
set_option maxRecDepth 20000
set_option maxHeartbeats 4000000
namespace TT
theorem E8:O9 Tryz.prog 28 32=true:=by kernel_rfl
theorem Mj:p8 Tryz.prog 53=some ([Value.slice none 0 0,Value.string ⟨#[]⟩], .inl [(0,1),(1,1)]):=by kernel_rfl
theorem Ow:aP Tryz.prog 10=true:=by kernel_rfl
theorem Cw:aP Tryz.prog 15=true:=by kernel_rfl
theorem Cx:aP Tryz.prog 20=true:=by kernel_rfl
theorem Ox:aP Tryz.prog 32=true:=by kernel_rfl
theorem Oy:aP Tryz.prog 34=true:=by kernel_rfl
theorem Oz:aP Tryz.prog 56=true:=by kernel_rfl
theorem Hx:aP Tryz.prog 57=true:=by kernel_rfl
theorem OA:aP Tryz.prog 58=true:=by kernel_rfl
theorem OB:aP Tryz.prog 84=true:=by kernel_rfl
theorem OC:aP Tryz.prog 85=true:=by kernel_rfl
theorem nX:mu Tryz.prog 53 0=some (0,1,false):=by kernel_rfl
theorem Cy:mu Tryz.prog 53 1=some (1,1,false):=by kernel_rfl
theorem VF:Tryz.f10.results.toList=[.tmp 4]:=rfl
theorem VG:Tryz.f15.results.toList=[.tmp 2]:=rfl
theorem VH:Tryz.f16.results.toList=[.tmp 2]:=rfl
theorem VI:Tryz.f32.results.toList=[.cell 2 58, .tmp 3]:=rfl
theorem VJ:Tryz.f56.results.toList=[.tmp 2]:=rfl
theorem VK:Tryz.f57.results.toList=[.tmp 4]:=rfl
theorem VL:Tryz.f58.results.toList=[.tmp 4]:=rfl
theorem yp:oH Tryz.prog 26=some (33,48):=by kernel_rfl
theorem yq:oH Tryz.prog 46=some (2,40):=by kernel_rfl
theorem ny:mz Tryz.prog 46=some (2,40,true):=by kernel_rfl
theorem VM:jS Tryz.prog 53=some (true,2):=by kernel_rfl
theorem pL:Program.underlying Tryz.prog 46=some (.slice 53):=by kernel_rfl
end TT
inductive td where
 | S
 | L1 (bJ:(List bt)) (v6:Int)
noncomputable def iL (l0:(List bt)) (k1:(aE 32 UInt8)):td→Option (td⊕(List bt))
 | .S=>
  some (.inl (.L1 ([]:(List bt)) (0)))
 | .L1 bJ v6=>
  (bif (decide (v6<(l0.length:Int))) then
  ((gO (0≤v6∧v6<(l0.length:Int)) (
  (bif (!(((idx l0 v6).ct).1==k1.1)) then
  gO (0≤v6∧v6<(l0.length:Int)) (
  gO ((bJ.length+([(idx l0 v6)]:List bt).length)*48≤140737488355328) (
  some (bJ++([(idx l0 v6)]:List bt))))
  else
  some bJ)):Option (List bt)).bind fun (wj:(List bt))=>
  gO (bw (v6+(1:Int))) (
  some (.inl (.L1 wj (v6+(1:Int))))))
  else
  some (.inr bJ))
noncomputable def tf (l0:(List bt)) (k1:(aE 32 UInt8)):Option (List bt):=g9 (iL l0 k1) .S
theorem Cz (l0:(List bt)) (k1:(aE 32 UInt8)) (r:(List bt)) (h:tf l0 k1=some r):bI Tryz.prog 10 [.slice (l0.map bp), .agg (k1.1.map U)] (.slice (r.map bp)):=by
 refine bI.aU Tryz.func10 rfl (by simp [Tryz.ntmps10]) ?_
 rw [Tryz.ntmps10,TT.VF]
 refine QW.view (s':=⟨aG [(0, .d (.slice (l0.map bp))),(1, .d (.agg (k1.1.map U)))],aj [],0,[]⟩) (View.init (by rfl)) zL ?_
 replace h:=cL h
 obtain ⟨_,h⟩:=h
 obtain ⟨dm,rfl,h9⟩:=aQ h;replace h:=h9;clear h9;rw [iL] at h
 refine sR ?_
 refine XK.fz (some 3) rfl rfl (fl (ds:=k1.1.map U) rfl rfl rfl rfl cH ?_)
 refine xz 4 (.full (([]:(List bt)).map bp)) ?_
 refine sR ?_
 refine xz 5 (.full (([]:(List bt)).map bp)) ?_
 refine QW.seq ?_
 refine sR ?_
 refine xz 6 (pI (0)) ?_
 refine QW.block ?_
 refine QW.loop (fun k σ=>∃ bJ:(List bt),∃ v6:Int,k≤dm∧run (iL l0 k1) k (.L1 bJ v6)=some r∧σ=⟨aG [(0, .d (.slice (l0.map bp))),(3, .d (.cA (k1.1.map U))),(5, .own 0 (bJ.map bp)),(6,pI v6)],aj [.spare 33 bJ.length],1,[]⟩) dm zL ⟨⟨aG [(0, .d (.slice (l0.map bp))),(3, .d (.cA (k1.1.map U))),(5, .own 0 (([]:(List bt)).map bp)),(6,pI (0))],aj [.spare 33 ([]:(List bt)).length],1,[]⟩,View.trans (View.buf 5 33 rfl zL) (View.mk 1 [0] _ _ _ rfl rfl (by decide) (iC (iC (iC (iC trivial)))) (And.intro rfl trivial) rfl zL rfl),([]:(List bt)),0,Nat.le_refl _,jG h,rfl⟩ ?_
 rintro rO _ ⟨bJ,v6,rP,h,rfl⟩
 obtain ⟨k_1,rfl,h9⟩:=aQ h;replace h:=h9;clear h9;rw [iL] at h
 refine QW.seq ?_
 refine sR ?_
 refine xm 7 (pI v6) ?_
 refine xm 8 (.d (.slice (l0.map bp))) ?_
 refine xs 9 rfl (cM (en:=bp) (l:=l0) rfl TT.pH rfl ?_)
 refine xs 10 rfl (cJ (a:=v6) (b:=(l0.length:Int)) rfl rfl rfl ?_)
 refine XK.nz ?_
 refine QW.cond (t:=(decide (v6<(l0.length:Int)))) rfl zL (fun cB=>?_) (fun cB=>?_)
 ·replace h:=fF h cB
  refine QW.skip zL (aX ?_)
  obtain ⟨wj,hq,h⟩:=bG h
  refine QW.qY (fun s'=>s'=⟨aG [(0, .d (.slice (l0.map bp))),(3, .d (.cA (k1.1.map U))),(5, .own 0 (wj.map bp)),(6,pI v6)],aj [.spare 33 wj.length],1,[]⟩) ?_ ?_
  ·replace h:=hq;clear hq
   refine QW.block ?_
   refine QW.seq ?_
   refine QW.region zL (PW.kX (id:=5) dc (M:=_) rfl (by kernel_rfl) ?_)
   refine RQ.st (some 13) rfl rfl (au (v:= .d (.slice (l0.map bp))) rfl rfl ⟨⟨rfl,rfl⟩,?_⟩)
   refine RQ.st (some 14) rfl rfl (au (v:=pI v6) rfl rfl ⟨⟨rfl,rfl⟩,?_⟩)
   obtain ⟨dS,h⟩:=bk h
   refine RQ.st (some 15) rfl rfl (bC (l:=l0) (i:=v6) rfl TT.rY cy rfl rfl dS ⟨⟨rfl,rfl⟩,?_⟩)
   refine RQ.st (some 16) rfl rfl (aO rfl TT.oY (by decide) rfl ⟨⟨rfl,rfl⟩,?_⟩)
   refine RQ.st (some 17) rfl rfl (aC (d:= .agg (((idx l0 v6).ct).1.map U)) rfl TT.jE rfl (nH _) ⟨⟨rfl,rfl⟩,?_⟩)
   refine RQ.st (some 18) rfl rfl (aC (d:= .agg (k1.1.map U)) rfl TT.jE rfl (qa (by rw [List.length_map,k1.2])) ⟨⟨rfl,rfl⟩,?_⟩)
   refine RQ.st (some 19) rfl rfl (I1 (p:=(idx l0 v6).ct) (q:=k1) rfl TT.E8 rfl rfl ⟨⟨rfl,rfl⟩,?_⟩)
   refine RQ.nil (aX ?_)
   refine QW.cond (t:=(!(((idx l0 v6).ct).1==k1.1))) rfl zL (fun jb=>?_) (fun jb=>?_)
   ·replace h:=bT h jb
    refine rG ?_
    refine xm 20 (.own 0 (bJ.map bp)) ?_
    refine xm 21 (.d (.slice (l0.map bp))) ?_
    refine xm 22 (pI v6) ?_
    obtain ⟨nU,h⟩:=bk h
    refine xs 23 rfl (bC (l:=l0) (i:=v6) rfl TT.rY cy rfl rfl nU ?_)
    refine xs 24 rfl (aC (d:= .agg (fm (idx l0 v6))) rfl TT.xh rfl (⟨by rw [cy.len];decide,congrArg D.agg (List.take_of_length_le (by rw [cy.len];decide))⟩) ?_)
    refine xs 25 rfl (ef (en:=bp) (l:=([(idx l0 v6)]:List bt)) rfl TT.yp cy (by first | rfl | (simp only [List.map_cons,List.map_nil,yd];rfl)) rfl (by decide) (by simp [dw,cU,aB,dQ,PV.cz,cx,aG,jA,iU,jX,bU,Value.oneCell']) ?_)
    obtain ⟨mJ,h⟩:=bk h
    refine xs 26 rfl (iY (en:=bp) (l:=bJ) (l2:=([(idx l0 v6)]:List bt)) rfl TT.yp TT.pH rfl cy rfl rfl rfl mJ (by decide) ?_)
    refine xa 5 (.own 1 ((bJ++([(idx l0 v6)]:List bt)).map bp)) ?_
    refine XK.nil (g6 (aX ?_))
    obtain rfl:=sO h
    exact ⟨⟨aG [(0, .d (.slice (l0.map bp))),(3, .d (.cA (k1.1.map U))),(5, .own 0 ((bJ++([(idx l0 v6)]:List bt)).map bp)),(6,pI v6)],aj [.spare 33 (bJ++([(idx l0 v6)]:List bt)).length],1,[]⟩,View.mk 1 [1] _ _ _ rfl rfl (by decide) (iC (iC (iC (iC trivial)))) (And.intro rfl trivial) rfl zL rfl,rfl⟩
   ·replace h:=bF h jb
    refine QW.skip zL (g6 (aX ?_))
    obtain rfl:=sO h
    exact ⟨⟨aG [(0, .d (.slice (l0.map bp))),(3, .d (.cA (k1.1.map U))),(5, .own 0 (bJ.map bp)),(6,pI v6)],aj [.spare 33 bJ.length],1,[]⟩,View.mk 1 [0] _ _ _ rfl rfl (by decide) (iC (iC (iC (iC trivial)))) (And.intro rfl trivial) rfl zL rfl,rfl⟩
  ·rintro _ rfl
   refine rG ?_
   refine xm 11 (pI v6) ?_
   obtain ⟨lQ,h⟩:=gG h
   refine xs 12 rfl (bX (a:=v6) (b:=(1:Int)) rfl rfl rfl lQ ?_)
   refine xz 6 (pI (v6+(1:Int))) ?_
   exact ⟨k_1,by omega,⟨aG [(0, .d (.slice (l0.map bp))),(3, .d (.cA (k1.1.map U))),(5, .own 0 (wj.map bp)),(6,pI (v6+(1:Int)))],aj [.spare 33 wj.length],1,[]⟩,View.mk 1 [0] _ _ _ rfl rfl (by decide) (iC (iC (iC (iC trivial)))) (And.intro rfl trivial) rfl zL rfl,wj,(v6+(1:Int)),by omega,jG h,rfl⟩
 ·replace h:=fG h cB
  refine QW.exit zL (eD (eD (j3 (aX ?_))))
  refine sR ?_
  refine xm 27 (.own 0 (bJ.map bp)) ?_
  refine xz 4 (.own 0 (bJ.map bp)) ?_
  refine QW.ret zL ?_
  obtain rfl:=sG h
  exact Ends.one (.inr rfl) rfl (aI.tmp rfl) rfl rfl
inductive Dv where
 | S
 | L1 (kH:(List In)) (v4:Int)
 | L3 (g8:(List In)) (eG:Int) (uf:Bool) (fA:Int)
 | J2 (xQ:(List In)) (uv:Int)
noncomputable def dB (l0:(List bt)):Dv→Option (Dv⊕(List In))
 | .S=>
  some (.inl (.L1 ([]:(List In)) (0)))
 | .L1 kH v4=>
  (bif (decide (v4<(l0.length:Int))) then
  gO (bw (v4+(1:Int))) (
  some (.inl (.L3 kH v4 true (v4+(1:Int)))))
  else
  some (.inr kH))
 | .L3 g8 eG uf fA=>
  (bif (decide (fA<(l0.length:Int))) then
  gO (uf=true→0≤fA∧fA<(l0.length:Int)) (
  gO (uf=true→0≤eG∧eG<(l0.length:Int)) (
  gO (bw (fA+(1:Int))) (
  some (.inl (.L3 g8 eG (uf&&(!(((idx l0 fA).ct).1==((idx l0 eG).ct).1))) (fA+(1:Int)))))))
  else
  (bif uf then
  gO (0≤eG∧eG<(l0.length:Int)) (
  ((xM ((idx l0 eG).ct)).bind fun (x_11:(List UInt8))=>
  gO (0≤eG∧eG<(l0.length:Int)) (
  gO ((g8.length+([(⟨x_11,(idx l0 eG).az⟩:In)]:List In).length)*40≤140737488355328) (
  some (.inl (.J2 (g8++([(⟨x_11,(idx l0 eG).az⟩:In)]:List In)) eG))))))
  else
  some (.inl (.J2 g8 eG))))
 | .J2 xQ uv=>
  gO (bw (uv+(1:Int))) (
  some (.inl (.L1 xQ (uv+(1:Int)))))
noncomputable def ze (l0:(List bt)):Option (List In):=g9 (dB l0) .S
theorem Hy (l0:(List bt)) (r:(List In)) (h:ze l0=some r):bI Tryz.prog 16 [.slice (l0.map bp)] (.slice (r.map ee)):=by
 refine bI.aU Tryz.func16 rfl (by simp [Tryz.ntmps16]) ?_
 rw [Tryz.ntmps16,TT.VH]
 refine QW.view (s':=⟨aG [(0, .d (.slice (l0.map bp)))],aj [],0,[]⟩) (View.init (by rfl)) zL ?_
 replace h:=cL h
 obtain ⟨_,h⟩:=h
 obtain ⟨dm,rfl,h9⟩:=aQ h;replace h:=h9;clear h9;rw [dB] at h
 refine sR ?_
 refine xz 2 (.full (([]:(List In)).map ee)) ?_
 refine sR ?_
 refine xz 3 (.full (([]:(List In)).map ee)) ?_
 refine QW.seq ?_
 refine sR ?_
 refine xz 4 (pI (0)) ?_
 refine QW.block ?_
 refine QW.loop (fun k σ=>∃ kH:(List In),∃ v4:Int,k≤dm∧run (dB l0) k (.L1 kH v4)=some r∧σ=⟨aG [(0, .d (.slice (l0.map bp))),(3, .own 0 (kH.map ee)),(4,pI v4)],aj [.spare 2 kH.length],1,[]⟩) dm zL ⟨⟨aG [(0, .d (.slice (l0.map bp))),(3, .own 0 (([]:(List In)).map ee)),(4,pI (0))],aj [.spare 2 ([]:(List In)).length],1,[]⟩,View.trans (View.buf 3 2 rfl zL) (View.mk 1 [0] _ _ _ rfl rfl (by decide) (iC (iC (iC trivial))) (And.intro rfl trivial) rfl zL rfl),([]:(List In)),0,Nat.le_refl _,jG h,rfl⟩ ?_
 rintro rO _ ⟨kH,v4,rP,h,rfl⟩
 obtain ⟨k_1,rfl,h9⟩:=aQ h;replace h:=h9;clear h9;rw [dB] at h
 refine QW.seq ?_
 refine sR ?_
 refine xm 7 (pI v4) ?_
 refine xm 8 (.d (.slice (l0.map bp))) ?_
 refine xs 9 rfl (cM (en:=bp) (l:=l0) rfl TT.pH rfl ?_)
 refine xs 10 rfl (cJ (a:=v4) (b:=(l0.length:Int)) rfl rfl rfl ?_)
 refine XK.nz ?_
 refine QW.cond (t:=(decide (v4<(l0.length:Int)))) rfl zL (fun cB=>?_) (fun cB=>?_)
 ·replace h:=fF h cB
  refine QW.skip zL (aX ?_)
  refine QW.qY (fun s'=>∃ xQ:(List In),∃ uv:Int,∃ k:Nat,k≤k_1∧run (dB l0) k (.J2 xQ uv)=some r∧s'=⟨aG [(0, .d (.slice (l0.map bp))),(3, .own 0 (xQ.map ee)),(4,pI uv)],aj [.spare 2 xQ.length],1,[]⟩) ?_ ?_
  ·refine QW.block ?_
   refine sR ?_
   refine xz 5 (pB true) ?_
   refine QW.seq ?_
   refine sR ?_
   refine xm 13 (pI v4) ?_
   obtain ⟨dS,h⟩:=gG h
   refine xs 14 rfl (bX (a:=v4) (b:=(1:Int)) rfl rfl rfl dS ?_)
   refine xz 6 (pI (v4+(1:Int))) ?_
   refine QW.block ?_
   refine QW.loop (fun k σ=>∃ g8:(List In),∃ eG:Int,∃ uf:Bool,∃ fA:Int,k≤k_1∧run (dB l0) k (.L3 g8 eG uf fA)=some r∧σ=⟨aG [(0, .d (.slice (l0.map bp))),(3, .own 0 (g8.map ee)),(4,pI eG),(5,pB uf),(6,pI fA)],aj [.spare 2 g8.length],1,[]⟩) k_1 zL ⟨⟨aG [(0, .d (.slice (l0.map bp))),(3, .own 0 (kH.map ee)),(4,pI v4),(5,pB true),(6,pI (v4+(1:Int)))],aj [.spare 2 kH.length],1,[]⟩,View.mk 1 [0] _ _ _ rfl rfl (by decide) (iC (iC (iC (iC (iC trivial))))) (And.intro rfl trivial) rfl zL rfl,kH,v4,true,(v4+(1:Int)),Nat.le_refl _,jG h,rfl⟩ ?_
   rintro Wr _ ⟨g8,eG,uf,fA,Ws,h,rfl⟩
   obtain ⟨LS,rfl,h9⟩:=aQ h;replace h:=h9;clear h9;rw [dB] at h
   refine QW.seq ?_
   refine sR ?_
   refine xm 15 (pI fA) ?_
   refine xm 16 (.d (.slice (l0.map bp))) ?_
   refine xs 17 rfl (cM (en:=bp) (l:=l0) rfl TT.pH rfl ?_)
   refine xs 18 rfl (cJ (a:=fA) (b:=(l0.length:Int)) rfl rfl rfl ?_)
   refine XK.nz ?_
   refine QW.cond (t:=(decide (fA<(l0.length:Int)))) rfl zL (fun jH=>?_) (fun jH=>?_)
   ·replace h:=fF h jH
    refine QW.skip zL (aX ?_)
    refine QW.seq ?_
    refine QW.block ?_
    refine QW.region zL (PW.kX (id:=9) dc (M:=_) rfl (by kernel_rfl) ?_)
    refine RQ.st (some 21) rfl rfl (au (v:=pB uf) rfl rfl ⟨⟨rfl,rfl⟩,?_⟩)
    refine RQ.st (some 22) rfl rfl (au (v:=pB uf) rfl rfl ⟨⟨rfl,rfl⟩,?_⟩)
    refine RQ.gd (v:= .d (.slice (l0.map bp))) (T:=[]) (some 23) rfl rfl (by repeat (first | exact trivial | refine ⟨fun q=>by first | rfl | exact q | exact jC q | exact jY q,?_⟩)) (fun hg=>au (v:= .d (.slice (l0.map bp))) rfl rfl g3) lp ?_
    refine RQ.gd (v:=pI fA) (T:=[]) (some 24) rfl rfl (by repeat (first | exact trivial | refine ⟨fun q=>by first | rfl | exact q | exact jC q | exact jY q,?_⟩)) (fun hg=>au (v:=pI fA) rfl rfl g3) lp ?_
    obtain ⟨mJ,h⟩:=gG h
    refine RQ.gd (v:= .d (.cA (fm (idx l0 fA)))) (T:=[]) (some 25) rfl rfl (by repeat (first | exact trivial | refine ⟨fun q=>by first | rfl | exact q | exact jC q | exact jY q,?_⟩)) (fun hg=>bC (l:=l0) (i:=fA) rfl TT.rY cy rfl rfl (mJ (Fp hg)) g3) lp ?_
    refine RQ.gd (v:= .d (.cA ((fm (idx l0 fA)).drop 0))) (T:=[]) (some 26) rfl rfl (by repeat (first | exact trivial | refine ⟨fun q=>by first | rfl | exact q | exact jC q | exact jY q,?_⟩)) (fun hg=>aO rfl TT.oY (by decide) rfl g3) lp ?_
    refine RQ.gd (v:= .d (.agg (((idx l0 fA).ct).1.map U))) (T:=[]) (some 27) rfl rfl (by repeat (first | exact trivial | refine ⟨fun q=>by first | rfl | exact q | exact jC q | exact jY q,?_⟩)) (fun hg=>aC (d:= .agg (((idx l0 fA).ct).1.map U)) rfl TT.jE rfl (nH _) g3) lp ?_
    refine RQ.gd (v:= .d (.slice (l0.map bp))) (T:=[]) (some 28) rfl rfl (by repeat (first | exact trivial | refine ⟨fun q=>by first | rfl | exact q | exact jC q | exact jY q,?_⟩)) (fun hg=>au (v:= .d (.slice (l0.map bp))) rfl rfl g3) lp ?_
    refine RQ.gd (v:=pI eG) (T:=[]) (some 29) rfl rfl (by repeat (first | exact trivial | refine ⟨fun q=>by first | rfl | exact q | exact jC q | exact jY q,?_⟩)) (fun hg=>au (v:=pI eG) rfl rfl g3) lp ?_
    obtain ⟨lQ,h⟩:=gG h
    refine RQ.gd (v:= .d (.cA (fm (idx l0 eG)))) (T:=[]) (some 30) rfl rfl (by repeat (first | exact trivial | refine ⟨fun q=>by first | rfl | exact q | exact jC q | exact jY q,?_⟩)) (fun hg=>bC (l:=l0) (i:=eG) rfl TT.rY cy rfl rfl (lQ (Fp hg)) g3) lp ?_
    refine RQ.gd (v:= .d (.cA ((fm (idx l0 eG)).drop 0))) (T:=[]) (some 31) rfl rfl (by repeat (first | exact trivial | refine ⟨fun q=>by first | rfl | exact q | exact jC q | exact jY q,?_⟩)) (fun hg=>aO rfl TT.oY (by decide) rfl g3) lp ?_
    refine RQ.gd (v:= .d (.agg (((idx l0 eG).ct).1.map U))) (T:=[]) (some 32) rfl rfl (by repeat (first | exact trivial | refine ⟨fun q=>by first | rfl | exact q | exact jC q | exact jY q,?_⟩)) (fun hg=>aC (d:= .agg (((idx l0 eG).ct).1.map U)) rfl TT.jE rfl (nH _) g3) lp ?_
    refine RQ.gd (v:=pB (!(((idx l0 fA).ct).1==((idx l0 eG).ct).1))) (T:=[]) (some 33) rfl rfl (by repeat (first | exact trivial | refine ⟨fun q=>by first | rfl | exact q | exact jC q | exact jY q,?_⟩)) (fun hg=>I1 (p:=(idx l0 fA).ct) (q:=(idx l0 eG).ct) rfl TT.E8 rfl rfl g3) lp ?_
    refine RQ.st (some 34) rfl rfl (fu rfl rfl rfl rfl (fun hb=>by rw [hb];rfl) (fun _=>rfl) ⟨⟨rfl,rfl⟩,?_⟩)
    refine RQ.st (some 5) rfl rfl (cq (v:=pB (uf&&(!(((idx l0 fA).ct).1==((idx l0 eG).ct).1)))) rfl rfl ⟨⟨rfl,rfl⟩,?_⟩)
    refine RQ.nil (g6 (aX ?_))
    refine QW.view (s':=⟨aG [(0, .d (.slice (l0.map bp))),(3, .own 0 (g8.map ee)),(4,pI eG),(5,pB (uf&&(!(((idx l0 fA).ct).1==((idx l0 eG).ct).1)))),(6,pI fA)],aj [.spare 2 g8.length],1,[]⟩) (View.mk 1 [0] _ _ _ rfl rfl (by decide) (iC (iC (iC (iC (iC trivial))))) (And.intro rfl trivial) rfl zL rfl) zL ?_
    refine rG ?_
    refine xm 19 (pI fA) ?_
    obtain ⟨p5,h⟩:=gG h
    refine xs 20 rfl (bX (a:=fA) (b:=(1:Int)) rfl rfl rfl p5 ?_)
    refine xz 6 (pI (fA+(1:Int))) ?_
    exact ⟨LS,by omega,⟨aG [(0, .d (.slice (l0.map bp))),(3, .own 0 (g8.map ee)),(4,pI eG),(5,pB (uf&&(!(((idx l0 fA).ct).1==((idx l0 eG).ct).1)))),(6,pI (fA+(1:Int)))],aj [.spare 2 g8.length],1,[]⟩,View.mk 1 [0] _ _ _ rfl rfl (by decide) (iC (iC (iC (iC (iC trivial))))) (And.intro rfl trivial) rfl zL rfl,g8,eG,(uf&&(!(((idx l0 fA).ct).1==((idx l0 eG).ct).1))),(fA+(1:Int)),by omega,jG h,rfl⟩
   ·replace h:=fG h jH
    refine QW.exit zL (eD (eD (j3 (aX ?_))))
    refine sR ?_
    refine xm 35 (pB uf) ?_
    refine XK.nz ?_
    refine QW.cond (t:=uf) rfl zL (fun rX=>?_) (fun rX=>?_)
    ·replace h:=fF h rX
     refine QW.region zL (PW.rL (id:=11) dc (M:=_) rfl (by kernel_rfl) ?_)
     refine RK.st (some 36) rfl rfl (au (v:= .own 0 (g8.map ee)) rfl rfl ?_)
     refine RK.st (some 37) rfl rfl (au (v:= .d (.slice (l0.map bp))) rfl rfl ?_)
     refine RK.st (some 38) rfl rfl (au (v:=pI eG) rfl rfl ?_)
     obtain ⟨ow,h⟩:=gG h
     refine RK.st (some 39) rfl rfl (bC (l:=l0) (i:=eG) rfl TT.rY cy rfl rfl ow ?_)
     refine RK.st (some 40) rfl rfl (aO rfl TT.oY (by decide) rfl ?_)
     refine RK.st (some 41) rfl rfl (aC (d:= .agg (((idx l0 eG).ct).1.map U)) rfl TT.jE rfl (nH _) ?_)
     obtain ⟨x_11,pY,h⟩:=bG h
     refine RK.st (some 42) rfl rfl (aA rfl rfl TT.Oy rfl (Fw ((idx l0 eG).ct) _ pY) ?_)
     refine RK.st (some 43) rfl rfl (au (v:= .d (.slice (l0.map bp))) rfl rfl ?_)
     refine RK.st (some 44) rfl rfl (au (v:=pI eG) rfl rfl ?_)
     obtain ⟨nJ,h⟩:=gG h
     refine RK.st (some 45) rfl rfl (bC (l:=l0) (i:=eG) rfl TT.rY cy rfl rfl nJ ?_)
     refine RK.st (some 46) rfl rfl (aO rfl TT.vW (by decide) rfl ?_)
     refine RK.st (some 47) rfl rfl (aC (d:= .val (sV ((idx l0 eG).az))) rfl TT.fJ rfl (tP _) ?_)
     refine RK.st (some 48) rfl rfl (eT (v:= .agg [.d (.slice (x_11.map U)),pS ((idx l0 eG).az)]) rfl TT.Mj (dG rfl (cw (cells':=[.d (.slice (x_11.map U)),pS ([]:List UInt8)]) rfl rfl rfl bL rfl (cw (cells':=[.d (.slice (x_11.map U)),pS ((idx l0 eG).az)]) rfl rfl rfl bL rfl dF))) ?_)
     refine RK.st (some 49) rfl rfl (ef (en:=ee) (l:=([(⟨x_11,(idx l0 eG).az⟩:In)]:List In)) rfl TT.yq lu (by first | rfl | (simp only [List.map_cons,List.map_nil,Ko];rfl)) rfl (by decide) (by simp [dw,cU,aB,dQ,PV.cz,cx,aG,jA,iU,jX,bU,Value.oneCell']) ?_)
     obtain ⟨rQ,h⟩:=gG h
     refine RK.st (some 50) rfl rfl (iY (en:=ee) (l:=g8) (l2:=([(⟨x_11,(idx l0 eG).az⟩:In)]:List In)) rfl TT.yq TT.pL rfl lu rfl rfl rfl rQ (by decide) ?_)
     refine RK.st (some 3) rfl rfl (cq (v:= .own 1 ((g8++([(⟨x_11,(idx l0 eG).az⟩:In)]:List In)).map ee)) rfl rfl ?_)
     refine RK.nil ⟨fT.last 14 (by simp) (by simp) (by rfl),(g6 (aX ?_))⟩
     exact ⟨⟨aG [(0, .d (.slice (l0.map bp))),(3, .own 0 ((g8++([(⟨x_11,(idx l0 eG).az⟩:In)]:List In)).map ee)),(4,pI eG)],aj [.spare 2 (g8++([(⟨x_11,(idx l0 eG).az⟩:In)]:List In)).length],1,[]⟩,View.mk 1 [1] _ _ _ rfl rfl (by decide) (iC (iC (iC trivial))) (And.intro rfl trivial) rfl zL rfl,(g8++([(⟨x_11,(idx l0 eG).az⟩:In)]:List In)),eG,LS,by omega,jG h,rfl⟩
    ·replace h:=fG h rX
     refine QW.skip zL (g6 (aX ?_))
     exact ⟨⟨aG [(0, .d (.slice (l0.map bp))),(3, .own 0 (g8.map ee)),(4,pI eG)],aj [.spare 2 g8.length],1,[]⟩,View.mk 1 [0] _ _ _ rfl rfl (by decide) (iC (iC (iC trivial))) (And.intro rfl trivial) rfl zL rfl,g8,eG,LS,by omega,jG h,rfl⟩
  ·rintro _ ⟨xQ,uv,aaN,aaO,h,rfl⟩
   obtain ⟨Zq,rfl,h9⟩:=aQ h;replace h:=h9;clear h9;rw [dB] at h
   refine rG ?_
   refine xm 11 (pI uv) ?_
   obtain ⟨oR,h⟩:=gG h
   refine xs 12 rfl (bX (a:=uv) (b:=(1:Int)) rfl rfl rfl oR ?_)
   refine xz 4 (pI (uv+(1:Int))) ?_
   exact ⟨Zq,by omega,⟨aG [(0, .d (.slice (l0.map bp))),(3, .own 0 (xQ.map ee)),(4,pI (uv+(1:Int)))],aj [.spare 2 xQ.length],1,[]⟩,View.mk 1 [0] _ _ _ rfl rfl (by decide) (iC (iC (iC trivial))) (And.intro rfl trivial) rfl zL rfl,xQ,(uv+(1:Int)),by omega,jG h,rfl⟩
 ·replace h:=fG h cB
  refine QW.exit zL (eD (eD (j3 (aX ?_))))
  refine sR ?_
  refine xm 51 (.own 0 (kH.map ee)) ?_
  refine xz 2 (.own 0 (kH.map ee)) ?_
  refine QW.ret zL ?_
  obtain rfl:=sG h
  exact Ends.one (.inr rfl) rfl (aI.tmp rfl) rfl rfl
inductive uw where
 | S
 | L1 (v3:Int) (v4:Int)
noncomputable def jo (l0:(List In)):uw→Option (uw⊕Int)
 | .S=>
  gO (0≤(0:Int)∧(0:Int)<(l0.length:Int)) (
  some (.inl (.L1 (((idx l0 (0:Int)).av).length:Int) (1))))
 | .L1 v3 v4=>
  (bif (decide (v4<(l0.length:Int))) then
  gO (0≤(0:Int)∧(0:Int)<(l0.length:Int)) (
  gO (0≤v4∧v4<(l0.length:Int)) (
  ((ur ((idx l0 (0:Int)).av) ((idx l0 v4).av)).bind fun (x_6:Int)=>
  ((r7 v3 x_6).bind fun (x_8:Int)=>
  gO (bw (v4+(1:Int))) (
  some (.inl (.L1 x_8 (v4+(1:Int)))))))))
  else
  some (.inr v3))
noncomputable def ux (l0:(List In)):Option Int:=g9 (jo l0) .S
theorem Dw (l0:(List In)) (r:Int) (h:ux l0=some r):bI Tryz.prog 56 [.slice (l0.map ee)] (.val (.int .i64 r)):=by
 refine bI.aU Tryz.func56 rfl (by simp [Tryz.ntmps56]) ?_
 rw [Tryz.ntmps56,TT.VJ]
 refine QW.view (s':=⟨aG [(0, .d (.slice (l0.map ee)))],aj [],0,[]⟩) (View.init (by rfl)) zL ?_
 replace h:=cL h
 obtain ⟨_,h⟩:=h
 obtain ⟨dm,rfl,h9⟩:=aQ h;replace h:=h9;clear h9;rw [jo] at h
 refine sR ?_
 refine xz 2 (pI (0)) ?_
 refine sR ?_
 refine xm 5 (.d (.slice (l0.map ee))) ?_
 obtain ⟨nV,h⟩:=gG h
 refine xs 6 rfl (bC (l:=l0) (i:=(0:Int)) rfl TT.ny lu rfl rfl nV ?_)
 refine xs 7 rfl (aO rfl TT.nX (by decide) rfl ?_)
 refine xs 8 rfl (aC (d:= .slice (((idx l0 (0:Int)).av).map U)) rfl TT.fh rfl (c8.one) ?_)
 refine xs 9 rfl (cM (en:=U) (l:=(idx l0 (0:Int)).av) rfl TT.bA rfl ?_)
 refine xz 3 (pI (((idx l0 (0:Int)).av).length:Int)) ?_
 refine QW.seq ?_
 refine sR ?_
 refine xz 4 (pI (1)) ?_
 refine QW.block ?_
 refine QW.loop (fun k σ=>∃ v3:Int,∃ v4:Int,k≤dm∧run (jo l0) k (.L1 v3 v4)=some r∧σ=⟨aG [(0, .d (.slice (l0.map ee))),(3,pI v3),(4,pI v4)],aj [],0,[]⟩) dm zL ⟨⟨aG [(0, .d (.slice (l0.map ee))),(3,pI (((idx l0 (0:Int)).av).length:Int)),(4,pI (1))],aj [],0,[]⟩,View.mk 0 [] _ _ _ rfl rfl (by decide) (iC (iC (iC trivial))) trivial rfl zL rfl,(((idx l0 (0:Int)).av).length:Int),1,Nat.le_refl _,jG h,rfl⟩ ?_
 rintro SG _ ⟨v3,v4,SH,h,rfl⟩
 obtain ⟨k_2,rfl,h9⟩:=aQ h;replace h:=h9;clear h9;rw [jo] at h
 refine QW.seq ?_
 refine sR ?_
 refine xm 10 (pI v4) ?_
 refine xm 11 (.d (.slice (l0.map ee))) ?_
 refine xs 12 rfl (cM (en:=ee) (l:=l0) rfl TT.pL rfl ?_)
 refine xs 13 rfl (cJ (a:=v4) (b:=(l0.length:Int)) rfl rfl rfl ?_)
 refine XK.nz ?_
 refine QW.cond (t:=(decide (v4<(l0.length:Int)))) rfl zL (fun dU=>?_) (fun dU=>?_)
 ·replace h:=fF h dU
  refine QW.skip zL (aX ?_)
  refine QW.seq ?_
  refine QW.block ?_
  refine QW.region zL (PW.kX (id:=5) dc (M:=_) rfl (by kernel_rfl) ?_)
  refine RQ.st (some 16) rfl rfl (au (v:=pI v3) rfl rfl ⟨⟨rfl,rfl⟩,?_⟩)
  refine RQ.st (some 17) rfl rfl (au (v:= .d (.slice (l0.map ee))) rfl rfl ⟨⟨rfl,rfl⟩,?_⟩)
  obtain ⟨mH,h⟩:=gG h
  refine RQ.st (some 18) rfl rfl (bC (l:=l0) (i:=(0:Int)) rfl TT.ny lu rfl rfl mH ⟨⟨rfl,rfl⟩,?_⟩)
  refine RQ.st (some 19) rfl rfl (aO rfl TT.nX (by decide) rfl ⟨⟨rfl,rfl⟩,?_⟩)
  refine RQ.st (some 20) rfl rfl (aC (d:= .slice (((idx l0 (0:Int)).av).map U)) rfl TT.fh rfl (c8.one) ⟨⟨rfl,rfl⟩,?_⟩)
  refine RQ.st (some 21) rfl rfl (au (v:= .d (.slice (l0.map ee))) rfl rfl ⟨⟨rfl,rfl⟩,?_⟩)
  refine RQ.st (some 22) rfl rfl (au (v:=pI v4) rfl rfl ⟨⟨rfl,rfl⟩,?_⟩)
  obtain ⟨nU,h⟩:=gG h
  refine RQ.st (some 23) rfl rfl (bC (l:=l0) (i:=v4) rfl TT.ny lu rfl rfl nU ⟨⟨rfl,rfl⟩,?_⟩)
  refine RQ.st (some 24) rfl rfl (aO rfl TT.nX (by decide) rfl ⟨⟨rfl,rfl⟩,?_⟩)
  refine RQ.st (some 25) rfl rfl (aC (d:= .slice (((idx l0 v4).av).map U)) rfl TT.fh rfl (c8.one) ⟨⟨rfl,rfl⟩,?_⟩)
  obtain ⟨x_6,yg,h⟩:=bG h
  refine RQ.st (some 26) rfl rfl (aA rfl rfl TT.OC rfl (Dq ((idx l0 (0:Int)).av) ((idx l0 v4).av) _ yg) ⟨⟨rfl,rfl⟩,?_⟩)
  obtain ⟨x_8,Ak,h⟩:=bG h
  refine RQ.st (some 27) rfl rfl (aA rfl rfl TT.OB rfl (Hh v3 x_6 _ Ak) ⟨⟨rfl,rfl⟩,?_⟩)
  refine RQ.st (some 3) rfl rfl (cq (v:=pI x_8) rfl rfl ⟨⟨rfl,rfl⟩,?_⟩)
  refine RQ.nil (g6 (aX ?_))
  refine rG ?_
  refine xm 14 (pI v4) ?_
  obtain ⟨ow,h⟩:=gG h
  refine xs 15 rfl (bX (a:=v4) (b:=(1:Int)) rfl rfl rfl ow ?_)
  refine xz 4 (pI (v4+(1:Int))) ?_
  exact ⟨k_2,by omega,⟨aG [(0, .d (.slice (l0.map ee))),(3,pI x_8),(4,pI (v4+(1:Int)))],aj [],0,[]⟩,View.mk 0 [] _ _ _ rfl rfl (by decide) (iC (iC (iC trivial))) trivial rfl zL rfl,x_8,(v4+(1:Int)),by omega,jG h,rfl⟩
 ·replace h:=fG h dU
  refine QW.exit zL (eD (eD (j3 (aX ?_))))
  refine sR ?_
  refine xm 28 (pI v3) ?_
  refine xz 2 (pI v3) ?_
  refine QW.ret zL ?_
  obtain rfl:=sG h
  exact Ends.one (.inr rfl) rfl (aI.tmp rfl) rfl rfl
inductive xR where
 | S
 | L1 (v5:(List In)) (v6:Int)
noncomputable def kj (l0:(List In)) (n1:Int):xR→Option (xR⊕(List In))
 | .S=>
  some (.inl (.L1 ([]:(List In)) (0)))
 | .L1 v5 v6=>
  (bif (decide (v6<(l0.length:Int))) then
  gO (0≤v6∧v6<(l0.length:Int)) (
  gO (0≤n1∧n1≤(((idx l0 v6).av).length:Int)∧(((idx l0 v6).av).length:Int)≤(((idx l0 v6).av).length:Int)) (
  gO (0≤v6∧v6<(l0.length:Int)) (
  gO ((v5.length+([(⟨(sub ((idx l0 v6).av) n1 (((idx l0 v6).av).length:Int)),(idx l0 v6).az⟩:In)]:List In).length)*40≤140737488355328) (
  gO (bw (v6+(1:Int))) (
  some (.inl (.L1 (v5++([(⟨(sub ((idx l0 v6).av) n1 (((idx l0 v6).av).length:Int)),(idx l0 v6).az⟩:In)]:List In)) (v6+(1:Int)))))))))
  else
  some (.inr v5))
noncomputable def tC (l0:(List In)) (n1:Int):Option (List In):=g9 (kj l0 n1) .S
theorem zK (l0:(List In)) (n1:Int) (r:(List In)) (h:tC l0 n1=some r):bI Tryz.prog 57 [.slice (l0.map ee), .val (.int .i64 n1)] (.slice (r.map ee)):=by
 refine bI.aU Tryz.func57 rfl (by simp [Tryz.ntmps57]) ?_
 rw [Tryz.ntmps57,TT.VK]
 refine QW.view (s':=⟨aG [(0, .d (.slice (l0.map ee))),(1,pI n1)],aj [],0,[]⟩) (View.init (by rfl)) zL ?_
 replace h:=cL h
 obtain ⟨_,h⟩:=h
 obtain ⟨dm,rfl,h9⟩:=aQ h;replace h:=h9;clear h9;rw [kj] at h
 refine sR ?_
 refine xz 4 (.full (([]:(List In)).map ee)) ?_
 refine sR ?_
 refine xz 5 (.full (([]:(List In)).map ee)) ?_
 refine QW.seq ?_
 refine sR ?_
 refine xz 6 (pI (0)) ?_
 refine QW.block ?_
 refine QW.loop (fun k σ=>∃ v5:(List In),∃ v6:Int,k≤dm∧run (kj l0 n1) k (.L1 v5 v6)=some r∧σ=⟨aG [(0, .d (.slice (l0.map ee))),(1,pI n1),(5, .own 0 (v5.map ee)),(6,pI v6)],aj [.spare 2 v5.length],1,[]⟩) dm zL ⟨⟨aG [(0, .d (.slice (l0.map ee))),(1,pI n1),(5, .own 0 (([]:(List In)).map ee)),(6,pI (0))],aj [.spare 2 ([]:(List In)).length],1,[]⟩,View.trans (View.buf 5 2 rfl zL) (View.mk 1 [0] _ _ _ rfl rfl (by decide) (iC (iC (iC (iC trivial)))) (And.intro rfl trivial) rfl zL rfl),([]:(List In)),0,Nat.le_refl _,jG h,rfl⟩ ?_
 rintro rO _ ⟨v5,v6,rP,h,rfl⟩
 obtain ⟨k_1,rfl,h9⟩:=aQ h;replace h:=h9;clear h9;rw [kj] at h
 refine QW.seq ?_
 refine sR ?_
 refine xm 7 (pI v6) ?_
 refine xm 8 (.d (.slice (l0.map ee))) ?_
 refine xs 9 rfl (cM (en:=ee) (l:=l0) rfl TT.pL rfl ?_)
 refine xs 10 rfl (cJ (a:=v6) (b:=(l0.length:Int)) rfl rfl rfl ?_)
 refine XK.nz ?_
 refine QW.cond (t:=(decide (v6<(l0.length:Int)))) rfl zL (fun cB=>?_) (fun cB=>?_)
 ·replace h:=fF h cB
  refine QW.skip zL (aX ?_)
  refine QW.seq ?_
  refine QW.block ?_
  refine QW.region zL (PW.rL (id:=5) dc (M:=_) rfl (by kernel_rfl) ?_)
  refine RK.st (some 13) rfl rfl (au (v:= .own 0 (v5.map ee)) rfl rfl ?_)
  refine RK.st (some 14) rfl rfl (au (v:= .d (.slice (l0.map ee))) rfl rfl ?_)
  refine RK.st (some 15) rfl rfl (au (v:=pI v6) rfl rfl ?_)
  obtain ⟨dS,h⟩:=gG h
  refine RK.st (some 16) rfl rfl (bC (l:=l0) (i:=v6) rfl TT.ny lu rfl rfl dS ?_)
  refine RK.st (some 17) rfl rfl (aO rfl TT.nX (by decide) rfl ?_)
  refine RK.st (some 18) rfl rfl (aC (d:= .slice (((idx l0 v6).av).map U)) rfl TT.fh rfl (c8.one) ?_)
  refine RK.st (some 19) rfl rfl (au (v:=pI n1) rfl rfl ?_)
  obtain ⟨mH,h⟩:=gG h
  refine RK.st (some 20) rfl rfl (n7 (l:=(idx l0 v6).av) (a:=n1) (b:=(((idx l0 v6).av).length:Int)) rfl TT.bA TT.ek bx rfl rfl rfl mH ?_)
  refine RK.st (some 21) rfl rfl (au (v:= .d (.slice (l0.map ee))) rfl rfl ?_)
  refine RK.st (some 22) rfl rfl (au (v:=pI v6) rfl rfl ?_)
  obtain ⟨nU,h⟩:=gG h
  refine RK.st (some 23) rfl rfl (bC (l:=l0) (i:=v6) rfl TT.ny lu rfl rfl nU ?_)
  refine RK.st (some 24) rfl rfl (aO rfl TT.Cy (by decide) rfl ?_)
  refine RK.st (some 25) rfl rfl (aC (d:= .val (sV ((idx l0 v6).az))) rfl TT.fJ rfl (c8.one) ?_)
  refine RK.st (some 26) rfl rfl (eT (v:= .agg [.d (.slice ((sub ((idx l0 v6).av) n1 (((idx l0 v6).av).length:Int)).map U)),pS ((idx l0 v6).az)]) rfl TT.Mj (dG rfl (cw (cells':=[.d (.slice ((sub ((idx l0 v6).av) n1 (((idx l0 v6).av).length:Int)).map U)),pS ([]:List UInt8)]) rfl rfl rfl bL rfl (cw (cells':=[.d (.slice ((sub ((idx l0 v6).av) n1 (((idx l0 v6).av).length:Int)).map U)),pS ((idx l0 v6).az)]) rfl rfl rfl bL rfl dF))) ?_)
  refine RK.st (some 27) rfl rfl (ef (en:=ee) (l:=([(⟨(sub ((idx l0 v6).av) n1 (((idx l0 v6).av).length:Int)),(idx l0 v6).az⟩:In)]:List In)) rfl TT.yq lu (by first | rfl | (simp only [List.map_cons,List.map_nil,Ko];rfl)) rfl (by decide) (by simp [dw,cU,aB,dQ,PV.cz,cx,aG,jA,iU,jX,bU,Value.oneCell']) ?_)
  obtain ⟨mJ,h⟩:=gG h
  refine RK.st (some 28) rfl rfl (iY (en:=ee) (l:=v5) (l2:=([(⟨(sub ((idx l0 v6).av) n1 (((idx l0 v6).av).length:Int)),(idx l0 v6).az⟩:In)]:List In)) rfl TT.yq TT.pL rfl lu rfl rfl rfl mJ (by decide) ?_)
  refine RK.st (some 5) rfl rfl (cq (v:= .own 1 ((v5++([(⟨(sub ((idx l0 v6).av) n1 (((idx l0 v6).av).length:Int)),(idx l0 v6).az⟩:In)]:List In)).map ee)) rfl rfl ?_)
  refine RK.nil ⟨fT.last 15 (by simp) (by simp) (by rfl),(g6 (aX ?_))⟩
  refine QW.view (s':=⟨aG [(0, .d (.slice (l0.map ee))),(1,pI n1),(5, .own 0 ((v5++([(⟨(sub ((idx l0 v6).av) n1 (((idx l0 v6).av).length:Int)),(idx l0 v6).az⟩:In)]:List In)).map ee)),(6,pI v6)],aj [.spare 2 (v5++([(⟨(sub ((idx l0 v6).av) n1 (((idx l0 v6).av).length:Int)),(idx l0 v6).az⟩:In)]:List In)).length],1,[]⟩) (View.mk 1 [1] _ _ _ rfl rfl (by decide) (iC (iC (iC (iC trivial)))) (And.intro rfl trivial) rfl zL rfl) zL ?_
  refine rG ?_
  refine xm 11 (pI v6) ?_
  obtain ⟨lQ,h⟩:=gG h
  refine xs 12 rfl (bX (a:=v6) (b:=(1:Int)) rfl rfl rfl lQ ?_)
  refine xz 6 (pI (v6+(1:Int))) ?_
  exact ⟨k_1,by omega,⟨aG [(0, .d (.slice (l0.map ee))),(1,pI n1),(5, .own 0 ((v5++([(⟨(sub ((idx l0 v6).av) n1 (((idx l0 v6).av).length:Int)),(idx l0 v6).az⟩:In)]:List In)).map ee)),(6,pI (v6+(1:Int)))],aj [.spare 2 (v5++([(⟨(sub ((idx l0 v6).av) n1 (((idx l0 v6).av).length:Int)),(idx l0 v6).az⟩:In)]:List In)).length],1,[]⟩,View.mk 1 [0] _ _ _ rfl rfl (by decide) (iC (iC (iC (iC trivial)))) (And.intro rfl trivial) rfl zL rfl,(v5++([(⟨(sub ((idx l0 v6).av) n1 (((idx l0 v6).av).length:Int)),(idx l0 v6).az⟩:In)]:List In)),(v6+(1:Int)),by omega,jG h,rfl⟩
 ·replace h:=fG h cB
  refine QW.exit zL (eD (eD (j3 (aX ?_))))
  refine sR ?_
  refine xm 29 (.own 0 (v5.map ee)) ?_
  refine xz 4 (.own 0 (v5.map ee)) ?_
  refine QW.ret zL ?_
  obtain rfl:=sG h
  exact Ends.one (.inr rfl) rfl (aI.tmp rfl) rfl rfl
inductive r9 where
 | S
 | L1 (bJ:(List In)) (v6:Int)
noncomputable def jM (l0:(List In)) (c1:Int):r9→Option (r9⊕(List In))
 | .S=>
  some (.inl (.L1 ([]:(List In)) (0)))
 | .L1 bJ v6=>
  (bif (decide (v6<(l0.length:Int))) then
  ((gO (0≤v6∧v6<(l0.length:Int)) (
  gO (0≤(0:Int)∧(0:Int)<(((idx l0 v6).av).length:Int)) (
  (bif (decide (((idx ((idx l0 v6).av) (0:Int)).toNat:Int)=c1)) then
  gO (0≤v6∧v6<(l0.length:Int)) (
  gO ((bJ.length+([(idx l0 v6)]:List In).length)*40≤140737488355328) (
  some (bJ++([(idx l0 v6)]:List In))))
  else
  some bJ))):Option (List In)).bind fun (wj:(List In))=>
  gO (bw (v6+(1:Int))) (
  some (.inl (.L1 wj (v6+(1:Int))))))
  else
  some (.inr bJ))
noncomputable def wk (l0:(List In)) (c1:Int):Option (List In):=g9 (jM l0 c1) .S
theorem Ek (l0:(List In)) (c1:Int) (r:(List In)) (h:wk l0 c1=some r):bI Tryz.prog 58 [.slice (l0.map ee), .val (.int .i64 c1)] (.slice (r.map ee)):=by
 refine bI.aU Tryz.func58 rfl (by simp [Tryz.ntmps58]) ?_
 rw [Tryz.ntmps58,TT.VL]
 refine QW.view (s':=⟨aG [(0, .d (.slice (l0.map ee))),(1,pI c1)],aj [],0,[]⟩) (View.init (by rfl)) zL ?_
 replace h:=cL h
 obtain ⟨_,h⟩:=h
 obtain ⟨dm,rfl,h9⟩:=aQ h;replace h:=h9;clear h9;rw [jM] at h
 refine sR ?_
 refine xz 4 (.full (([]:(List In)).map ee)) ?_
 refine sR ?_
 refine xz 5 (.full (([]:(List In)).map ee)) ?_
 refine QW.seq ?_
 refine sR ?_
 refine xz 6 (pI (0)) ?_
 refine QW.block ?_
 refine QW.loop (fun k σ=>∃ bJ:(List In),∃ v6:Int,k≤dm∧run (jM l0 c1) k (.L1 bJ v6)=some r∧σ=⟨aG [(0, .d (.slice (l0.map ee))),(1,pI c1),(5, .own 0 (bJ.map ee)),(6,pI v6)],aj [.spare 2 bJ.length],1,[]⟩) dm zL ⟨⟨aG [(0, .d (.slice (l0.map ee))),(1,pI c1),(5, .own 0 (([]:(List In)).map ee)),(6,pI (0))],aj [.spare 2 ([]:(List In)).length],1,[]⟩,View.trans (View.buf 5 2 rfl zL) (View.mk 1 [0] _ _ _ rfl rfl (by decide) (iC (iC (iC (iC trivial)))) (And.intro rfl trivial) rfl zL rfl),([]:(List In)),0,Nat.le_refl _,jG h,rfl⟩ ?_
 rintro rO _ ⟨bJ,v6,rP,h,rfl⟩
 obtain ⟨k_1,rfl,h9⟩:=aQ h;replace h:=h9;clear h9;rw [jM] at h
 refine QW.seq ?_
 refine sR ?_
 refine xm 7 (pI v6) ?_
 refine xm 8 (.d (.slice (l0.map ee))) ?_
 refine xs 9 rfl (cM (en:=ee) (l:=l0) rfl TT.pL rfl ?_)
 refine xs 10 rfl (cJ (a:=v6) (b:=(l0.length:Int)) rfl rfl rfl ?_)
 refine XK.nz ?_
 refine QW.cond (t:=(decide (v6<(l0.length:Int)))) rfl zL (fun cB=>?_) (fun cB=>?_)
 ·replace h:=fF h cB
  refine QW.skip zL (aX ?_)
  obtain ⟨wj,hq,h⟩:=bG h
  refine QW.qY (fun s'=>s'=⟨aG [(0, .d (.slice (l0.map ee))),(1,pI c1),(5, .own 0 (wj.map ee)),(6,pI v6)],aj [.spare 2 wj.length],1,[]⟩) ?_ ?_
  ·replace h:=hq;clear hq
   refine QW.block ?_
   refine sR ?_
   refine xm 13 (.d (.slice (l0.map ee))) ?_
   refine xm 14 (pI v6) ?_
   obtain ⟨dS,h⟩:=bk h
   refine xs 15 rfl (bC (l:=l0) (i:=v6) rfl TT.ny lu rfl rfl dS ?_)
   refine xs 16 rfl (aO rfl TT.nX (by decide) rfl ?_)
   refine xs 17 rfl (aC (d:= .slice (((idx l0 v6).av).map U)) rfl TT.fh rfl (c8.one) ?_)
   obtain ⟨mH,h⟩:=bk h
   refine xs 18 rfl (bC (l:=(idx l0 v6).av) (i:=(0:Int)) rfl TT.ek bx rfl rfl mH ?_)
   refine xs 19 rfl (aC (d:= .val (.int .u8 ((idx ((idx l0 v6).av) (0:Int)).toNat:Int))) rfl TT.jx rfl (c8.one) ?_)
   refine xs 20 rfl (AU (n:=((idx ((idx l0 v6).av) (0:Int)).toNat:Int)) rfl TT.dR TT.kC rfl (AW _) ?_)
   refine xm 21 (pI c1) ?_
   refine xs 22 rfl (eF (a:=((idx ((idx l0 v6).av) (0:Int)).toNat:Int)) (b:=c1) rfl rfl rfl ?_)
   refine XK.nz ?_
   refine QW.cond (t:=(decide (((idx ((idx l0 v6).av) (0:Int)).toNat:Int)=c1))) rfl zL (fun jH=>?_) (fun jH=>?_)
   ·replace h:=bT h jH
    refine rG ?_
    refine xm 23 (.own 0 (bJ.map ee)) ?_
    refine xm 24 (.d (.slice (l0.map ee))) ?_
    refine xm 25 (pI v6) ?_
    obtain ⟨mJ,h⟩:=bk h
    refine xs 26 rfl (bC (l:=l0) (i:=v6) rfl TT.ny lu rfl rfl mJ ?_)
    refine xs 27 rfl (aC (d:= .agg (Sr (idx l0 v6))) rfl TT.VM rfl (⟨by simp [Sr],rfl⟩) ?_)
    refine xs 28 rfl (ef (en:=ee) (l:=([(idx l0 v6)]:List In)) rfl TT.yq lu (by first | rfl | (simp only [List.map_cons,List.map_nil,Ko];rfl)) rfl (by decide) (by simp [dw,cU,aB,dQ,PV.cz,cx,aG,jA,iU,jX,bU,Value.oneCell']) ?_)
    obtain ⟨lQ,h⟩:=bk h
    refine xs 29 rfl (iY (en:=ee) (l:=bJ) (l2:=([(idx l0 v6)]:List In)) rfl TT.yq TT.pL rfl lu rfl rfl rfl lQ (by decide) ?_)
    refine xa 5 (.own 1 ((bJ++([(idx l0 v6)]:List In)).map ee)) ?_
    refine XK.nil (g6 (aX ?_))
    obtain rfl:=sO h
    exact ⟨⟨aG [(0, .d (.slice (l0.map ee))),(1,pI c1),(5, .own 0 ((bJ++([(idx l0 v6)]:List In)).map ee)),(6,pI v6)],aj [.spare 2 (bJ++([(idx l0 v6)]:List In)).length],1,[]⟩,View.mk 1 [1] _ _ _ rfl rfl (by decide) (iC (iC (iC (iC trivial)))) (And.intro rfl trivial) rfl zL rfl,rfl⟩
   ·replace h:=bF h jH
    refine QW.skip zL (g6 (aX ?_))
    obtain rfl:=sO h
    exact ⟨⟨aG [(0, .d (.slice (l0.map ee))),(1,pI c1),(5, .own 0 (bJ.map ee)),(6,pI v6)],aj [.spare 2 bJ.length],1,[]⟩,View.mk 1 [0] _ _ _ rfl rfl (by decide) (iC (iC (iC (iC trivial)))) (And.intro rfl trivial) rfl zL rfl,rfl⟩
  ·rintro _ rfl
   refine rG ?_
   refine xm 11 (pI v6) ?_
   obtain ⟨p5,h⟩:=gG h
   refine xs 12 rfl (bX (a:=v6) (b:=(1:Int)) rfl rfl rfl p5 ?_)
   refine xz 6 (pI (v6+(1:Int))) ?_
   exact ⟨k_1,by omega,⟨aG [(0, .d (.slice (l0.map ee))),(1,pI c1),(5, .own 0 (wj.map ee)),(6,pI (v6+(1:Int)))],aj [.spare 2 wj.length],1,[]⟩,View.mk 1 [0] _ _ _ rfl rfl (by decide) (iC (iC (iC (iC trivial)))) (And.intro rfl trivial) rfl zL rfl,wj,(v6+(1:Int)),by omega,jG h,rfl⟩
 ·replace h:=fG h cB
  refine QW.exit zL (eD (eD (j3 (aX ?_))))
  refine sR ?_
  refine xm 30 (.own 0 (bJ.map ee)) ?_
  refine xz 4 (.own 0 (bJ.map ee)) ?_
  refine QW.ret zL ?_
  obtain rfl:=sG h
  exact Ends.one (.inr rfl) rfl (aI.tmp rfl) rfl rfl
inductive xS where
 | S
 | L1 (v7:Int) (k6:(aE 16 (List UInt8)))
noncomputable def gk (self:(List In)→Option (List UInt8)) (l0:(List In)):xS→Option (xS⊕(Node×Bool))
 | .S=>
  (bif (decide ((l0.length:Int)=(0:Int))) then
  some (.inr ((⟨0,([]:(List UInt8)),([]:List UInt8),(aE.rep 16 ([]:(List UInt8)))⟩:Node),false))
  else
  (bif (decide ((l0.length:Int)=(1:Int))) then
  gO (0≤(0:Int)∧(0:Int)<(l0.length:Int)) (
  gO (0≤(0:Int)∧(0:Int)<(l0.length:Int)) (
  some (.inr ((⟨1,(idx l0 (0:Int)).av,(idx l0 (0:Int)).az,(aE.rep 16 ([]:(List UInt8)))⟩:Node),true))))
  else
  ((ux l0).bind fun (x_5:Int)=>
  (bif (decide ((0:Int)<x_5)) then
  gO (0≤(0:Int)∧(0:Int)<(l0.length:Int)) (
  gO (0≤(0:Int)∧(0:Int)≤x_5∧x_5≤(((idx l0 (0:Int)).av).length:Int)) (
  ((tC l0 x_5).bind fun (x_10:(List In))=>
  ((self x_10).bind fun (x_12:(List UInt8))=>
  ((o5 x_12).bind fun (x_14:(List UInt8))=>
  some (.inr ((⟨2,(sub ((idx l0 (0:Int)).av) (0:Int) x_5),([]:List UInt8),((aE.rep 16 ([]:(List UInt8))).put (0:Int) x_14)⟩:Node),true)))))))
  else
  some (.inl (.L1 (0) (aE.rep 16 ([]:(List UInt8)))))))))
 | .L1 v7 k6=>
  (bif (decide (v7<(16:Int))) then
  ((wk l0 v7).bind fun (x_18:(List In))=>
  ((tC x_18 (1)).bind fun (x_20:(List In))=>
  ((self x_20).bind fun (x_22:(List UInt8))=>
  ((o5 x_22).bind fun (x_24:(List UInt8))=>
  gO (0≤v7∧v7<((16:Nat):Int)) (
  gO (bw (v7+(1:Int))) (
  some (.inl (.L1 (v7+(1:Int)) (k6.put v7 x_24)))))))))
  else
  some (.inr ((⟨3,([]:(List UInt8)),([]:List UInt8),k6⟩:Node),true)))
noncomputable def sg (self:(List In)→Option (List UInt8)) (l0:(List In)):Option (Node×Bool):=g9 (gk self l0) .S
theorem El (self:(List In)→Option (List UInt8)) (fQ:∀ (y0:(List In)) (rr:(List UInt8)),self y0=some rr→bI Tryz.prog 15 [.slice (y0.map ee)] (.val (sV rr))) (l0:(List In)) (r:(Node×Bool)) (h:sg self l0=some r):bI Tryz.prog 32 [.slice (l0.map ee)] (.tuple [.agg (cNode (r.1)), .val (.bool (r.2))]):=by
 refine bI.aU Tryz.func32 rfl (by simp [Tryz.ntmps32]) ?_
 rw [Tryz.ntmps32,TT.VI]
 refine QW.view (s':=⟨aG [(0, .d (.slice (l0.map ee)))],aj [],0,[]⟩) (View.init (by rfl)) zL ?_
 replace h:=cL h
 obtain ⟨_,h⟩:=h
 obtain ⟨dm,rfl,h9⟩:=aQ h;replace h:=h9;clear h9;rw [gk] at h
 refine sR ?_
 refine xs 2 rfl (bB (l:=(([pI (0), .full (([]:(List UInt8)).map U),pS ([]:List UInt8)])++(((aE.rep 16 ([]:(List UInt8))).1.map eS).map PV.d))) rfl TT.j9 rfl rfl ?_)
 refine xz 3 (pB false) ?_
 refine QW.seq ?_
 refine sR ?_
 refine xm 8 (.d (.slice (l0.map ee))) ?_
 refine xs 9 rfl (cM (en:=ee) (l:=l0) rfl TT.pL rfl ?_)
 refine xs 10 rfl (eF (a:=(l0.length:Int)) (b:=(0:Int)) rfl rfl rfl ?_)
 refine XK.nz ?_
 refine QW.cond (t:=(decide ((l0.length:Int)=(0:Int)))) rfl zL (fun dh=>?_) (fun dh=>?_)
 ·replace h:=fF h dh
  refine sR ?_
  refine xs 11 rfl (eT (v:= .agg (([pI (0), .full (([]:(List UInt8)).map U),pS ([]:List UInt8)])++(((aE.rep 16 ([]:(List UInt8))).1.map eS).map PV.d))) rfl TT.oQ (dG rfl dF) ?_)
  refine XK.st none rfl rfl (bh (c:=(([pI (0), .full (([]:(List UInt8)).map U),pS ([]:List UInt8)])++(((aE.rep 16 ([]:(List UInt8))).1.map eS).map PV.d))) (l':=(([pI (0), .full (([]:(List UInt8)).map U),pS ([]:List UInt8)])++(((aE.rep 16 ([]:(List UInt8))).1.map eS).map PV.d))) rfl TT.dW rfl rfl rfl rfl rfl (aD (A:=[pI (0), .full (([]:(List UInt8)).map U),pS ([]:List UInt8)]) (b:=16) rfl (aq _) rfl) (bW (aD (A:=[pI (0), .full (([]:(List UInt8)).map U),pS ([]:List UInt8)]) (b:=16) rfl (aq _) rfl) bL) (cQ ((aD (A:=[pI (0), .full (([]:(List UInt8)).map U),pS ([]:List UInt8)]) (b:=16) rfl (aq _) rfl).trans (aD (A:=[pI (0), .full (([]:(List UInt8)).map U),pS ([]:List UInt8)]) (b:=16) rfl (aq _) rfl).symm)) ?_)
  refine xz 3 (pB false) ?_
  refine QW.ret zL (gm ?_)
  obtain rfl:=sG h
  exact Ends.more (.inr rfl) rfl (ps:=[.agg (([pI (0), .full (([]:(List UInt8)).map U),pS ([]:List UInt8)])++(((aE.rep 16 ([]:(List UInt8))).1.map eS).map PV.d)),pB false]) (And.intro (aI.cell rfl rfl TT.dW (fP (aD (A:=[pI (0), .full (([]:(List UInt8)).map U),pS ([]:List UInt8)]) (b:=16) rfl (aq _) rfl) (Nat.succ_pos _))) (And.intro (aI.tmp rfl) trivial)) (by simp only [PV.dj,PV.ej,iJ,cH,Option.bind_some,Option.map_some,cNode]<;>rfl) rfl
 ·replace h:=fG h dh
  refine QW.skip zL (aX ?_)
  refine QW.seq ?_
  refine sR ?_
  refine xm 12 (.d (.slice (l0.map ee))) ?_
  refine xs 13 rfl (cM (en:=ee) (l:=l0) rfl TT.pL rfl ?_)
  refine xs 14 rfl (eF (a:=(l0.length:Int)) (b:=(1:Int)) rfl rfl rfl ?_)
  refine XK.nz ?_
  refine QW.cond (t:=(decide ((l0.length:Int)=(1:Int)))) rfl zL (fun cB=>?_) (fun cB=>?_)
  ·replace h:=fF h cB
   refine QW.seq ?_
   refine QW.region zL (PW.rL (id:=4) dc (M:=_) rfl (by kernel_rfl) ?_)
   refine RK.st (some 15) rfl rfl (au (v:= .d (.slice (l0.map ee))) rfl rfl ?_)
   obtain ⟨dS,h⟩:=gG h
   refine RK.st (some 16) rfl rfl (bC (l:=l0) (i:=(0:Int)) rfl TT.ny lu rfl rfl dS ?_)
   refine RK.st (some 17) rfl rfl (aO rfl TT.nX (by decide) rfl ?_)
   refine RK.st (some 18) rfl rfl (aC (d:= .slice (((idx l0 (0:Int)).av).map U)) rfl TT.fh rfl (c8.one) ?_)
   refine RK.st (some 19) rfl rfl (au (v:= .d (.slice (l0.map ee))) rfl rfl ?_)
   obtain ⟨mH,h⟩:=gG h
   refine RK.st (some 20) rfl rfl (bC (l:=l0) (i:=(0:Int)) rfl TT.ny lu rfl rfl mH ?_)
   refine RK.st (some 21) rfl rfl (aO rfl TT.Cy (by decide) rfl ?_)
   refine RK.st (some 22) rfl rfl (aC (d:= .val (sV ((idx l0 (0:Int)).az))) rfl TT.fJ rfl (c8.one) ?_)
   refine RK.st (some 23) rfl rfl (eT (v:= .agg (([pI (1), .d (.slice (((idx l0 (0:Int)).av).map U)),pS ((idx l0 (0:Int)).az)])++(((aE.rep 16 ([]:(List UInt8))).1.map eS).map PV.d))) rfl TT.oQ (dG rfl (cw (p:=pI (1)) (cells:=(([pI (0), .full (([]:(List UInt8)).map U),pS ([]:List UInt8)])++(((aE.rep 16 ([]:(List UInt8))).1.map eS).map PV.d))) (cells':=(([pI (1), .full (([]:(List UInt8)).map U),pS ([]:List UInt8)])++(((aE.rep 16 ([]:(List UInt8))).1.map eS).map PV.d))) rfl rfl rfl (bW (aD (A:=[pI (0), .full (([]:(List UInt8)).map U),pS ([]:List UInt8)]) (b:=16) rfl (aq _) rfl) bL) (fy 0 (by first | exact Nat.le_of_ble_eq_true rfl | simp) rfl) (cw (p:= .d (.slice (((idx l0 (0:Int)).av).map U))) (cells:=(([pI (1), .full (([]:(List UInt8)).map U),pS ([]:List UInt8)])++(((aE.rep 16 ([]:(List UInt8))).1.map eS).map PV.d))) (cells':=(([pI (1), .d (.slice (((idx l0 (0:Int)).av).map U)),pS ([]:List UInt8)])++(((aE.rep 16 ([]:(List UInt8))).1.map eS).map PV.d))) rfl rfl rfl (bW (aD (A:=[pI (1), .full (([]:(List UInt8)).map U),pS ([]:List UInt8)]) (b:=16) rfl (aq _) rfl) bL) (fy 1 (by first | exact Nat.le_of_ble_eq_true rfl | simp) rfl) (cw (p:=pS ((idx l0 (0:Int)).az)) (cells:=(([pI (1), .d (.slice (((idx l0 (0:Int)).av).map U)),pS ([]:List UInt8)])++(((aE.rep 16 ([]:(List UInt8))).1.map eS).map PV.d))) (cells':=(([pI (1), .d (.slice (((idx l0 (0:Int)).av).map U)),pS ((idx l0 (0:Int)).az)])++(((aE.rep 16 ([]:(List UInt8))).1.map eS).map PV.d))) rfl rfl rfl (bW (aD (A:=[pI (1), .d (.slice (((idx l0 (0:Int)).av).map U)),pS ([]:List UInt8)]) (b:=16) rfl (aq _) rfl) bL) (fy 2 (by first | exact Nat.le_of_ble_eq_true rfl | simp) rfl) dF)))) ?_)
   refine RK.st none rfl rfl (bh (c:=(([pI (1), .d (.slice (((idx l0 (0:Int)).av).map U)),pS ((idx l0 (0:Int)).az)])++(((aE.rep 16 ([]:(List UInt8))).1.map eS).map PV.d))) (l':=(([pI (1), .d (.slice (((idx l0 (0:Int)).av).map U)),pS ((idx l0 (0:Int)).az)])++(((aE.rep 16 ([]:(List UInt8))).1.map eS).map PV.d))) rfl TT.dW rfl rfl rfl rfl rfl (aD (A:=[pI (1), .d (.slice (((idx l0 (0:Int)).av).map U)),pS ((idx l0 (0:Int)).az)]) (b:=16) rfl (aq _) rfl) (bW (aD (A:=[pI (0), .full (([]:(List UInt8)).map U),pS ([]:List UInt8)]) (b:=16) rfl (aq _) rfl) bL) (cQ ((aD (A:=[pI (0), .full (([]:(List UInt8)).map U),pS ([]:List UInt8)]) (b:=16) rfl (aq _) rfl).trans (aD (A:=[pI (1), .d (.slice (((idx l0 (0:Int)).av).map U)),pS ((idx l0 (0:Int)).az)]) (b:=16) rfl (aq _) rfl).symm)) ?_)
   refine RK.st (some 3) rfl rfl (cq (v:=pB true) rfl rfl ?_)
   refine RK.nil ⟨fT.last 9 (by simp) (by simp) (by rfl),(aX ?_)⟩
   refine QW.ret zL (gm ?_)
   obtain rfl:=sG h
   exact Ends.more (.inr rfl) rfl (ps:=[.agg (([pI (1), .d (.slice (((idx l0 (0:Int)).av).map U)),pS ((idx l0 (0:Int)).az)])++(((aE.rep 16 ([]:(List UInt8))).1.map eS).map PV.d)),pB true]) (And.intro (aI.cell rfl rfl TT.dW (fP (aD (A:=[pI (1), .d (.slice (((idx l0 (0:Int)).av).map U)),pS ((idx l0 (0:Int)).az)]) (b:=16) rfl (aq _) rfl) (Nat.succ_pos _))) (And.intro (aI.tmp rfl) trivial)) (by simp only [PV.dj,PV.ej,iJ,cH,Option.bind_some,Option.map_some,cNode]<;>rfl) rfl
  ·replace h:=fG h cB
   refine QW.skip zL (aX ?_)
   refine QW.seq ?_
   refine sR ?_
   refine xm 24 (.d (.slice (l0.map ee))) ?_
   obtain ⟨x_5,sJ,h⟩:=bG h
   refine xs 25 rfl (aA rfl rfl TT.Oz rfl (Dw l0 _ sJ) ?_)
   refine xz 4 (pI x_5) ?_
   refine sR ?_
   refine xm 26 (pI x_5) ?_
   refine xs 27 rfl (nQ (a:=x_5) (b:=(0:Int)) rfl rfl rfl ?_)
   refine XK.nz ?_
   refine QW.cond (t:=(decide ((0:Int)<x_5))) rfl zL (fun rV=>?_) (fun rV=>?_)
   ·replace h:=fF h rV
    refine sR ?_
    refine xm 28 (.d (.slice (l0.map ee))) ?_
    obtain ⟨p5,h⟩:=gG h
    refine xs 29 rfl (bC (l:=l0) (i:=(0:Int)) rfl TT.ny lu rfl rfl p5 ?_)
    refine xs 30 rfl (aO rfl TT.nX (by decide) rfl ?_)
    refine xs 31 rfl (aC (d:= .slice (((idx l0 (0:Int)).av).map U)) rfl TT.fh rfl (c8.one) ?_)
    refine xm 32 (pI x_5) ?_
    obtain ⟨qG,h⟩:=gG h
    refine xs 33 rfl (n7 (l:=(idx l0 (0:Int)).av) (a:=(0:Int)) (b:=x_5) rfl TT.bA TT.ek bx rfl rfl rfl qG ?_)
    refine xs 34 rfl (eT (v:= .agg (([pI (2), .d (.slice ((sub ((idx l0 (0:Int)).av) (0:Int) x_5).map U)),pS ([]:List UInt8)])++(((aE.rep 16 ([]:(List UInt8))).1.map eS).map PV.d))) rfl TT.oQ (dG rfl (cw (p:=pI (2)) (cells:=(([pI (0), .full (([]:(List UInt8)).map U),pS ([]:List UInt8)])++(((aE.rep 16 ([]:(List UInt8))).1.map eS).map PV.d))) (cells':=(([pI (2), .full (([]:(List UInt8)).map U),pS ([]:List UInt8)])++(((aE.rep 16 ([]:(List UInt8))).1.map eS).map PV.d))) rfl rfl rfl (bW (aD (A:=[pI (0), .full (([]:(List UInt8)).map U),pS ([]:List UInt8)]) (b:=16) rfl (aq _) rfl) bL) (fy 0 (by first | exact Nat.le_of_ble_eq_true rfl | simp) rfl) (cw (p:= .d (.slice ((sub ((idx l0 (0:Int)).av) (0:Int) x_5).map U))) (cells:=(([pI (2), .full (([]:(List UInt8)).map U),pS ([]:List UInt8)])++(((aE.rep 16 ([]:(List UInt8))).1.map eS).map PV.d))) (cells':=(([pI (2), .d (.slice ((sub ((idx l0 (0:Int)).av) (0:Int) x_5).map U)),pS ([]:List UInt8)])++(((aE.rep 16 ([]:(List UInt8))).1.map eS).map PV.d))) rfl rfl rfl (bW (aD (A:=[pI (2), .full (([]:(List UInt8)).map U),pS ([]:List UInt8)]) (b:=16) rfl (aq _) rfl) bL) (fy 1 (by first | exact Nat.le_of_ble_eq_true rfl | simp) rfl) dF))) ?_)
    refine xs 5 rfl (bB (l:=(([pI (0), .full (([]:(List UInt8)).map U),pS ([]:List UInt8)])++(((aE.rep 16 ([]:(List UInt8))).1.map eS).map PV.d))) rfl TT.j9 rfl rfl ?_)
    refine XK.st none rfl rfl (bh (c:=(([pI (2), .d (.slice ((sub ((idx l0 (0:Int)).av) (0:Int) x_5).map U)),pS ([]:List UInt8)])++(((aE.rep 16 ([]:(List UInt8))).1.map eS).map PV.d))) (l':=(([pI (2), .d (.slice ((sub ((idx l0 (0:Int)).av) (0:Int) x_5).map U)),pS ([]:List UInt8)])++(((aE.rep 16 ([]:(List UInt8))).1.map eS).map PV.d))) rfl TT.dW rfl rfl rfl rfl rfl (aD (A:=[pI (2), .d (.slice ((sub ((idx l0 (0:Int)).av) (0:Int) x_5).map U)),pS ([]:List UInt8)]) (b:=16) rfl (aq _) rfl) (bW (aD (A:=[pI (0), .full (([]:(List UInt8)).map U),pS ([]:List UInt8)]) (b:=16) rfl (aq _) rfl) bL) (cQ ((aD (A:=[pI (0), .full (([]:(List UInt8)).map U),pS ([]:List UInt8)]) (b:=16) rfl (aq _) rfl).trans (aD (A:=[pI (2), .d (.slice ((sub ((idx l0 (0:Int)).av) (0:Int) x_5).map U)),pS ([]:List UInt8)]) (b:=16) rfl (aq _) rfl).symm)) ?_)
    refine XK.nz ?_
    refine sR ?_
    refine xm 35 (.d (.slice (l0.map ee))) ?_
    refine xm 36 (pI x_5) ?_
    obtain ⟨x_10,qJ,h⟩:=bG h
    refine xs 37 rfl (aA rfl rfl TT.Hx rfl (zK l0 x_5 _ qJ) ?_)
    obtain ⟨x_12,uq,h⟩:=bG h
    refine xs 38 rfl (aA rfl rfl TT.Cw rfl (fQ x_10 _ uq) ?_)
    obtain ⟨x_14,Hu,h⟩:=bG h
    refine xs 39 rfl (aA rfl rfl TT.Cx rfl (xO x_12 _ Hu) ?_)
    refine xs 40 rfl (gF rfl TT.mY (by decide) rfl ?_)
    refine xs 41 rfl (cV (i:=(0:Int)) rfl TT.tV TT.oP rfl rfl (by decide) ?_)
    refine XK.st none rfl rfl (bh (l':=(([pI (2), .d (.slice ((sub ((idx l0 (0:Int)).av) (0:Int) x_5).map U)),pS ([]:List UInt8)])++((((aE.rep 16 ([]:(List UInt8))).put (0:Int) x_14).1.map eS).map PV.d))) rfl TT.fJ rfl rfl rfl rfl rfl rfl (yQ (n:=16) (by decide) (aD (A:=[pI (2), .d (.slice ((sub ((idx l0 (0:Int)).av) (0:Int) x_5).map U)),pS ([]:List UInt8)]) (b:=16) rfl (aq _) rfl) bL) (qo 3 _ rfl (s4 (by decide))) ?_)
    refine XK.nz ?_
    refine QW.seq ?_
    refine QW.view (s':=⟨aG [(2, .aF 0 0),(5, .aF 1 0)],aj [.var (([pI (0), .full (([]:(List UInt8)).map U),pS ([]:List UInt8)])++(((aE.rep 16 ([]:(List UInt8))).1.map eS).map PV.d)), .var (([pI (2), .d (.slice ((sub ((idx l0 (0:Int)).av) (0:Int) x_5).map U)),pS ([]:List UInt8)])++((((aE.rep 16 ([]:(List UInt8))).put (0:Int) x_14).1.map eS).map PV.d))],2,[]⟩) (View.mk 2 [0,1] _ _ _ rfl rfl (by decide) (iC (iC trivial)) (And.intro (by simp only [cv,eZ,PV.bK];rfl) (And.intro (by simp only [cv,eZ,PV.bK];rfl) trivial)) rfl zL rfl) zL ?_
    refine rG ?_
    refine XK.as (some 42) rfl rfl (bD (v:= .agg (([pI (2), .d (.slice ((sub ((idx l0 (0:Int)).av) (0:Int) x_5).map U)),pS ([]:List UInt8)])++((((aE.rep 16 ([]:(List UInt8))).put (0:Int) x_14).1.map eS).map PV.d))) rfl TT.dW rfl rfl (fP (aD (A:=[pI (2), .d (.slice ((sub ((idx l0 (0:Int)).av) (0:Int) x_5).map U)),pS ([]:List UInt8)]) (b:=16) rfl (aq _) rfl) (Nat.succ_pos _)) ⟨.d (.agg (cNode (⟨2,(sub ((idx l0 (0:Int)).av) (0:Int) x_5),([]:List UInt8),((aE.rep 16 ([]:(List UInt8))).put (0:Int) x_14)⟩:Node))),(iH.dj (oK (mh rfl cH))),?_⟩)
    refine XK.st none rfl rfl (bh (c:=(([pI (2), .d (.slice ((sub ((idx l0 (0:Int)).av) (0:Int) x_5).map U)),pS ([]:List UInt8)])++((((aE.rep 16 ([]:(List UInt8))).put (0:Int) x_14).1.map eS).map PV.d))) (l':=(([pI (2), .d (.slice ((sub ((idx l0 (0:Int)).av) (0:Int) x_5).map U)),pS ([]:List UInt8)])++((((aE.rep 16 ([]:(List UInt8))).put (0:Int) x_14).1.map eS).map PV.d))) rfl TT.dW rfl rfl rfl rfl (show (cNode (⟨2,(sub ((idx l0 (0:Int)).av) (0:Int) x_5),([]:List UInt8),((aE.rep 16 ([]:(List UInt8))).put (0:Int) x_14)⟩:Node)).map PV.d=_ by simp only [cNode,List.map_append];rfl) (aD (A:=[pI (2), .d (.slice ((sub ((idx l0 (0:Int)).av) (0:Int) x_5).map U)),pS ([]:List UInt8)]) (b:=16) rfl (aq _) rfl) (bW (aD (A:=[pI (0), .full (([]:(List UInt8)).map U),pS ([]:List UInt8)]) (b:=16) rfl (aq _) rfl) bL) (cQ ((aD (A:=[pI (0), .full (([]:(List UInt8)).map U),pS ([]:List UInt8)]) (b:=16) rfl (aq _) rfl).trans (aD (A:=[pI (2), .d (.slice ((sub ((idx l0 (0:Int)).av) (0:Int) x_5).map U)),pS ([]:List UInt8)]) (b:=16) rfl (aq _) rfl).symm)) ?_)
    refine xz 3 (pB true) ?_
    refine QW.ret zL (gm ?_)
    obtain rfl:=sG h
    exact Ends.more (.inr rfl) rfl (ps:=[.agg (([pI (2), .d (.slice ((sub ((idx l0 (0:Int)).av) (0:Int) x_5).map U)),pS ([]:List UInt8)])++((((aE.rep 16 ([]:(List UInt8))).put (0:Int) x_14).1.map eS).map PV.d)),pB true]) (And.intro (aI.cell rfl rfl TT.dW (fP (aD (A:=[pI (2), .d (.slice ((sub ((idx l0 (0:Int)).av) (0:Int) x_5).map U)),pS ([]:List UInt8)]) (b:=16) rfl (aq _) rfl) (Nat.succ_pos _))) (And.intro (aI.tmp rfl) trivial)) (by simp only [PV.dj,PV.ej,iJ,cH,Option.bind_some,Option.map_some,cNode]<;>rfl) rfl
   ·replace h:=fG h rV
    refine QW.skip zL (aX ?_)
    refine sR ?_
    refine xs 43 rfl (eT (v:= .agg (([pI (3), .full (([]:(List UInt8)).map U),pS ([]:List UInt8)])++(((aE.rep 16 ([]:(List UInt8))).1.map eS).map PV.d))) rfl TT.oQ (dG rfl (cw (p:=pI (3)) (cells:=(([pI (0), .full (([]:(List UInt8)).map U),pS ([]:List UInt8)])++(((aE.rep 16 ([]:(List UInt8))).1.map eS).map PV.d))) (cells':=(([pI (3), .full (([]:(List UInt8)).map U),pS ([]:List UInt8)])++(((aE.rep 16 ([]:(List UInt8))).1.map eS).map PV.d))) rfl rfl rfl (bW (aD (A:=[pI (0), .full (([]:(List UInt8)).map U),pS ([]:List UInt8)]) (b:=16) rfl (aq _) rfl) bL) (fy 0 (by first | exact Nat.le_of_ble_eq_true rfl | simp) rfl) dF)) ?_)
    refine xs 6 rfl (bB (l:=(([pI (0), .full (([]:(List UInt8)).map U),pS ([]:List UInt8)])++(((aE.rep 16 ([]:(List UInt8))).1.map eS).map PV.d))) rfl TT.j9 rfl rfl ?_)
    refine XK.st none rfl rfl (bh (c:=(([pI (3), .full (([]:(List UInt8)).map U),pS ([]:List UInt8)])++(((aE.rep 16 ([]:(List UInt8))).1.map eS).map PV.d))) (l':=(([pI (3), .full (([]:(List UInt8)).map U),pS ([]:List UInt8)])++(((aE.rep 16 ([]:(List UInt8))).1.map eS).map PV.d))) rfl TT.dW rfl rfl rfl rfl rfl (aD (A:=[pI (3), .full (([]:(List UInt8)).map U),pS ([]:List UInt8)]) (b:=16) rfl (aq _) rfl) (bW (aD (A:=[pI (0), .full (([]:(List UInt8)).map U),pS ([]:List UInt8)]) (b:=16) rfl (aq _) rfl) bL) (cQ ((aD (A:=[pI (0), .full (([]:(List UInt8)).map U),pS ([]:List UInt8)]) (b:=16) rfl (aq _) rfl).trans (aD (A:=[pI (3), .full (([]:(List UInt8)).map U),pS ([]:List UInt8)]) (b:=16) rfl (aq _) rfl).symm)) ?_)
    refine XK.nz ?_
    refine QW.seq ?_
    refine sR ?_
    refine xz 7 (pI (0)) ?_
    refine QW.block ?_
    refine QW.loop (fun k σ=>∃ v7:Int,∃ k6:(aE 16 (List UInt8)),k≤dm∧run (gk self l0) k (.L1 v7 k6)=some r∧σ=⟨aG [(0, .d (.slice (l0.map ee))),(2, .aF 0 0),(6, .aF 1 0),(7,pI v7)],aj [.var (([pI (0), .full (([]:(List UInt8)).map U),pS ([]:List UInt8)])++(((aE.rep 16 ([]:(List UInt8))).1.map eS).map PV.d)), .var (([pI (3), .full (([]:(List UInt8)).map U),pS ([]:List UInt8)])++((k6.1.map eS).map PV.d))],2,[]⟩) dm zL ⟨⟨aG [(0, .d (.slice (l0.map ee))),(2, .aF 0 0),(6, .aF 1 0),(7,pI (0))],aj [.var (([pI (0), .full (([]:(List UInt8)).map U),pS ([]:List UInt8)])++(((aE.rep 16 ([]:(List UInt8))).1.map eS).map PV.d)), .var (([pI (3), .full (([]:(List UInt8)).map U),pS ([]:List UInt8)])++(((aE.rep 16 ([]:(List UInt8))).1.map eS).map PV.d))],2,[]⟩,View.mk 2 [0,1] _ _ _ rfl rfl (by decide) (iC (iC (iC (iC trivial)))) (And.intro (by simp only [cv,eZ,PV.bK];rfl) (And.intro (by simp only [cv,eZ,PV.bK];rfl) trivial)) rfl zL rfl,0,(aE.rep 16 ([]:(List UInt8))),Nat.le_refl _,jG h,rfl⟩ ?_
    rintro Xf _ ⟨v7,k6,Xg,h,rfl⟩
    obtain ⟨Sw,rfl,h9⟩:=aQ h;replace h:=h9;clear h9;rw [gk] at h
    refine QW.seq ?_
    refine sR ?_
    refine xm 44 (pI v7) ?_
    refine xs 45 rfl (cJ (a:=v7) (b:=(16:Int)) rfl rfl rfl ?_)
    refine XK.nz ?_
    refine QW.cond (t:=(decide (v7<(16:Int)))) rfl zL (fun qE=>?_) (fun qE=>?_)
    ·replace h:=fF h qE
     refine QW.skip zL (aX ?_)
     refine QW.seq ?_
     refine QW.block ?_
     refine rG ?_
     refine xm 48 (pI v7) ?_
     refine xm 49 (.d (.slice (l0.map ee))) ?_
     refine xm 50 (pI v7) ?_
     obtain ⟨x_18,xF,h⟩:=bG h
     refine xs 51 rfl (aA rfl rfl TT.OA rfl (Ek l0 v7 _ xF) ?_)
     obtain ⟨x_20,yV,h⟩:=bG h
     refine xs 52 rfl (aA rfl rfl TT.Hx rfl (zK x_18 (1) _ yV) ?_)
     obtain ⟨x_22,yX,h⟩:=bG h
     refine xs 53 rfl (aA rfl rfl TT.Cw rfl (fQ x_20 _ yX) ?_)
     obtain ⟨x_24,He,h⟩:=bG h
     refine xs 54 rfl (aA rfl rfl TT.Cx rfl (xO x_22 _ He) ?_)
     refine xs 55 rfl (gF rfl TT.mY (by decide) rfl ?_)
     obtain ⟨ye,h⟩:=gG h
     refine xs 56 rfl (cV (i:=v7) rfl TT.tV TT.oP rfl rfl ye ?_)
     refine XK.st none rfl rfl (bh (l':=(([pI (3), .full (([]:(List UInt8)).map U),pS ([]:List UInt8)])++(((k6.put v7 x_24).1.map eS).map PV.d))) rfl TT.fJ rfl rfl rfl rfl rfl rfl (yQ (n:=16) ye (aD (A:=[pI (3), .full (([]:(List UInt8)).map U),pS ([]:List UInt8)]) (b:=16) rfl (aq _) rfl) bL) (qo 3 _ rfl (s4 ye)) ?_)
     refine XK.nil (g6 (aX ?_))
     refine rG ?_
     refine xm 46 (pI v7) ?_
     obtain ⟨Mf,h⟩:=gG h
     refine xs 47 rfl (bX (a:=v7) (b:=(1:Int)) rfl rfl rfl Mf ?_)
     refine xz 7 (pI (v7+(1:Int))) ?_
     exact ⟨Sw,by omega,⟨aG [(0, .d (.slice (l0.map ee))),(2, .aF 0 0),(6, .aF 1 0),(7,pI (v7+(1:Int)))],aj [.var (([pI (0), .full (([]:(List UInt8)).map U),pS ([]:List UInt8)])++(((aE.rep 16 ([]:(List UInt8))).1.map eS).map PV.d)), .var (([pI (3), .full (([]:(List UInt8)).map U),pS ([]:List UInt8)])++(((k6.put v7 x_24).1.map eS).map PV.d))],2,[]⟩,View.mk 2 [0,1] _ _ _ rfl rfl (by decide) (iC (iC (iC (iC trivial)))) (And.intro (by simp only [cv,eZ,PV.bK];rfl) (And.intro (by simp only [cv,eZ,PV.bK];rfl) trivial)) rfl zL rfl,(v7+(1:Int)),(k6.put v7 x_24),by omega,jG h,rfl⟩
    ·replace h:=fG h qE
     refine QW.exit zL (eD (eD (j3 (aX ?_))))
     refine sR ?_
     refine XK.as (some 57) rfl rfl (bD (v:= .agg (([pI (3), .full (([]:(List UInt8)).map U),pS ([]:List UInt8)])++((k6.1.map eS).map PV.d))) rfl TT.dW rfl rfl (fP (aD (A:=[pI (3), .full (([]:(List UInt8)).map U),pS ([]:List UInt8)]) (b:=16) rfl (aq _) rfl) (Nat.succ_pos _)) ⟨.d (.agg (cNode (⟨3,([]:(List UInt8)),([]:List UInt8),k6⟩:Node))),(iH.dj (oK (mh rfl cH))),?_⟩)
     refine XK.st none rfl rfl (bh (c:=(([pI (3), .d (.slice (([]:(List UInt8)).map U)),pS ([]:List UInt8)])++((k6.1.map eS).map PV.d))) (l':=(([pI (3), .d (.slice (([]:(List UInt8)).map U)),pS ([]:List UInt8)])++((k6.1.map eS).map PV.d))) rfl TT.dW rfl rfl rfl rfl (show (cNode (⟨3,([]:(List UInt8)),([]:List UInt8),k6⟩:Node)).map PV.d=_ by simp only [cNode,List.map_append];rfl) (aD (A:=[pI (3), .d (.slice (([]:(List UInt8)).map U)),pS ([]:List UInt8)]) (b:=16) rfl (aq _) rfl) (bW (aD (A:=[pI (0), .full (([]:(List UInt8)).map U),pS ([]:List UInt8)]) (b:=16) rfl (aq _) rfl) bL) (cQ ((aD (A:=[pI (0), .full (([]:(List UInt8)).map U),pS ([]:List UInt8)]) (b:=16) rfl (aq _) rfl).trans (aD (A:=[pI (3), .d (.slice (([]:(List UInt8)).map U)),pS ([]:List UInt8)]) (b:=16) rfl (aq _) rfl).symm)) ?_)
     refine xz 3 (pB true) ?_
     refine QW.ret zL ?_
     obtain rfl:=sG h
     exact Ends.more (.inr rfl) rfl (ps:=[.agg (([pI (3), .d (.slice (([]:(List UInt8)).map U)),pS ([]:List UInt8)])++((k6.1.map eS).map PV.d)),pB true]) (And.intro (aI.cell rfl rfl TT.dW (fP (aD (A:=[pI (3), .d (.slice (([]:(List UInt8)).map U)),pS ([]:List UInt8)]) (b:=16) rfl (aq _) rfl) (Nat.succ_pos _))) (And.intro (aI.tmp rfl) trivial)) (by simp only [PV.dj,PV.ej,iJ,cH,Option.bind_some,Option.map_some,cNode]<;>rfl) rfl
noncomputable def qj (self:(List In)→Option (List UInt8)) (l0:(List In)):Option (List UInt8):=
  ((sg self l0).bind fun (x_1:(Node×Bool))=>
  (bif (!(x_1).2) then
  some ([]:List UInt8)
  else
  ((pK (x_1.1)).bind fun (x_4:(List UInt8))=>
  some x_4)))
theorem FA (self:(List In)→Option (List UInt8)) (fQ:∀ (y0:(List In)) (rr:(List UInt8)),self y0=some rr→bI Tryz.prog 15 [.slice (y0.map ee)] (.val (sV rr))) (l0:(List In)) (r:(List UInt8)) (h:qj self l0=some r):bI Tryz.prog 15 [.slice (l0.map ee)] (.val (sV r)):=by
 refine bI.aU Tryz.func15 rfl (by simp [Tryz.ntmps15]) ?_
 rw [Tryz.ntmps15,TT.VG]
 refine QW.view (s':=⟨aG [(0, .d (.slice (l0.map ee)))],aj [],0,[]⟩) (View.init (by rfl)) zL ?_
 unfold qj at h
 refine sR ?_
 refine xz 2 (pS ([]:List UInt8)) ?_
 refine sR ?_
 refine xm 6 (.d (.slice (l0.map ee))) ?_
 obtain ⟨x_1,fB,h⟩:=bO h
 refine xs 7 rfl (aA rfl rfl TT.Ox rfl (El self fQ l0 _ fB) ?_)
 refine xm 5 (.d (.tuple [.agg (cNode (x_1.1)), .val (.bool (x_1.2))])) ?_
 refine xs 8 rfl (bM rfl rfl rfl ?_)
 refine xs 9 rfl (bM rfl rfl rfl ?_)
 refine xs 3 rfl (bB (l:=(([pI (0), .full (([]:(List UInt8)).map U),pS ([]:List UInt8)])++(((aE.rep 16 ([]:(List UInt8))).1.map eS).map PV.d))) rfl TT.j9 rfl rfl ?_)
 refine XK.st none rfl rfl (bh (c:=(([pI ((x_1.1).bf), .d (.slice (((x_1.1).av).map U)),pS ((x_1.1).az)])++((((x_1.1).aR).1.map eS).map PV.d))) (l':=(([pI ((x_1.1).bf), .d (.slice (((x_1.1).av).map U)),pS ((x_1.1).az)])++((((x_1.1).aR).1.map eS).map PV.d))) rfl TT.dW rfl rfl rfl rfl (show (cNode (x_1.1)).map PV.d=_ by simp only [cNode,List.map_append];rfl) (aD (A:=[pI ((x_1.1).bf), .d (.slice (((x_1.1).av).map U)),pS ((x_1.1).az)]) (b:=16) rfl (aq _) rfl) (bW (aD (A:=[pI (0), .full (([]:(List UInt8)).map U),pS ([]:List UInt8)]) (b:=16) rfl (aq _) rfl) bL) (cQ ((aD (A:=[pI (0), .full (([]:(List UInt8)).map U),pS ([]:List UInt8)]) (b:=16) rfl (aq _) rfl).trans (aD (A:=[pI ((x_1.1).bf), .d (.slice (((x_1.1).av).map U)),pS ((x_1.1).az)]) (b:=16) rfl (aq _) rfl).symm)) ?_)
 refine xz 4 (pB (x_1.2)) ?_
 refine QW.seq ?_
 refine sR ?_
 refine xm 10 (pB (x_1.2)) ?_
 refine xs 11 rfl (ou rfl rfl ?_)
 refine XK.nz ?_
 refine QW.cond (t:=(!(x_1).2)) rfl zL (fun dU=>?_) (fun dU=>?_)
 ·replace h:=bT h dU
  refine sR ?_
  refine xz 2 (pS ([]:List UInt8)) ?_
  refine QW.ret zL (gm ?_)
  obtain rfl:=sO h
  exact Ends.one (.inr rfl) rfl (aI.tmp rfl) rfl rfl
 ·replace h:=bF h dU
  refine QW.skip zL (aX ?_)
  refine sR ?_
  refine XK.as (some 12) rfl rfl (bD (v:= .agg (([pI ((x_1.1).bf), .d (.slice (((x_1.1).av).map U)),pS ((x_1.1).az)])++((((x_1.1).aR).1.map eS).map PV.d))) rfl TT.dW rfl rfl (fP (aD (A:=[pI ((x_1.1).bf), .d (.slice (((x_1.1).av).map U)),pS ((x_1.1).az)]) (b:=16) rfl (aq _) rfl) (Nat.succ_pos _)) ⟨.d (.agg (cNode (x_1.1))),(iH.dj (oK (mh rfl cH))),?_⟩)
  obtain ⟨x_4,kZ,h⟩:=bO h
  refine xs 13 rfl (aA rfl rfl TT.Ov rfl (Hw (x_1.1) _ kZ) ?_)
  refine xz 2 (pS x_4) ?_
  refine QW.ret zL ?_
  obtain rfl:=sO h
  exact Ends.one (.inr rfl) rfl (aI.tmp rfl) rfl rfl
noncomputable def kL:Nat→(List In)→Option (List UInt8)
 | 0=>fun _=>none
 | n+1=>fun y0=>qj (kL n) y0
theorem zM:∀ (n:Nat) (y0:(List In)) (rr:(List UInt8)),kL n y0=some rr→bI Tryz.prog 15 [.slice (y0.map ee)] (.val (sV rr))
 | 0,_,_,h=>by cases h
 | n+1,y0,rr,h=>FA (kL n) (zM n) y0 rr h
noncomputable def pM (y0:(List In)):Option (List UInt8):=wX (fun n=>kL n y0)
theorem Hz (y0:(List In)) (rr:(List UInt8)) (h:pM y0=some rr):bI Tryz.prog 15 [.slice (y0.map ee)] (.val (sV rr)):=by
 obtain ⟨n,hn⟩:=oe h
 exact zM n y0 rr hn
end Go.Proofs.YtlfjfoknbjcncaaGreat.K
