/- The references of layers 05 and 06. -/
import Derived.Test.YtlfjfoknbjcncaaGreatHG5
import Derived.KernelRfl
import Derived.Test.YtlfjfoknbjcncaaGreatHG3
namespace Go.Proofs.YtlfjfoknbjcncaaGreat.K
open Go Go.RowKit
set_option linter.unusedSimpArgs false
set_option linter.unusedVariables false
set_option maxRecDepth 20000
set_option maxHeartbeats 4000000
namespace TT
theorem Jn:So Tryz.prog 56 16 9=true:=by kernel_rfl
theorem VX:Tryz.prog.eqGuardType Tryz.prog.depth 56=false:=by kernel_rfl
theorem VY:Tryz.f22.results.toList=[.cell 2 58, .tmp 3]:=rfl
theorem VZ:Tryz.f24.results.toList=[.tmp 4]:=rfl
theorem V0:Tryz.f33.results.toList=[.tmp 2]:=rfl
theorem V1:Tryz.f37.results.toList=[.cell 6 82, .tmp 7, .tmp 8, .tmp 9]:=rfl
theorem V4:Tryz.f38.results.toList=[.tmp 2, .tmp 3, .tmp 4]:=rfl
theorem V5:Tryz.f39.results.toList=[.tmp 2]:=rfl
theorem V6:Tryz.f40.results.toList=[.tmp 2, .tmp 3]:=rfl
theorem V7:Tryz.f59.results.toList=[.tmp 2]:=rfl
theorem V8:Tryz.f61.results.toList=[.tmp 2]:=rfl
theorem V9:Tryz.f62.results.toList=[.tmp 4]:=rfl
theorem Wa:Tryz.f68.results.toList=[.tmp 2]:=rfl
theorem Wb:Tryz.f69.results.toList=[.tmp 2]:=rfl
theorem Wc:Tryz.f70.results.toList=[.tmp 2]:=rfl
theorem We:Tryz.f86.results.toList=[.tmp 2]:=rfl
end TT
def B9 (x y:(aD 16 (List UInt8))):Bool:=((x).1==(y).1)
theorem Tf (x y:(aD 16 (List UInt8))):G8 Tryz.prog 56 (.agg (x.1.map eS)) (.agg (y.1.map eS)) (B9 x y):=Qu.run (Qu.arr (en:=eS) TT.Jn (fun p q=>(Mt.str TT.eG TT.bh)) x y) TT.VX
theorem MR (x y:(aD 16 (List UInt8))):B9 x y=true↔x=y:=by simp only [B9,beq_iff_eq,Subtype.ext_iff]
noncomputable def rz (self:Int→Option (List UInt8)) (n0:Int):Option (List UInt8):=
  (bif (decide (n0=(0:Int))) then
  some ([]:List UInt8)
  else
  gO ((256:Int)≠0∧bf (n0.tdiv (256:Int))) (
  ((self (n0.tdiv (256:Int))).bind fun (x_3:(List UInt8))=>
  gO (x_3.length+([(g7 (n0.tmod (256:Int)))]:List UInt8).length≤9223372036854775807) (
  some (x_3++([(g7 (n0.tmod (256:Int)))]:List UInt8))))))
theorem Gs (self:Int→Option (List UInt8)) (dZ:∀ (y0:Int) (rr:(List UInt8)),self y0=some rr→cD Tryz.prog 86 [.val (.int .i64 y0)] (.val (sV rr))) (n0:Int) (r:(List UInt8)) (h:rz self n0=some r):cD Tryz.prog 86 [.val (.int .i64 n0)] (.val (sV r)):=by
 refine fQ Tryz.func86 Tryz.ntmps86 TT.We ?_
 unfold rz at h
 refine sR ?_
 refine xz 2 (pS ([]:List UInt8)) ?_
 refine QW.seq ?_
 refine sR ?_
 refine xm 3 (pI n0) ?_
 refine xT 4 (dj n0 (0:Int) ?_)
 refine cT (decide (n0=(0:Int))) (fun c8=>?_) (fun c8=>?_)
 ·replace h:=bT h c8
  refine sR ?_
  refine xz 2 (pS ([]:List UInt8)) ?_
  refine QW.ret zL (dc ?_)
  obtain rfl:=sO h
  exact eO
 ·replace h:=bF h c8
  refine sk ?_
  refine QW.seq ?_
  refine QW.region zL (PW.nj (id:=3) dG (M:=_) rfl (by kernel_rfl) ?_)
  refine qS 5 (ax (pI n0) (q2 ?_))
  obtain ⟨yp,h⟩:=bq h
  refine qS 6 (K7 n0 (256:Int) yp (q2 ?_))
  obtain ⟨x_3,ri,h⟩:=bO h
  refine qS 7 (az (dZ (n0.tdiv (256:Int)) _ ri) (q2 ?_))
  refine qS 8 (ax (pI n0) (q2 ?_))
  refine qS 9 (uH n0 (256:Int) (q2 ?_))
  refine qS 10 (oY (n0.tmod (256:Int)) TT.kD TT.dw (q2 ?_))
  refine qS 11 (eA aa ([(g7 (n0.tmod (256:Int)))]:List UInt8) TT.eV (q2 ?_))
  refine qS 12 (nk ([(g7 (n0.tmod (256:Int)))]:List UInt8) TT.bt TT.dw TT.bh (q2 ?_))
  obtain ⟨nM,h⟩:=bq h
  refine qS 13 (lZ x_3 ([(g7 (n0.tmod (256:Int)))]:List UInt8) nM (q2 ?_))
  refine qS 2 (cj (pS (x_3++([(g7 (n0.tmod (256:Int)))]:List UInt8))) (q2 ?_))
  refine RQ.nil (cn ?_)
  refine QW.ret zL ?_
  obtain rfl:=sO h
  exact eO
noncomputable def ot:Nat→Int→Option (List UInt8)
 | 0=>fun _=>none
 | n+1=>fun y0=>rz (ot n) y0
theorem Av:∀ (n:Nat) (y0:Int) (rr:(List UInt8)),ot n y0=some rr→cD Tryz.prog 86 [.val (.int .i64 y0)] (.val (sV rr))
 | 0,_,_,h=>by cases h
 | n+1,y0,rr,h=>Gs (ot n) (Av n) y0 rr h
noncomputable def z1 (y0:Int):Option (List UInt8):=vG (fun n=>ot n y0)
theorem Il (y0:Int) (rr:(List UInt8)) (h:z1 y0=some rr):cD Tryz.prog 86 [.val (.int .i64 y0)] (.val (sV rr)):=by
 obtain ⟨n,hn⟩:=n8 h
 exact Av n y0 rr hn
noncomputable def nO (n0:Int) (Ff:Bool):Option (List UInt8):=
  (((bif Ff then
  some (192)
  else
  some (128)):Option Int).bind fun (v5:Int)=>
  (bif (decide (n0<(56:Int))) then
  gO (bf (v5+n0)) (
  some ([(g7 (v5+n0))]:List UInt8))
  else
  ((z1 n0).bind fun (x_4:(List UInt8))=>
  gO (bf (v5+(55:Int))) (
  gO (bf ((v5+(55:Int))+(x_4.length:Int))) (
  gO (([(g7 ((v5+(55:Int))+(x_4.length:Int)))]:List UInt8).length+x_4.length≤9223372036854775807) (
  some (([(g7 ((v5+(55:Int))+(x_4.length:Int)))]:List UInt8)++x_4)))))))
theorem vw (n0:Int) (Ff:Bool) (r:(List UInt8)) (h:nO n0 Ff=some r):cD Tryz.prog 62 [.val (.int .i64 n0), .val (.bool Ff)] (.val (sV r)):=by
 refine fQ Tryz.func62 Tryz.ntmps62 TT.V9 ?_
 unfold nO at h
 refine sR ?_
 refine xz 4 (pS ([]:List UInt8)) ?_
 refine sR ?_
 refine xz 5 (pI (128)) ?_
 obtain ⟨v5,hq,h⟩:=bO h
 refine QW.s6 (fun s'=>s'=⟨bW [(0,pI n0),(5,pI v5)],aK [],0,[]⟩) ?_ ?_
 ·replace h:=hq;clear hq
  refine sR ?_
  refine xm 7 (pB Ff) ?_
  refine XK.nz ?_
  refine cT Ff (fun c8=>?_) (fun c8=>?_)
  ·replace h:=bT h c8
   refine rG ?_
   refine xz 5 (pI (192)) ?_
   obtain rfl:=sO h
   exact jb rfl (vM 0 [])
  ·replace h:=bF h c8
   refine sk ?_
   obtain rfl:=sO h
   exact jb rfl (vM 0 [])
 ·rintro _ rfl
  refine QW.seq ?_
  refine sR ?_
  refine xm 8 (pI n0) ?_
  refine xT 9 (cM n0 (56:Int) ?_)
  refine cT (decide (n0<(56:Int))) (fun cQ=>?_) (fun cQ=>?_)
  ·replace h:=bT h cQ
   refine sR ?_
   refine xm 10 (pI v5) ?_
   refine xm 11 (pI n0) ?_
   obtain ⟨eD,h⟩:=bq h
   refine xS 12 (bE v5 n0 eD ?_)
   refine xS 13 (oY (v5+n0) TT.kD TT.dw ?_)
   refine xS 14 (eA aa ([(g7 (v5+n0))]:List UInt8) TT.eV ?_)
   refine xS 15 (nk ([(g7 (v5+n0))]:List UInt8) TT.bt TT.dw TT.bh ?_)
   refine xz 4 (pS ([(g7 (v5+n0))]:List UInt8)) ?_
   refine QW.ret zL (dc ?_)
   obtain rfl:=sO h
   exact eO
  ·replace h:=bF h cQ
   refine sk ?_
   refine sR ?_
   refine xm 16 (pI n0) ?_
   obtain ⟨x_4,mQ,h⟩:=bO h
   refine xS 17 (az (Il n0 _ mQ) ?_)
   refine xz 6 (pS x_4) ?_
   refine sR ?_
   refine xm 18 (pI v5) ?_
   obtain ⟨oM,h⟩:=bq h
   refine xS 19 (bE v5 (55:Int) oM ?_)
   refine xm 20 (pS x_4) ?_
   refine xS 21 (eU x_4 TT.bh ?_)
   obtain ⟨pJ,h⟩:=bq h
   refine xS 22 (bE (v5+(55:Int)) (x_4.length:Int) pJ ?_)
   refine xS 23 (oY ((v5+(55:Int))+(x_4.length:Int)) TT.kD TT.dw ?_)
   refine xS 24 (eA aa ([(g7 ((v5+(55:Int))+(x_4.length:Int)))]:List UInt8) TT.eV ?_)
   refine xS 25 (nk ([(g7 ((v5+(55:Int))+(x_4.length:Int)))]:List UInt8) TT.bt TT.dw TT.bh ?_)
   refine xm 26 (pS x_4) ?_
   obtain ⟨uq,h⟩:=bq h
   refine xS 27 (lZ ([(g7 ((v5+(55:Int))+(x_4.length:Int)))]:List UInt8) x_4 uq ?_)
   refine xz 4 (pS (([(g7 ((v5+(55:Int))+(x_4.length:Int)))]:List UInt8)++x_4)) ?_
   refine QW.ret zL ?_
   obtain rfl:=sO h
   exact eO
inductive Em where
 | S
 | L1 (v3:(List UInt8)) (v4:Int)
noncomputable def jt (self:Item→Option (List UInt8)) (x0:Item):Em→Option (Em⊕(List UInt8))
 | .S=>
  (bif (!(x0).bQ) then
  gO ((decide (((x0.fS).length:Int)=(1:Int)))=true→0≤(0:Int)∧(0:Int)<((x0.fS).length:Int)) (
  (bif ((decide (((x0.fS).length:Int)=(1:Int)))&&(decide (((idx (x0.fS) (0:Int)).toNat:Int)≤(127:Int)))) then
  some (.inr (x0.fS))
  else
  ((nO ((x0.fS).length:Int) false).bind fun (x_4:(List UInt8))=>
  gO (x_4.length+(x0.fS).length≤9223372036854775807) (
  some (.inr (x_4++x0.fS))))))
  else
  some (.inl (.L1 ([]:List UInt8) (0))))
 | .L1 v3 v4=>
  (bif (decide (v4<((x0.fL).length:Int))) then
  gO (0≤v4∧v4<((x0.fL).length:Int)) (
  ((self (idx (x0.fL) v4)).bind fun (x_10:(List UInt8))=>
  gO (v3.length+x_10.length≤9223372036854775807) (
  gO (bf (v4+(1:Int))) (
  some (.inl (.L1 (v3++x_10) (v4+(1:Int))))))))
  else
  ((nO (v3.length:Int) true).bind fun (x_14:(List UInt8))=>
  gO (x_14.length+v3.length≤9223372036854775807) (
  some (.inr (x_14++v3)))))
noncomputable def yz (self:Item→Option (List UInt8)) (x0:Item):Option (List UInt8):=gJ (jt self x0) .S
theorem Gt (self:Item→Option (List UInt8)) (dZ:∀ (y0:Item) (rr:(List UInt8)),self y0=some rr→cD Tryz.prog 70 [.agg (ct y0)] (.val (sV rr))) (x0:Item) (r:(List UInt8)) (h:yz self x0=some r):cD Tryz.prog 70 [.agg (ct x0)] (.val (sV r)):=by
 refine fQ Tryz.func70 Tryz.ntmps70 TT.Wc ?_
 obtain ⟨_,h⟩:=cP h
 obtain ⟨dm,e9,h⟩:=aQ h;rw [jt] at h
 refine sR ?_
 refine XK.fz (some 1) rfl rfl (eE (ct x0) rfl rfl rfl rfl rfl ?_)
 refine xz 2 (pS ([]:List UInt8)) ?_
 refine QW.seq ?_
 refine sR ?_
 refine xS 5 (aL TT.p8 ?_)
 refine xS 6 (aA (.val (.bool (x0.bQ))) TT.A4 ?_)
 refine xT 7 (kV ?_)
 refine cT (!(x0).bQ) (fun c8=>?_) (fun c8=>?_)
 ·replace h:=ej h c8
  refine QW.seq ?_
  refine sR ?_
  refine xS 8 (aL TT.iI ?_)
  refine xS 9 (aA (.val (sV (x0.fS))) TT.eG ?_)
  refine xS 10 (eU x0.fS TT.bh ?_)
  refine xS 11 (dj ((x0.fS).length:Int) (1:Int) ?_)
  refine xm 12 (pB (decide (((x0.fS).length:Int)=(1:Int)))) ?_
  refine xg 13 (.d (.cF ((ct x0).drop 1))) rfl rfl (fun hg=>aL TT.iI g3) ?_
  refine xg 14 (pS (x0.fS)) rfl rfl (fun hg=>aA (.val (sV (x0.fS))) TT.eG g3) ?_
  obtain ⟨yp,h⟩:=gG h
  refine xg 15 (.d (.val (.int .u8 ((idx (x0.fS) (0:Int)).toNat:Int)))) rfl rfl (fun hg=>g8 x0.fS (0:Int) TT.bh (yp (Hu hg)) g3) ?_
  refine xg 16 (pB (decide (((idx (x0.fS) (0:Int)).toNat:Int)≤(127:Int)))) rfl rfl (fun hg=>uI ((idx (x0.fS) (0:Int)).toNat:Int) (127:Int) g3) ?_
  refine xT 17 (cO ?_)
  refine cT ((decide (((x0.fS).length:Int)=(1:Int)))&&(decide (((idx (x0.fS) (0:Int)).toNat:Int)≤(127:Int)))) (fun dY=>?_) (fun dY=>?_)
  ·replace h:=ej h dY
   refine sR ?_
   refine xS 18 (aL TT.iI ?_)
   refine xS 19 (aA (.val (sV (x0.fS))) TT.eG ?_)
   refine xz 2 (pS (x0.fS)) ?_
   refine QW.ret zL (dc (dc ?_))
   obtain rfl:=sG h
   exact eO
  ·replace h:=ek h dY
   refine sk ?_
   refine QW.seq ?_
   refine QW.region zL (PW.nj (id:=4) dG (M:=_) rfl (by kernel_rfl) ?_)
   refine qS 20 (aL TT.iI (q2 ?_))
   refine qS 21 (aA (.val (sV (x0.fS))) TT.eG (q2 ?_))
   refine qS 22 (eU x0.fS TT.bh (q2 ?_))
   obtain ⟨x_4,mQ,h⟩:=bG h
   refine qS 23 (az (vw ((x0.fS).length:Int) false _ mQ) (q2 ?_))
   refine qS 24 (aL TT.iI (q2 ?_))
   refine qS 25 (aA (.val (sV (x0.fS))) TT.eG (q2 ?_))
   obtain ⟨oM,h⟩:=gG h
   refine qS 26 (lZ x_4 x0.fS oM (q2 ?_))
   refine qS 2 (cj (pS (x_4++x0.fS)) (q2 ?_))
   refine RQ.nil (cn ?_)
   refine QW.ret zL (dc ?_)
   obtain rfl:=sG h
   exact eO
 ·replace h:=ek h c8
  refine sk ?_
  refine sR ?_
  refine xz 3 (pS ([]:List UInt8)) ?_
  refine QW.seq ?_
  refine sR ?_
  refine xz 4 (pI (0)) ?_
  refine QW.block ?_
  refine lp (fun k σ=>∃ v3:(List UInt8),∃ v4:Int,k≤dm∧run (jt self x0) k (.L1 v3 v4)=some r∧σ=⟨bW [(1, .d (.cF (ct x0))),(3,pS v3),(4,pI v4)],aK [],0,[]⟩) dm ⟨([]:List UInt8),0,Nat.le_refl _,jG h,rfl⟩ (vM 0 []) ?_
  rintro WX _ ⟨v3,v4,WY,h,rfl⟩
  obtain ⟨Tc,e9,h⟩:=aQ h;rw [jt] at h
  refine QW.seq ?_
  refine sR ?_
  refine xm 27 (pI v4) ?_
  refine xS 28 (aL TT.fY ?_)
  refine xS 29 (aA (.slice ((x0.fL).map aM)) TT.kY ?_)
  refine xS 30 (cX aM x0.fL TT.m9 ?_)
  refine xT 31 (cM v4 ((x0.fL).length:Int) ?_)
  refine cT (decide (v4<((x0.fL).length:Int))) (fun og=>?_) (fun og=>?_)
  ·replace h:=ej h og
   refine sk ?_
   refine QW.seq ?_
   refine QW.block ?_
   refine rG ?_
   refine xm 34 (pS v3) ?_
   refine xS 35 (aL TT.fY ?_)
   refine xS 36 (aA (.slice ((x0.fL).map aM)) TT.kY ?_)
   refine xm 37 (pI v4) ?_
   obtain ⟨r5,h⟩:=gG h
   refine xS 38 (bX x0.fL v4 TT.qa gR r5 ?_)
   refine xS 39 (aA (.agg (ct (idx (x0.fL) v4))) TT.bB ?_ (h:=by exact ⟨by simp [ct],rfl⟩))
   obtain ⟨x_10,wW,h⟩:=bG h
   refine xS 40 (az (dZ (idx (x0.fL) v4) _ wW) ?_)
   obtain ⟨kP,h⟩:=gG h
   refine xS 41 (lZ v3 x_10 kP ?_)
   refine xa 3 (pS (v3++x_10)) ?_
   refine XK.nil (iS (cn ?_))
   refine rG ?_
   refine xm 32 (pI v4) ?_
   obtain ⟨nU,h⟩:=gG h
   refine xS 33 (bE v4 (1:Int) nU ?_)
   refine xz 4 (pI (v4+(1:Int))) ?_
   exact lb Tc ⟨(v3++x_10),(v4+(1:Int)),by omega,jG h,rfl⟩ (vM 0 [])
  ·replace h:=ek h og
   refine QW.exit zL (eP (eP (kW (cn ?_))))
   refine sR ?_
   refine xm 42 (pS v3) ?_
   refine xS 43 (eU v3 TT.bh ?_)
   obtain ⟨x_14,Dx,h⟩:=bG h
   refine xS 44 (az (vw (v3.length:Int) true _ Dx) ?_)
   refine xm 45 (pS v3) ?_
   obtain ⟨q8,h⟩:=gG h
   refine xS 46 (lZ x_14 v3 q8 ?_)
   refine xz 2 (pS (x_14++v3)) ?_
   refine QW.ret zL ?_
   obtain rfl:=sG h
   exact eO
noncomputable def ou:Nat→Item→Option (List UInt8)
 | 0=>fun _=>none
 | n+1=>fun y0=>yz (ou n) y0
theorem Aw:∀ (n:Nat) (y0:Item) (rr:(List UInt8)),ou n y0=some rr→cD Tryz.prog 70 [.agg (ct y0)] (.val (sV rr))
 | 0,_,_,h=>by cases h
 | n+1,y0,rr,h=>Gt (ou n) (Aw n) y0 rr h
noncomputable def wo (y0:Item):Option (List UInt8):=vG (fun n=>ou n y0)
theorem Br (y0:Item) (rr:(List UInt8)) (h:wo y0=some rr):cD Tryz.prog 70 [.agg (ct y0)] (.val (sV rr)):=by
 obtain ⟨n,hn⟩:=n8 h
 exact Aw n y0 rr hn
noncomputable def mD (s0:(List UInt8)):Option (List UInt8):=
  ((wo (⟨false,s0,([]:(List Item))⟩:Item)).bind fun (x_1:(List UInt8))=>
  some x_1)
theorem rM (s0:(List UInt8)) (r:(List UInt8)) (h:mD s0=some r):cD Tryz.prog 59 [.val (sV s0)] (.val (sV r)):=by
 refine fQ Tryz.func59 Tryz.ntmps59 TT.V7 ?_
 unfold mD at h
 refine sR ?_
 refine xz 2 (pS ([]:List UInt8)) ?_
 refine sR ?_
 refine xm 3 (pS s0) ?_
 refine xS 4 (dX (.agg [pB false,pS s0, .full (([]:(List Item)).map aM)]) rfl TT.q6 (cI rfl (bY (cells':=[pB false,pS s0, .full (([]:(List Item)).map aM)]) rfl rfl rfl bL rfl cH)) ?_)
 obtain ⟨x_1,fk,h⟩:=bO h
 refine xS 5 (az (Br (⟨false,s0,([]:(List Item))⟩:Item) _ fk) ?_)
 refine xz 2 (pS x_1) ?_
 refine QW.ret zL ?_
 obtain rfl:=sO h
 exact eO
noncomputable def k7 (s0:(List UInt8)):Option (List UInt8):=
  (bif ((s0==([]:List UInt8))||(decide ((s0.length:Int)=(32:Int)))) then
  ((mD s0).bind fun (x_2:(List UInt8))=>
  some x_2)
  else
  some s0)
theorem Bs (s0:(List UInt8)) (r:(List UInt8)) (h:k7 s0=some r):cD Tryz.prog 61 [.val (sV s0)] (.val (sV r)):=by
 refine fQ Tryz.func61 Tryz.ntmps61 TT.V8 ?_
 unfold k7 at h
 refine sR ?_
 refine xz 2 (pS ([]:List UInt8)) ?_
 refine QW.seq ?_
 refine sR ?_
 refine xm 3 (pS s0) ?_
 refine xS 4 (jW s0 ([]:List UInt8) ?_)
 refine xm 5 (pB (s0==([]:List UInt8))) ?_
 refine xg 6 (pS s0) rfl rfl (fun hg=>ax (pS s0) g3) ?_
 refine xg 7 (pI (s0.length:Int)) rfl rfl (fun hg=>eU s0 TT.bh g3) ?_
 refine xg 8 (pB (decide ((s0.length:Int)=(32:Int)))) rfl rfl (fun hg=>dj (s0.length:Int) (32:Int) g3) ?_
 refine xT 9 (fh ?_)
 refine cT ((s0==([]:List UInt8))||(decide ((s0.length:Int)=(32:Int)))) (fun c8=>?_) (fun c8=>?_)
 ·replace h:=bT h c8
  refine sR ?_
  refine xm 10 (pS s0) ?_
  obtain ⟨x_2,nS,h⟩:=bO h
  refine xS 11 (az (rM s0 _ nS) ?_)
  refine xz 2 (pS x_2) ?_
  refine QW.ret zL (dc ?_)
  obtain rfl:=sO h
  exact eO
 ·replace h:=bF h c8
  refine sk ?_
  refine sR ?_
  refine xm 12 (pS s0) ?_
  refine xz 2 (pS s0) ?_
  refine QW.ret zL ?_
  obtain rfl:=sO h
  exact eO
inductive z2 where
 | S
 | L4 (tY:(List UInt8)) (qN:Int)
 | J3 (x9:(List UInt8))
noncomputable def cR (n0:Node):z2→Option (z2⊕(List UInt8))
 | .S=>
  (((bif (decide ((n0.aG)=(1:Int))) then
  ((mC (n0.av) true).bind fun (x_2:(List UInt8))=>
  ((mD x_2).bind fun (x_4:(List UInt8))=>
  ((mD (n0.aq)).bind fun (x_6:(List UInt8))=>
  gO (x_4.length+x_6.length≤9223372036854775807) (
  some (x_4++x_6)))))
  else
  some ([]:List UInt8)):Option (List UInt8)).bind fun (v3:(List UInt8))=>
  (((bif (decide ((n0.aG)=(2:Int))) then
  ((mC (n0.av) false).bind fun (x_10:(List UInt8))=>
  ((mD x_10).bind fun (x_12:(List UInt8))=>
  ((k7 (idx (n0.aC).1 (0:Int))).bind fun (x_14:(List UInt8))=>
  gO (x_12.length+x_14.length≤9223372036854775807) (
  some (x_12++x_14)))))
  else
  some v3):Option (List UInt8)).bind fun (lM:(List UInt8))=>
  (bif (decide ((n0.aG)=(3:Int))) then
  some (.inl (.L4 lM (0)))
  else
  some (.inl (.J3 lM)))))
 | .L4 tY qN=>
  (bif (decide (qN<(16:Int))) then
  gO (0≤qN∧qN<((16:Nat):Int)) (
  ((k7 (idx (n0.aC).1 qN)).bind fun (x_21:(List UInt8))=>
  gO (tY.length+x_21.length≤9223372036854775807) (
  gO (bf (qN+(1:Int))) (
  some (.inl (.L4 (tY++x_21) (qN+(1:Int))))))))
  else
  gO (tY.length+([128]:List UInt8).length≤9223372036854775807) (
  some (.inl (.J3 (tY++([128]:List UInt8))))))
 | .J3 x9=>
  ((nO (x9.length:Int) true).bind fun (y3:(List UInt8))=>
  gO (y3.length+x9.length≤9223372036854775807) (
  some (.inr (y3++x9))))
noncomputable def mc (n0:Node):Option (List UInt8):=gJ (cR n0) .S
theorem Bt (n0:Node) (r:(List UInt8)) (h:mc n0=some r):cD Tryz.prog 33 [.agg (cNode n0)] (.val (sV r)):=by
 refine fQ Tryz.func33 Tryz.ntmps33 TT.V0 ?_
 obtain ⟨_,h⟩:=cP h
 obtain ⟨dm,e9,h⟩:=aQ h;rw [cR] at h
 refine sR ?_
 refine XK.fz (some 1) rfl rfl (eE (cNode n0) rfl rfl rfl rfl bK ?_)
 refine xz 2 (pS ([]:List UInt8)) ?_
 refine sR ?_
 refine xz 3 (pS ([]:List UInt8)) ?_
 obtain ⟨v3,hq,h⟩:=bG h
 refine QW.s6 (fun s'=>s'=⟨bW [(1, .d (.cF (cNode n0))),(3,pS v3)],aK [],0,[]⟩) ?_ ?_
 ·replace h:=hq;clear hq
  refine sR ?_
  refine xS 5 (aL TT.iV ?_)
  refine xS 6 (aA (.val (.int .i64 (n0.aG))) TT.jl ?_ (h:=jN _))
  refine xT 7 (dj (n0.aG) (1:Int) ?_)
  refine cT (decide ((n0.aG)=(1:Int))) (fun c8=>?_) (fun c8=>?_)
  ·replace h:=bT h c8
   refine QW.region zL (PW.nj (id:=3) dG (M:=_) rfl (by kernel_rfl) ?_)
   refine qS 8 (aL TT.j5 (q2 ?_))
   refine qS 9 (aA (.slice ((n0.av).map aa)) TT.fJ (q2 ?_) (h:=ja _))
   obtain ⟨x_2,nS,h⟩:=bO h
   refine qS 10 (az (vu (n0.av) true _ nS) (q2 ?_))
   obtain ⟨x_4,mQ,h⟩:=bO h
   refine qS 11 (az (rM x_2 _ mQ) (q2 ?_))
   refine qS 12 (aL TT.kH (q2 ?_))
   refine qS 13 (aA (.val (sV (n0.aq))) TT.eG (q2 ?_) (h:=jO _))
   obtain ⟨x_6,u6,h⟩:=bO h
   refine qS 14 (az (rM (n0.aq) _ u6) (q2 ?_))
   obtain ⟨uq,h⟩:=bq h
   refine qS 15 (lZ x_4 x_6 uq (q2 ?_))
   refine qS 3 (cj (pS (x_4++x_6)) (q2 ?_))
   refine RQ.nil (cn ?_)
   obtain rfl:=sO h
   exact jb rfl (vM 0 [])
  ·replace h:=bF h c8
   refine sk ?_
   obtain rfl:=sO h
   exact jb rfl (vM 0 [])
 ·rintro _ rfl
  obtain ⟨lM,hq,h⟩:=bG h
  refine QW.s6 (fun s'=>s'=⟨bW [(1, .d (.cF (cNode n0))),(3,pS lM)],aK [],0,[]⟩) ?_ ?_
  ·replace h:=hq;clear hq
   refine sR ?_
   refine xS 16 (aL TT.iV ?_)
   refine xS 17 (aA (.val (.int .i64 (n0.aG))) TT.jl ?_ (h:=jN _))
   refine xT 18 (dj (n0.aG) (2:Int) ?_)
   refine cT (decide ((n0.aG)=(2:Int))) (fun oe=>?_) (fun oe=>?_)
   ·replace h:=bT h oe
    refine QW.region zL (PW.nj (id:=5) dG (M:=_) rfl (by kernel_rfl) ?_)
    refine qS 19 (aL TT.j5 (q2 ?_))
    refine qS 20 (aA (.slice ((n0.av).map aa)) TT.fJ (q2 ?_) (h:=ja _))
    obtain ⟨x_10,wW,h⟩:=bO h
    refine qS 21 (az (vu (n0.av) false _ wW) (q2 ?_))
    obtain ⟨x_12,tg,h⟩:=bO h
    refine qS 22 (az (rM x_10 _ tg) (q2 ?_))
    refine qS 23 (aL TT.iW (q2 ?_))
    refine qS 24 (lg (0:Int) TT.mR (q2 ?_))
    refine qS 25 (aA (.val (sV (idx (n0.aC).1 (0:Int)))) TT.eG (q2 ?_) (h:=by exact nq (nu _) (by decide)))
    obtain ⟨x_14,Dx,h⟩:=bO h
    refine qS 26 (az (Bs (idx (n0.aC).1 (0:Int)) _ Dx) (q2 ?_))
    obtain ⟨q8,h⟩:=bq h
    refine qS 27 (lZ x_12 x_14 q8 (q2 ?_))
    refine qS 3 (cj (pS (x_12++x_14)) (q2 ?_))
    refine RQ.nil (cn ?_)
    obtain rfl:=sO h
    exact jb rfl (vM 0 [])
   ·replace h:=bF h oe
    refine sk ?_
    obtain rfl:=sO h
    exact jb rfl (vM 0 [])
  ·rintro _ rfl
   refine QW.s6 (fun s'=>∃ x9:(List UInt8),∃ k:Nat,k≤dm∧run (cR n0) k (.J3 x9)=some r∧s'=⟨bW [(3,pS x9)],aK [],0,[]⟩) ?_ ?_
   ·refine sR ?_
    refine xS 28 (aL TT.iV ?_)
    refine xS 29 (aA (.val (.int .i64 (n0.aG))) TT.jl ?_ (h:=jN _))
    refine xT 30 (dj (n0.aG) (3:Int) ?_)
    refine cT (decide ((n0.aG)=(3:Int))) (fun wR=>?_) (fun wR=>?_)
    ·replace h:=ej h wR
     refine QW.seq ?_
     refine sR ?_
     refine xz 4 (pI (0)) ?_
     refine QW.block ?_
     refine lp (fun k σ=>∃ tY:(List UInt8),∃ qN:Int,k≤dm∧run (cR n0) k (.L4 tY qN)=some r∧σ=⟨bW [(1, .d (.cF (cNode n0))),(3,pS tY),(4,pI qN)],aK [],0,[]⟩) dm ⟨lM,0,Nat.le_refl _,jG h,rfl⟩ (vM 0 []) ?_
     rintro aa8 _ ⟨tY,qN,aa9,h,rfl⟩
     obtain ⟨WZ,e9,h⟩:=aQ h;rw [cR] at h
     refine QW.seq ?_
     refine sR ?_
     refine xm 31 (pI qN) ?_
     refine xT 32 (cM qN (16:Int) ?_)
     refine cT (decide (qN<(16:Int))) (fun wU=>?_) (fun wU=>?_)
     ·replace h:=ej h wU
      refine sk ?_
      refine QW.seq ?_
      refine QW.block ?_
      refine rG ?_
      refine xm 35 (pS tY) ?_
      refine xm 36 (pI qN) ?_
      refine xS 37 (aL TT.iW ?_)
      obtain ⟨qK,h⟩:=gG h
      refine xS 38 (lg qN TT.mR ?_ (h:=qK))
      refine xS 39 (aA (.val (sV (idx (n0.aC).1 qN))) TT.eG ?_ (h:=nq (nu _) qK))
      obtain ⟨x_21,H9,h⟩:=bG h
      refine xS 40 (az (Bs (idx (n0.aC).1 qN) _ H9) ?_)
      obtain ⟨HQ,h⟩:=gG h
      refine xS 41 (lZ tY x_21 HQ ?_)
      refine xa 3 (pS (tY++x_21)) ?_
      refine XK.nil (iS (cn ?_))
      refine rG ?_
      refine xm 33 (pI qN) ?_
      obtain ⟨vI,h⟩:=gG h
      refine xS 34 (bE qN (1:Int) vI ?_)
      refine xz 4 (pI (qN+(1:Int))) ?_
      exact lb WZ ⟨(tY++x_21),(qN+(1:Int)),by omega,jG h,rfl⟩ (vM 0 [])
     ·replace h:=ek h wU
      refine QW.exit zL (eP (eP (kW (cn ?_))))
      refine rG ?_
      refine xm 42 (pS tY) ?_
      obtain ⟨HR,h⟩:=gG h
      refine xS 43 (lZ tY ([128]:List UInt8) HR ?_)
      refine xz 3 (pS (tY++([128]:List UInt8))) ?_
      exact ⟨⟨bW [(3,pS (tY++([128]:List UInt8)))],aK [],0,[]⟩,vM 0 [],(tY++([128]:List UInt8)),WZ,by omega,jG h,rfl⟩
    ·replace h:=ek h wR
     refine sk ?_
     exact ⟨⟨bW [(3,pS lM)],aK [],0,[]⟩,vM 0 [],lM,dm,by omega,jG h,rfl⟩
   ·rintro _ ⟨x9,aba,abb,h,rfl⟩
    obtain ⟨abR,e9,h⟩:=aQ h;rw [cR] at h
    refine sR ?_
    refine xm 44 (pS x9) ?_
    refine xS 45 (eU x9 TT.bh ?_)
    obtain ⟨y3,zH,h⟩:=bG h
    refine xS 46 (az (vw (x9.length:Int) true _ zH) ?_)
    refine xm 47 (pS x9) ?_
    obtain ⟨q7,h⟩:=gG h
    refine xS 48 (lZ y3 x9 q7 ?_)
    refine xz 2 (pS (y3++x9)) ?_
    refine QW.ret zL ?_
    obtain rfl:=sG h
    exact eO
inductive CQ where
 | S
 | L2 (me:Int) (lS:Int)
 | J1 (fC:Int) (fD:Int)
 | L3 (o6:Int) (tC:Int) (tD:Int) (lT:(List UInt8)) (pL:(List Item))
noncomputable def bn (self:(List UInt8)→Int→Int→Option (Item×Int×Int×Int)) (s0:(List UInt8)) (gm:Int) (jR:Int):CQ→Option (CQ⊕(Item×Int×Int×Int))
 | .S=>
  (bif (decide ((64:Int)<gm)) then
  some (.inr ((⟨false,([]:List UInt8),([]:(List Item))⟩:Item),0,0,17))
  else
  (bif (decide (jR<(1:Int))) then
  some (.inr ((⟨false,([]:List UInt8),([]:(List Item))⟩:Item),0,0,4))
  else
  gO (bf (jR-(1:Int))) (
  (bif (s0==([]:List UInt8)) then
  some (.inr ((⟨false,([]:List UInt8),([]:(List Item))⟩:Item),0,0,5))
  else
  gO (0≤(0:Int)∧(0:Int)<(s0.length:Int)) (
  (bif (decide (((idx s0 (0:Int)).toNat:Int)<(128:Int))) then
  gO (0≤(0:Int)∧(0:Int)≤(1:Int)∧(1:Int)≤(s0.length:Int)) (
  some (.inr ((⟨false,(sub s0 (0:Int) (1:Int)),([]:(List Item))⟩:Item),1,(jR-(1:Int)),0)))
  else
  (bif (decide ((55:Int)<(((idx s0 (0:Int)).toNat:Int).tmod (64:Int)))) then
  gO (bf ((((idx s0 (0:Int)).toNat:Int).tmod (64:Int))-(55:Int))) (
  gO (bf ((1:Int)+((((idx s0 (0:Int)).toNat:Int).tmod (64:Int))-(55:Int)))) (
  (bif (decide ((s0.length:Int)<((1:Int)+((((idx s0 (0:Int)).toNat:Int).tmod (64:Int))-(55:Int))))) then
  some (.inr ((⟨false,([]:List UInt8),([]:(List Item))⟩:Item),0,0,5))
  else
  gO (0≤(1:Int)∧(1:Int)<(s0.length:Int)) (
  (bif (decide (((idx s0 (1:Int)).toNat:Int)=(0:Int))) then
  some (.inr ((⟨false,([]:List UInt8),([]:(List Item))⟩:Item),0,0,6))
  else
  some (.inl (.L2 (0) (1))))))))
  else
  some (.inl (.J1 (((idx s0 (0:Int)).toNat:Int).tmod (64:Int)) (1))))))))))
 | .L2 me lS=>
  (bif (decide (lS≤((((idx s0 (0:Int)).toNat:Int).tmod (64:Int))-(55:Int)))) then
  (bif (decide ((4294967296:Int)≤me)) then
  some (.inr ((⟨false,([]:List UInt8),([]:(List Item))⟩:Item),0,0,5))
  else
  gO (bf ((256:Int)*me)) (
  gO (0≤lS∧lS<(s0.length:Int)) (
  gO (bf (((256:Int)*me)+((idx s0 lS).toNat:Int))) (
  gO (bf (lS+(1:Int))) (
  some (.inl (.L2 (((256:Int)*me)+((idx s0 lS).toNat:Int)) (lS+(1:Int)))))))))
  else
  (bif (decide (me<(56:Int))) then
  some (.inr ((⟨false,([]:List UInt8),([]:(List Item))⟩:Item),0,0,6))
  else
  gO (bf ((1:Int)+((((idx s0 (0:Int)).toNat:Int).tmod (64:Int))-(55:Int)))) (
  some (.inl (.J1 me ((1:Int)+((((idx s0 (0:Int)).toNat:Int).tmod (64:Int))-(55:Int))))))))
 | .J1 fC fD=>
  gO (bf ((s0.length:Int)-fD)) (
  (bif (decide (((s0.length:Int)-fD)<fC)) then
  some (.inr ((⟨false,([]:List UInt8),([]:(List Item))⟩:Item),0,0,5))
  else
  gO (bf (fD+fC)) (
  gO (0≤fD∧fD≤(fD+fC)∧(fD+fC)≤(s0.length:Int)) (
  (bif (!(decide ((192:Int)≤((idx s0 (0:Int)).toNat:Int)))) then
  gO ((decide (fC=(1:Int)))=true→0≤(0:Int)∧(0:Int)<((sub s0 fD (fD+fC)).length:Int)) (
  (bif ((decide (fC=(1:Int)))&&(decide (((idx (sub s0 fD (fD+fC)) (0:Int)).toNat:Int)<(128:Int)))) then
  some (.inr ((⟨false,([]:List UInt8),([]:(List Item))⟩:Item),0,0,6))
  else
  gO (bf (fD+fC)) (
  some (.inr ((⟨false,(sub s0 fD (fD+fC)),([]:(List Item))⟩:Item),(fD+fC),(jR-(1:Int)),0)))))
  else
  some (.inl (.L3 (jR-(1:Int)) fC fD (sub s0 fD (fD+fC)) ([]:(List Item)))))))))
 | .L3 o6 tC tD lT pL=>
  (bif (!(lT==([]:List UInt8))) then
  gO (bf (gm+(1:Int))) (
  ((self lT (gm+(1:Int)) o6).bind fun (gM:(Item×Int×Int×Int))=>
  (bif (!decide ((gM.2.2.2)=(0:Int))) then
  some (.inr ((⟨false,([]:List UInt8),([]:(List Item))⟩:Item),0,0,gM.2.2.2))
  else
  gO ((pL.length+([gM.1]:List Item).length)*48≤140737488355328) (
  gO (0≤(gM.2.1)∧(gM.2.1)≤(lT.length:Int)∧(lT.length:Int)≤(lT.length:Int)) (
  some (.inl (.L3 (gM.2.2.1) tC tD (sub lT (gM.2.1) (lT.length:Int)) (pL++([gM.1]:List Item)))))))))
  else
  gO (bf (tD+tC)) (
  some (.inr ((⟨true,([]:List UInt8),pL⟩:Item),(tD+tC),o6,0))))
noncomputable def Bu (self:(List UInt8)→Int→Int→Option (Item×Int×Int×Int)) (s0:(List UInt8)) (gm:Int) (jR:Int):Option (Item×Int×Int×Int):=gJ (bn self s0 gm jR) .S
theorem Fg (self:(List UInt8)→Int→Int→Option (Item×Int×Int×Int)) (dZ:∀ (y0:(List UInt8)) (y1:Int) (y2:Int) (rr:(Item×Int×Int×Int)),self y0 y1 y2=some rr→cD Tryz.prog 37 [.val (sV y0), .val (.int .i64 y1), .val (.int .i64 y2)] (.tuple [.agg (ct (rr.1)), .val (.int .i64 (rr.2.1)), .val (.int .i64 (rr.2.2.1)), .val (.int .i64 (rr.2.2.2))])) (s0:(List UInt8)) (gm:Int) (jR:Int) (r:(Item×Int×Int×Int)) (h:Bu self s0 gm jR=some r):cD Tryz.prog 37 [.val (sV s0), .val (.int .i64 gm), .val (.int .i64 jR)] (.tuple [.agg (ct (r.1)), .val (.int .i64 (r.2.1)), .val (.int .i64 (r.2.2.1)), .val (.int .i64 (r.2.2.2))]):=by
 refine fQ Tryz.func37 Tryz.ntmps37 TT.V1 ?_
 obtain ⟨_,h⟩:=cP h
 obtain ⟨dm,e9,h⟩:=aQ h;rw [bn] at h
 refine sR ?_
 refine xS 6 (bl [pB false,pS ([]:List UInt8), .full (([]:(List Item)).map aM)] TT.jL ?_)
 refine xa 7 (pI (0)) ?_
 refine xa 8 (pI (0)) ?_
 refine xz 9 (pI (0)) ?_
 refine sR ?_
 refine xS 23 (dX (.agg [pB false,pS ([]:List UInt8), .full (([]:(List Item)).map aM)]) rfl TT.q6 (cI rfl cH) ?_)
 refine xS 10 (bl [pB false,pS ([]:List UInt8), .full (([]:(List Item)).map aM)] TT.jL ?_)
 refine xN (aV [pB false,pS ([]:List UInt8), .full (([]:(List Item)).map aM)] TT.bB ?_)
 refine XK.nz ?_
 refine QW.seq ?_
 refine sR ?_
 refine xm 24 (pI gm) ?_
 refine xT 25 (kU gm (64:Int) ?_)
 refine cT (decide ((64:Int)<gm)) (fun c8=>?_) (fun c8=>?_)
 ·replace h:=ej h c8
  refine sR ?_
  refine xA 26 (aW (.agg [pB false,pS ([]:List UInt8), .full (([]:(List Item)).map aM)]) TT.bB ⟨.d (.agg (ct (⟨false,([]:List UInt8),([]:(List Item))⟩:Item))),(fX.cN rfl),?_⟩)
  refine xN (aV [pB false,pS ([]:List UInt8), .d (.slice (([]:(List Item)).map aM))] TT.bB ?_)
  refine xa 7 (pI (0)) ?_
  refine xa 8 (pI (0)) ?_
  refine xz 9 (pI (17)) ?_
  refine QW.ret zL (dc ?_)
  obtain rfl:=sG h
  exact Ends.more (.inr rfl) rfl (ps:=[.agg [pB false,pS ([]:List UInt8), .d (.slice (([]:(List Item)).map aM))],pI (0),pI (0),pI (17)]) (And.intro (aN.cell rfl rfl TT.bB ⟨⟨by simp,by simp⟩,rfl⟩) (And.intro (aN.tmp rfl) (And.intro (aN.tmp rfl) (And.intro (aN.tmp rfl) trivial)))) rfl rfl
 ·replace h:=ek h c8
  refine sk ?_
  refine QW.seq ?_
  refine sR ?_
  refine xm 27 (pI jR) ?_
  refine xT 28 (cM jR (1:Int) ?_)
  refine cT (decide (jR<(1:Int))) (fun cQ=>?_) (fun cQ=>?_)
  ·replace h:=ej h cQ
   refine sR ?_
   refine xA 29 (aW (.agg [pB false,pS ([]:List UInt8), .full (([]:(List Item)).map aM)]) TT.bB ⟨.d (.agg (ct (⟨false,([]:List UInt8),([]:(List Item))⟩:Item))),(fX.cN rfl),?_⟩)
   refine xN (aV [pB false,pS ([]:List UInt8), .d (.slice (([]:(List Item)).map aM))] TT.bB ?_)
   refine xa 7 (pI (0)) ?_
   refine xa 8 (pI (0)) ?_
   refine xz 9 (pI (4)) ?_
   refine QW.ret zL (dc ?_)
   obtain rfl:=sG h
   exact Ends.more (.inr rfl) rfl (ps:=[.agg [pB false,pS ([]:List UInt8), .d (.slice (([]:(List Item)).map aM))],pI (0),pI (0),pI (4)]) (And.intro (aN.cell rfl rfl TT.bB ⟨⟨by simp,by simp⟩,rfl⟩) (And.intro (aN.tmp rfl) (And.intro (aN.tmp rfl) (And.intro (aN.tmp rfl) trivial)))) rfl rfl
  ·replace h:=ek h cQ
   refine sk ?_
   refine sR ?_
   refine xm 30 (pI jR) ?_
   obtain ⟨eD,h⟩:=gG h
   refine xS 31 (mZ jR (1:Int) eD ?_)
   refine xz 2 (pI (jR-(1:Int))) ?_
   refine QW.seq ?_
   refine sR ?_
   refine xm 32 (pS s0) ?_
   refine xT 33 (jW s0 ([]:List UInt8) ?_)
   refine cT (s0==([]:List UInt8)) (fun fA=>?_) (fun fA=>?_)
   ·replace h:=ej h fA
    refine sR ?_
    refine xA 34 (aW (.agg [pB false,pS ([]:List UInt8), .full (([]:(List Item)).map aM)]) TT.bB ⟨.d (.agg (ct (⟨false,([]:List UInt8),([]:(List Item))⟩:Item))),(fX.cN rfl),?_⟩)
    refine xN (aV [pB false,pS ([]:List UInt8), .d (.slice (([]:(List Item)).map aM))] TT.bB ?_)
    refine xa 7 (pI (0)) ?_
    refine xa 8 (pI (0)) ?_
    refine xz 9 (pI (5)) ?_
    refine QW.ret zL (dc ?_)
    obtain rfl:=sG h
    exact Ends.more (.inr rfl) rfl (ps:=[.agg [pB false,pS ([]:List UInt8), .d (.slice (([]:(List Item)).map aM))],pI (0),pI (0),pI (5)]) (And.intro (aN.cell rfl rfl TT.bB ⟨⟨by simp,by simp⟩,rfl⟩) (And.intro (aN.tmp rfl) (And.intro (aN.tmp rfl) (And.intro (aN.tmp rfl) trivial)))) rfl rfl
   ·replace h:=ek h fA
    refine sk ?_
    refine sR ?_
    refine xm 35 (pS s0) ?_
    obtain ⟨nM,h⟩:=gG h
    refine xS 36 (g8 s0 (0:Int) TT.bh nM ?_)
    refine xS 37 (zE ((idx s0 (0:Int)).toNat:Int) TT.dw TT.kD ?_)
    refine xz 11 (pI ((idx s0 (0:Int)).toNat:Int)) ?_
    refine QW.seq ?_
    refine sR ?_
    refine xm 38 (pI ((idx s0 (0:Int)).toNat:Int)) ?_
    refine xT 39 (cM ((idx s0 (0:Int)).toNat:Int) (128:Int) ?_)
    refine cT (decide (((idx s0 (0:Int)).toNat:Int)<(128:Int))) (fun j4=>?_) (fun j4=>?_)
    ·replace h:=ej h j4
     refine sR ?_
     refine xm 40 (pS s0) ?_
     obtain ⟨pJ,h⟩:=gG h
     refine xS 41 (p6 s0 (0:Int) (1:Int) TT.bh pJ ?_)
     refine xS 42 (dX (.agg [pB false,pS (sub s0 (0:Int) (1:Int)), .full (([]:(List Item)).map aM)]) rfl TT.q6 (cI rfl (bY (cells':=[pB false,pS (sub s0 (0:Int) (1:Int)), .full (([]:(List Item)).map aM)]) rfl rfl rfl bL rfl cH)) ?_)
     refine xm 43 (pI (jR-(1:Int))) ?_
     refine xN (aV [pB false,pS (sub s0 (0:Int) (1:Int)), .full (([]:(List Item)).map aM)] TT.bB ?_)
     refine xa 7 (pI (1)) ?_
     refine xa 8 (pI (jR-(1:Int))) ?_
     refine xz 9 (pI (0)) ?_
     refine QW.ret zL (dc ?_)
     obtain rfl:=sG h
     exact Ends.more (.inr rfl) rfl (ps:=[.agg [pB false,pS (sub s0 (0:Int) (1:Int)), .full (([]:(List Item)).map aM)],pI (1),pI (jR-(1:Int)),pI (0)]) (And.intro (aN.cell rfl rfl TT.bB ⟨⟨by simp,by simp⟩,rfl⟩) (And.intro (aN.tmp rfl) (And.intro (aN.tmp rfl) (And.intro (aN.tmp rfl) trivial)))) rfl rfl
    ·replace h:=ek h j4
     refine sk ?_
     refine sR ?_
     refine xm 44 (pI ((idx s0 (0:Int)).toNat:Int)) ?_
     refine xS 45 (pO ((idx s0 (0:Int)).toNat:Int) (192:Int) ?_)
     refine xz 12 (pB (decide ((192:Int)≤((idx s0 (0:Int)).toNat:Int)))) ?_
     refine sR ?_
     refine xm 46 (pI ((idx s0 (0:Int)).toNat:Int)) ?_
     refine xS 47 (uH ((idx s0 (0:Int)).toNat:Int) (64:Int) ?_)
     refine xz 13 (pI (((idx s0 (0:Int)).toNat:Int).tmod (64:Int))) ?_
     refine sR ?_
     refine xz 14 (pI (1)) ?_
     refine QW.s6 (fun s'=>∃ fC:Int,∃ fD:Int,∃ k:Nat,k≤dm∧run (bn self s0 gm jR) k (.J1 fC fD)=some r∧s'=⟨bW [(0,pS s0),(1,pI gm),(2,pI (jR-(1:Int))),(6, .aR 0 0),(10, .aR 1 0),(12,pB (decide ((192:Int)≤((idx s0 (0:Int)).toNat:Int)))),(13,pI fC),(14,pI fD)],aK [.var [pB false,pS ([]:List UInt8), .full (([]:(List Item)).map aM)], .var [pB false,pS ([]:List UInt8), .full (([]:(List Item)).map aM)]],2,[]⟩) ?_ ?_
     ·refine sR ?_
      refine xm 48 (pI (((idx s0 (0:Int)).toNat:Int).tmod (64:Int))) ?_
      refine xT 49 (kU (((idx s0 (0:Int)).toNat:Int).tmod (64:Int)) (55:Int) ?_)
      refine cT (decide ((55:Int)<(((idx s0 (0:Int)).toNat:Int).tmod (64:Int)))) (fun og=>?_) (fun og=>?_)
      ·replace h:=ej h og
       refine sR ?_
       refine xm 50 (pI (((idx s0 (0:Int)).toNat:Int).tmod (64:Int))) ?_
       obtain ⟨r5,h⟩:=gG h
       refine xS 51 (mZ (((idx s0 (0:Int)).toNat:Int).tmod (64:Int)) (55:Int) r5 ?_)
       refine xz 15 (pI ((((idx s0 (0:Int)).toNat:Int).tmod (64:Int))-(55:Int))) ?_
       refine QW.seq ?_
       refine sR ?_
       refine xm 52 (pS s0) ?_
       refine xS 53 (eU s0 TT.bh ?_)
       refine xm 54 (pI ((((idx s0 (0:Int)).toNat:Int).tmod (64:Int))-(55:Int))) ?_
       obtain ⟨nT,h⟩:=gG h
       refine xS 55 (bE (1:Int) ((((idx s0 (0:Int)).toNat:Int).tmod (64:Int))-(55:Int)) nT ?_)
       refine xT 56 (cM (s0.length:Int) ((1:Int)+((((idx s0 (0:Int)).toNat:Int).tmod (64:Int))-(55:Int))) ?_)
       refine cT (decide ((s0.length:Int)<((1:Int)+((((idx s0 (0:Int)).toNat:Int).tmod (64:Int))-(55:Int))))) (fun kJ=>?_) (fun kJ=>?_)
       ·replace h:=ej h kJ
        refine sR ?_
        refine xA 57 (aW (.agg [pB false,pS ([]:List UInt8), .full (([]:(List Item)).map aM)]) TT.bB ⟨.d (.agg (ct (⟨false,([]:List UInt8),([]:(List Item))⟩:Item))),(fX.cN rfl),?_⟩)
        refine xN (aV [pB false,pS ([]:List UInt8), .d (.slice (([]:(List Item)).map aM))] TT.bB ?_)
        refine xa 7 (pI (0)) ?_
        refine xa 8 (pI (0)) ?_
        refine xz 9 (pI (5)) ?_
        refine QW.ret zL (dc (dc ?_))
        obtain rfl:=sG h
        exact Ends.more (.inr rfl) rfl (ps:=[.agg [pB false,pS ([]:List UInt8), .d (.slice (([]:(List Item)).map aM))],pI (0),pI (0),pI (5)]) (And.intro (aN.cell rfl rfl TT.bB ⟨⟨by simp,by simp⟩,rfl⟩) (And.intro (aN.tmp rfl) (And.intro (aN.tmp rfl) (And.intro (aN.tmp rfl) trivial)))) rfl rfl
       ·replace h:=ek h kJ
        refine sk ?_
        refine QW.seq ?_
        refine sR ?_
        refine xm 58 (pS s0) ?_
        obtain ⟨kP,h⟩:=gG h
        refine xS 59 (g8 s0 (1:Int) TT.bh kP ?_)
        refine xT 60 (dj ((idx s0 (1:Int)).toNat:Int) (0:Int) ?_)
        refine cT (decide (((idx s0 (1:Int)).toNat:Int)=(0:Int))) (fun Dg=>?_) (fun Dg=>?_)
        ·replace h:=ej h Dg
         refine sR ?_
         refine xA 61 (aW (.agg [pB false,pS ([]:List UInt8), .full (([]:(List Item)).map aM)]) TT.bB ⟨.d (.agg (ct (⟨false,([]:List UInt8),([]:(List Item))⟩:Item))),(fX.cN rfl),?_⟩)
         refine xN (aV [pB false,pS ([]:List UInt8), .d (.slice (([]:(List Item)).map aM))] TT.bB ?_)
         refine xa 7 (pI (0)) ?_
         refine xa 8 (pI (0)) ?_
         refine xz 9 (pI (6)) ?_
         refine QW.ret zL (dc (dc ?_))
         obtain rfl:=sG h
         exact Ends.more (.inr rfl) rfl (ps:=[.agg [pB false,pS ([]:List UInt8), .d (.slice (([]:(List Item)).map aM))],pI (0),pI (0),pI (6)]) (And.intro (aN.cell rfl rfl TT.bB ⟨⟨by simp,by simp⟩,rfl⟩) (And.intro (aN.tmp rfl) (And.intro (aN.tmp rfl) (And.intro (aN.tmp rfl) trivial)))) rfl rfl
        ·replace h:=ek h Dg
         refine sk ?_
         refine sR ?_
         refine xz 13 (pI (0)) ?_
         refine QW.seq ?_
         refine sR ?_
         refine xz 16 (pI (1)) ?_
         refine QW.block ?_
         refine lp (fun k σ=>∃ me:Int,∃ lS:Int,k≤dm∧run (bn self s0 gm jR) k (.L2 me lS)=some r∧σ=⟨bW [(0,pS s0),(1,pI gm),(2,pI (jR-(1:Int))),(6, .aR 0 0),(10, .aR 1 0),(12,pB (decide ((192:Int)≤((idx s0 (0:Int)).toNat:Int)))),(13,pI me),(15,pI ((((idx s0 (0:Int)).toNat:Int).tmod (64:Int))-(55:Int))),(16,pI lS)],aK [.var [pB false,pS ([]:List UInt8), .full (([]:(List Item)).map aM)], .var [pB false,pS ([]:List UInt8), .full (([]:(List Item)).map aM)]],2,[]⟩) dm ⟨0,1,Nat.le_refl _,jG h,rfl⟩ (vM 2 [0,1]) ?_
         rintro S9 _ ⟨me,lS,Ta,h,rfl⟩
         obtain ⟨Ia,e9,h⟩:=aQ h;rw [bn] at h
         refine QW.seq ?_
         refine sR ?_
         refine xm 62 (pI lS) ?_
         refine xm 63 (pI ((((idx s0 (0:Int)).toNat:Int).tmod (64:Int))-(55:Int))) ?_
         refine xT 64 (uI lS ((((idx s0 (0:Int)).toNat:Int).tmod (64:Int))-(55:Int)) ?_)
         refine cT (decide (lS≤((((idx s0 (0:Int)).toNat:Int).tmod (64:Int))-(55:Int)))) (fun r9=>?_) (fun r9=>?_)
         ·replace h:=ej h r9
          refine sk ?_
          refine QW.seq ?_
          refine QW.block ?_
          refine QW.seq ?_
          refine sR ?_
          refine xm 67 (pI me) ?_
          refine xT 68 (pO me (4294967296:Int) ?_)
          refine cT (decide ((4294967296:Int)≤me)) (fun OG=>?_) (fun OG=>?_)
          ·replace h:=ej h OG
           refine sR ?_
           refine xA 69 (aW (.agg [pB false,pS ([]:List UInt8), .full (([]:(List Item)).map aM)]) TT.bB ⟨.d (.agg (ct (⟨false,([]:List UInt8),([]:(List Item))⟩:Item))),(fX.cN rfl),?_⟩)
           refine xN (aV [pB false,pS ([]:List UInt8), .d (.slice (([]:(List Item)).map aM))] TT.bB ?_)
           refine xa 7 (pI (0)) ?_
           refine xa 8 (pI (0)) ?_
           refine xz 9 (pI (5)) ?_
           refine QW.ret zL (dc (nK (dc (dc (nK (dc (dc ?_)))))))
           obtain rfl:=sG h
           exact Ends.more (.inr rfl) rfl (ps:=[.agg [pB false,pS ([]:List UInt8), .d (.slice (([]:(List Item)).map aM))],pI (0),pI (0),pI (5)]) (And.intro (aN.cell rfl rfl TT.bB ⟨⟨by simp,by simp⟩,rfl⟩) (And.intro (aN.tmp rfl) (And.intro (aN.tmp rfl) (And.intro (aN.tmp rfl) trivial)))) rfl rfl
          ·replace h:=ek h OG
           refine sk ?_
           refine rG ?_
           refine xm 70 (pI me) ?_
           obtain ⟨oB,h⟩:=gG h
           refine xS 71 (zC (256:Int) me oB ?_)
           refine xm 72 (pS s0) ?_
           refine xm 73 (pI lS) ?_
           obtain ⟨qI,h⟩:=gG h
           refine xS 74 (g8 s0 lS TT.bh qI ?_)
           refine xS 75 (zE ((idx s0 lS).toNat:Int) TT.dw TT.kD ?_)
           obtain ⟨wY,h⟩:=gG h
           refine xS 76 (bE ((256:Int)*me) ((idx s0 lS).toNat:Int) wY ?_)
           refine xa 13 (pI (((256:Int)*me)+((idx s0 lS).toNat:Int))) ?_
           refine XK.nil (iS (cn ?_))
           refine rG ?_
           refine xm 65 (pI lS) ?_
           obtain ⟨qK,h⟩:=gG h
           refine xS 66 (bE lS (1:Int) qK ?_)
           refine xz 16 (pI (lS+(1:Int))) ?_
           exact lb Ia ⟨(((256:Int)*me)+((idx s0 lS).toNat:Int)),(lS+(1:Int)),by omega,jG h,rfl⟩ (vM 2 [0,1])
         ·replace h:=ek h r9
          refine QW.exit zL (eP (eP (kW (cn ?_))))
          refine QW.seq ?_
          refine sR ?_
          refine xm 77 (pI me) ?_
          refine xT 78 (cM me (56:Int) ?_)
          refine cT (decide (me<(56:Int))) (fun OH=>?_) (fun OH=>?_)
          ·replace h:=ej h OH
           refine sR ?_
           refine xA 79 (aW (.agg [pB false,pS ([]:List UInt8), .full (([]:(List Item)).map aM)]) TT.bB ⟨.d (.agg (ct (⟨false,([]:List UInt8),([]:(List Item))⟩:Item))),(fX.cN rfl),?_⟩)
           refine xN (aV [pB false,pS ([]:List UInt8), .d (.slice (([]:(List Item)).map aM))] TT.bB ?_)
           refine xa 7 (pI (0)) ?_
           refine xa 8 (pI (0)) ?_
           refine xz 9 (pI (6)) ?_
           refine QW.ret zL (dc (dc ?_))
           obtain rfl:=sG h
           exact Ends.more (.inr rfl) rfl (ps:=[.agg [pB false,pS ([]:List UInt8), .d (.slice (([]:(List Item)).map aM))],pI (0),pI (0),pI (6)]) (And.intro (aN.cell rfl rfl TT.bB ⟨⟨by simp,by simp⟩,rfl⟩) (And.intro (aN.tmp rfl) (And.intro (aN.tmp rfl) (And.intro (aN.tmp rfl) trivial)))) rfl rfl
          ·replace h:=ek h OH
           refine sk ?_
           refine rG ?_
           refine xm 80 (pI ((((idx s0 (0:Int)).toNat:Int).tmod (64:Int))-(55:Int))) ?_
           obtain ⟨MF,h⟩:=gG h
           refine xS 81 (bE (1:Int) ((((idx s0 (0:Int)).toNat:Int).tmod (64:Int))-(55:Int)) MF ?_)
           refine xz 14 (pI ((1:Int)+((((idx s0 (0:Int)).toNat:Int).tmod (64:Int))-(55:Int)))) ?_
           exact ⟨⟨bW [(0,pS s0),(1,pI gm),(2,pI (jR-(1:Int))),(6, .aR 0 0),(10, .aR 1 0),(12,pB (decide ((192:Int)≤((idx s0 (0:Int)).toNat:Int)))),(13,pI me),(14,pI ((1:Int)+((((idx s0 (0:Int)).toNat:Int).tmod (64:Int))-(55:Int))))],aK [.var [pB false,pS ([]:List UInt8), .full (([]:(List Item)).map aM)], .var [pB false,pS ([]:List UInt8), .full (([]:(List Item)).map aM)]],2,[]⟩,vM 2 [0,1],me,((1:Int)+((((idx s0 (0:Int)).toNat:Int).tmod (64:Int))-(55:Int))),Ia,by omega,jG h,rfl⟩
      ·replace h:=ek h og
       refine sk ?_
       exact ⟨⟨bW [(0,pS s0),(1,pI gm),(2,pI (jR-(1:Int))),(6, .aR 0 0),(10, .aR 1 0),(12,pB (decide ((192:Int)≤((idx s0 (0:Int)).toNat:Int)))),(13,pI (((idx s0 (0:Int)).toNat:Int).tmod (64:Int))),(14,pI (1))],aK [.var [pB false,pS ([]:List UInt8), .full (([]:(List Item)).map aM)], .var [pB false,pS ([]:List UInt8), .full (([]:(List Item)).map aM)]],2,[]⟩,vM 2 [0,1],(((idx s0 (0:Int)).toNat:Int).tmod (64:Int)),1,dm,by omega,jG h,rfl⟩
     ·rintro _ ⟨fC,fD,XF,XG,h,rfl⟩
      obtain ⟨PA,e9,h⟩:=aQ h;rw [bn] at h
      refine QW.seq ?_
      refine sR ?_
      refine xm 82 (pI fC) ?_
      refine xm 83 (pS s0) ?_
      refine xS 84 (eU s0 TT.bh ?_)
      refine xm 85 (pI fD) ?_
      obtain ⟨vI,h⟩:=gG h
      refine xS 86 (mZ (s0.length:Int) fD vI ?_)
      refine xT 87 (kU fC ((s0.length:Int)-fD) ?_)
      refine cT (decide (((s0.length:Int)-fD)<fC)) (fun Dm=>?_) (fun Dm=>?_)
      ·replace h:=ej h Dm
       refine sR ?_
       refine xA 88 (aW (.agg [pB false,pS ([]:List UInt8), .full (([]:(List Item)).map aM)]) TT.bB ⟨.d (.agg (ct (⟨false,([]:List UInt8),([]:(List Item))⟩:Item))),(fX.cN rfl),?_⟩)
       refine xN (aV [pB false,pS ([]:List UInt8), .d (.slice (([]:(List Item)).map aM))] TT.bB ?_)
       refine xa 7 (pI (0)) ?_
       refine xa 8 (pI (0)) ?_
       refine xz 9 (pI (5)) ?_
       refine QW.ret zL (dc ?_)
       obtain rfl:=sG h
       exact Ends.more (.inr rfl) rfl (ps:=[.agg [pB false,pS ([]:List UInt8), .d (.slice (([]:(List Item)).map aM))],pI (0),pI (0),pI (5)]) (And.intro (aN.cell rfl rfl TT.bB ⟨⟨by simp,by simp⟩,rfl⟩) (And.intro (aN.tmp rfl) (And.intro (aN.tmp rfl) (And.intro (aN.tmp rfl) trivial)))) rfl rfl
      ·replace h:=ek h Dm
       refine sk ?_
       refine sR ?_
       refine xm 89 (pS s0) ?_
       refine xm 90 (pI fD) ?_
       refine xm 91 (pI fD) ?_
       refine xm 92 (pI fC) ?_
       obtain ⟨Ee,h⟩:=gG h
       refine xS 93 (bE fD fC Ee ?_)
       obtain ⟨Tb,h⟩:=gG h
       refine xS 94 (p6 s0 fD (fD+fC) TT.bh Tb ?_)
       refine xz 17 (pS (sub s0 fD (fD+fC))) ?_
       refine QW.seq ?_
       refine sR ?_
       refine xm 95 (pB (decide ((192:Int)≤((idx s0 (0:Int)).toNat:Int)))) ?_
       refine xT 96 (kV ?_)
       refine cT (!(decide ((192:Int)≤((idx s0 (0:Int)).toNat:Int)))) (fun Dy=>?_) (fun Dy=>?_)
       ·replace h:=ej h Dy
        refine QW.seq ?_
        refine sR ?_
        refine xm 97 (pI fC) ?_
        refine xS 98 (dj fC (1:Int) ?_)
        refine xm 99 (pB (decide (fC=(1:Int)))) ?_
        refine xg 100 (pS (sub s0 fD (fD+fC))) rfl rfl (fun hg=>ax (pS (sub s0 fD (fD+fC))) g3) ?_
        obtain ⟨q7,h⟩:=gG h
        refine xg 101 (.d (.val (.int .u8 ((idx (sub s0 fD (fD+fC)) (0:Int)).toNat:Int)))) rfl rfl (fun hg=>g8 (sub s0 fD (fD+fC)) (0:Int) TT.bh (q7 (Hu hg)) g3) ?_
        refine xg 102 (pB (decide (((idx (sub s0 fD (fD+fC)) (0:Int)).toNat:Int)<(128:Int)))) rfl rfl (fun hg=>cM ((idx (sub s0 fD (fD+fC)) (0:Int)).toNat:Int) (128:Int) g3) ?_
        refine xT 103 (cO ?_)
        refine cT ((decide (fC=(1:Int)))&&(decide (((idx (sub s0 fD (fD+fC)) (0:Int)).toNat:Int)<(128:Int)))) (fun OI=>?_) (fun OI=>?_)
        ·replace h:=ej h OI
         refine sR ?_
         refine xA 104 (aW (.agg [pB false,pS ([]:List UInt8), .full (([]:(List Item)).map aM)]) TT.bB ⟨.d (.agg (ct (⟨false,([]:List UInt8),([]:(List Item))⟩:Item))),(fX.cN rfl),?_⟩)
         refine xN (aV [pB false,pS ([]:List UInt8), .d (.slice (([]:(List Item)).map aM))] TT.bB ?_)
         refine xa 7 (pI (0)) ?_
         refine xa 8 (pI (0)) ?_
         refine xz 9 (pI (6)) ?_
         refine QW.ret zL (dc (dc ?_))
         obtain rfl:=sG h
         exact Ends.more (.inr rfl) rfl (ps:=[.agg [pB false,pS ([]:List UInt8), .d (.slice (([]:(List Item)).map aM))],pI (0),pI (0),pI (6)]) (And.intro (aN.cell rfl rfl TT.bB ⟨⟨by simp,by simp⟩,rfl⟩) (And.intro (aN.tmp rfl) (And.intro (aN.tmp rfl) (And.intro (aN.tmp rfl) trivial)))) rfl rfl
        ·replace h:=ek h OI
         refine sk ?_
         refine sR ?_
         refine xm 105 (pS (sub s0 fD (fD+fC))) ?_
         refine xS 106 (dX (.agg [pB false,pS (sub s0 fD (fD+fC)), .full (([]:(List Item)).map aM)]) rfl TT.q6 (cI rfl (bY (cells':=[pB false,pS (sub s0 fD (fD+fC)), .full (([]:(List Item)).map aM)]) rfl rfl rfl bL rfl cH)) ?_)
         refine xm 107 (pI fD) ?_
         refine xm 108 (pI fC) ?_
         obtain ⟨HS,h⟩:=gG h
         refine xS 109 (bE fD fC HS ?_)
         refine xm 110 (pI (jR-(1:Int))) ?_
         refine xN (aV [pB false,pS (sub s0 fD (fD+fC)), .full (([]:(List Item)).map aM)] TT.bB ?_)
         refine xa 7 (pI (fD+fC)) ?_
         refine xa 8 (pI (jR-(1:Int))) ?_
         refine xz 9 (pI (0)) ?_
         refine QW.ret zL (dc ?_)
         obtain rfl:=sG h
         exact Ends.more (.inr rfl) rfl (ps:=[.agg [pB false,pS (sub s0 fD (fD+fC)), .full (([]:(List Item)).map aM)],pI (fD+fC),pI (jR-(1:Int)),pI (0)]) (And.intro (aN.cell rfl rfl TT.bB ⟨⟨by simp,by simp⟩,rfl⟩) (And.intro (aN.tmp rfl) (And.intro (aN.tmp rfl) (And.intro (aN.tmp rfl) trivial)))) rfl rfl
       ·replace h:=ek h Dy
        refine sk ?_
        refine sR ?_
        refine xS 111 (dX (.agg [pB true,pS ([]:List UInt8), .full (([]:(List Item)).map aM)]) rfl TT.q6 (cI rfl (bY (cells':=[pB true,pS ([]:List UInt8), .full (([]:(List Item)).map aM)]) rfl rfl rfl bL rfl cH)) ?_)
        refine xS 18 (bl [pB false,pS ([]:List UInt8), .full (([]:(List Item)).map aM)] TT.jL ?_)
        refine xN (aV [pB true,pS ([]:List UInt8), .full (([]:(List Item)).map aM)] TT.bB ?_)
        refine XK.nz ?_
        refine QW.seq ?_
        refine QW.block ?_
        refine lp (fun k σ=>∃ o6:Int,∃ tC:Int,∃ tD:Int,∃ lT:(List UInt8),∃ pL:(List Item),k≤PA∧run (bn self s0 gm jR) k (.L3 o6 tC tD lT pL)=some r∧σ=⟨bW [(1,pI gm),(2,pI o6),(6, .aR 0 0),(10, .aR 1 0),(13,pI tC),(14,pI tD),(17,pS lT),(18, .aR 2 0)],aK [.var [pB false,pS ([]:List UInt8), .full (([]:(List Item)).map aM)], .var [pB false,pS ([]:List UInt8), .full (([]:(List Item)).map aM)], .var [pB true,pS ([]:List UInt8), .own 3 (pL.map aM)], .spare 3 pL.length],4,[]⟩) PA ⟨(jR-(1:Int)),fC,fD,(sub s0 fD (fD+fC)),([]:(List Item)),Nat.le_refl _,jG h,rfl⟩ (View.trans (View.R6 2 2 3 rfl rfl zL) (vM 4 [0,1,2,3])) ?_
        rintro abc _ ⟨o6,tC,tD,lT,pL,abd,h,rfl⟩
        obtain ⟨ZI,e9,h⟩:=aQ h;rw [bn] at h
        refine QW.seq ?_
        refine sR ?_
        refine xm 112 (pS lT) ?_
        refine xT 113 (qq lT ([]:List UInt8) ?_)
        refine cT (!(lT==([]:List UInt8))) (fun OJ=>?_) (fun OJ=>?_)
        ·replace h:=ej h OJ
         refine sk ?_
         refine QW.block ?_
         refine sR ?_
         refine xm 115 (pS lT) ?_
         refine xm 116 (pI gm) ?_
         obtain ⟨CL,h⟩:=gG h
         refine xS 117 (bE gm (1:Int) CL ?_)
         refine xm 118 (pI o6) ?_
         obtain ⟨gM,Oq,h⟩:=bG h
         refine xS 119 (az (dZ lT (gm+(1:Int)) o6 _ Oq) ?_)
         refine xm 114 (.d (.tuple [.agg (ct (gM.1)), .val (.int .i64 (gM.2.1)), .val (.int .i64 (gM.2.2.1)), .val (.int .i64 (gM.2.2.2))])) ?_
         refine xS 120 (aY ?_)
         refine xS 121 (aY ?_)
         refine xS 122 (aY ?_)
         refine xS 123 (aY ?_)
         refine xS 19 (bl [pB false,pS ([]:List UInt8), .full (([]:(List Item)).map aM)] TT.jL ?_)
         refine xN (aV [pB ((gM.1).bQ),pS ((gM.1).fS), .d (.slice (((gM.1).fL).map aM))] TT.bB ?_)
         refine xa 20 (pI (gM.2.1)) ?_
         refine xa 21 (pI (gM.2.2.1)) ?_
         refine xz 22 (pI (gM.2.2.2)) ?_
         refine QW.seq ?_
         refine QW.seq ?_
         refine QW.view (s':=⟨bW [(1,pI gm),(6, .aR 0 0),(10, .aR 1 0),(13,pI tC),(14,pI tD),(17,pS lT),(18, .aR 2 0),(19, .aR 4 0),(20,pI (gM.2.1)),(21,pI (gM.2.2.1)),(22,pI (gM.2.2.2))],aK [.var [pB false,pS ([]:List UInt8), .full (([]:(List Item)).map aM)], .var [pB false,pS ([]:List UInt8), .full (([]:(List Item)).map aM)], .var [pB true,pS ([]:List UInt8), .own 3 (pL.map aM)], .spare 3 pL.length, .var [pB ((gM.1).bQ),pS ((gM.1).fS), .d (.slice (((gM.1).fL).map aM))]],5,[]⟩) (vM 5 [0,1,2,3,4]) zL ?_
         refine rG ?_
         refine xm 124 (pI (gM.2.2.2)) ?_
         refine xT 125 (mI (gM.2.2.2) (0:Int) ?_)
         refine cT (!decide ((gM.2.2.2)=(0:Int))) (fun OK=>?_) (fun OK=>?_)
         ·replace h:=ej h OK
          refine sR ?_
          refine xA 126 (aW (.agg [pB false,pS ([]:List UInt8), .full (([]:(List Item)).map aM)]) TT.bB ⟨.d (.agg (ct (⟨false,([]:List UInt8),([]:(List Item))⟩:Item))),(fX.cN rfl),?_⟩)
          refine xm 127 (pI (gM.2.2.2)) ?_
          refine xN (aV [pB false,pS ([]:List UInt8), .d (.slice (([]:(List Item)).map aM))] TT.bB ?_)
          refine xa 7 (pI (0)) ?_
          refine xa 8 (pI (0)) ?_
          refine xz 9 (pI (gM.2.2.2)) ?_
          refine QW.ret zL (dc (nK (dc (nK (dc ?_)))))
          obtain rfl:=sG h
          exact Ends.more (.inr rfl) rfl (ps:=[.agg [pB false,pS ([]:List UInt8), .d (.slice (([]:(List Item)).map aM))],pI (0),pI (0),pI (gM.2.2.2)]) (And.intro (aN.cell rfl rfl TT.bB ⟨⟨by simp,by simp⟩,rfl⟩) (And.intro (aN.tmp rfl) (And.intro (aN.tmp rfl) (And.intro (aN.tmp rfl) trivial)))) rfl rfl
         ·replace h:=ek h OK
          refine sk ?_
          refine sR ?_
          refine xS 128 (dF TT.fY ?_)
          refine xS 129 (aW (.own 3 (pL.map aM)) TT.kY ?_)
          refine xA 130 (aW (.agg [pB ((gM.1).bQ),pS ((gM.1).fS), .d (.slice (((gM.1).fL).map aM))]) TT.bB ⟨.d (.agg (ct (gM.1))),(fX.cN rfl),?_⟩)
          refine xS 131 (eA aM ([gM.1]:List Item) TT.p9 ?_ (hl:=gR) (hx:=by first | rfl | (simp only [List.map_cons,List.map_nil,uo];rfl)))
          obtain ⟨Tg,h⟩:=gG h
          refine xS 132 (kA aM pL ([gM.1]:List Item) TT.p9 TT.m9 Tg ?_ (hl:=gR))
          refine xS 133 (dF TT.fY ?_)
          refine xN (aV [pB true,pS ([]:List UInt8), .own 5 ((pL++([gM.1]:List Item)).map aM)] TT.kY ?_)
          refine XK.nz ?_
          refine sR ?_
          refine xm 134 (pI (gM.2.2.1)) ?_
          refine xz 2 (pI (gM.2.2.1)) ?_
          refine rG ?_
          refine xm 135 (pS lT) ?_
          refine xm 136 (pI (gM.2.1)) ?_
          obtain ⟨Th,h⟩:=gG h
          refine xS 137 (p6 lT (gM.2.1) (lT.length:Int) TT.bh Th ?_)
          refine xa 17 (pS (sub lT (gM.2.1) (lT.length:Int))) ?_
          refine XK.nil (iS (cn ?_))
          exact lb ZI ⟨gM.2.2.1,tC,tD,(sub lT (gM.2.1) (lT.length:Int)),(pL++([gM.1]:List Item)),by omega,jG h,rfl⟩ (vM 4 [0,1,2,5])
        ·replace h:=ek h OJ
         refine QW.exit zL (eP (eP (kW (cn ?_))))
         refine sR ?_
         refine xS 138 (aW (.agg [pB true,pS ([]:List UInt8), .own 3 (pL.map aM)]) TT.bB ?_)
         refine xm 139 (pI tD) ?_
         refine xm 140 (pI tC) ?_
         obtain ⟨Te,h⟩:=gG h
         refine xS 141 (bE tD tC Te ?_)
         refine xm 142 (pI o6) ?_
         refine xN (aV [pB true,pS ([]:List UInt8), .own 3 (pL.map aM)] TT.bB ?_)
         refine xa 7 (pI (tD+tC)) ?_
         refine xa 8 (pI o6) ?_
         refine xz 9 (pI (0)) ?_
         refine QW.ret zL ?_
         obtain rfl:=sG h
         exact Ends.more (.inr rfl) rfl (ps:=[.agg [pB true,pS ([]:List UInt8), .own 3 (pL.map aM)],pI (tD+tC),pI o6,pI (0)]) (And.intro (aN.cell rfl rfl TT.bB ⟨⟨by simp,by simp⟩,rfl⟩) (And.intro (aN.tmp rfl) (And.intro (aN.tmp rfl) (And.intro (aN.tmp rfl) trivial)))) rfl rfl
noncomputable def fu:Nat→(List UInt8)→Int→Int→Option (Item×Int×Int×Int)
 | 0=>fun _ _ _=>none
 | n+1=>fun y0 y1 y2=>Bu (fu n) y0 y1 y2
theorem y6:∀ (n:Nat) (y0:(List UInt8)) (y1:Int) (y2:Int) (rr:(Item×Int×Int×Int)),fu n y0 y1 y2=some rr→cD Tryz.prog 37 [.val (sV y0), .val (.int .i64 y1), .val (.int .i64 y2)] (.tuple [.agg (ct (rr.1)), .val (.int .i64 (rr.2.1)), .val (.int .i64 (rr.2.2.1)), .val (.int .i64 (rr.2.2.2))])
 | 0,_,_,_,_,h=>by cases h
 | n+1,y0,y1,y2,rr,h=>Fg (fu n) (y6 n) y0 y1 y2 rr h
noncomputable def k8 (y0:(List UInt8)) (y1:Int) (y2:Int):Option (Item×Int×Int×Int):=vG (fun n=>fu n y0 y1 y2)
theorem Gu (y0:(List UInt8)) (y1:Int) (y2:Int) (rr:(Item×Int×Int×Int)) (h:k8 y0 y1 y2=some rr):cD Tryz.prog 37 [.val (sV y0), .val (.int .i64 y1), .val (.int .i64 y2)] (.tuple [.agg (ct (rr.1)), .val (.int .i64 (rr.2.1)), .val (.int .i64 (rr.2.2.1)), .val (.int .i64 (rr.2.2.2))]):=by
 obtain ⟨n,hn⟩:=n8 h
 exact y6 n y0 y1 y2 rr hn
inductive CR where
 | S
 | L2 (dM:(List UInt8)) (v6:Int)
noncomputable def ij (s0:(List UInt8)):CR→Option (CR⊕((List UInt8)×Bool×Bool))
 | .S=>
  gO ((s0==([]:List UInt8))=false→0≤(0:Int)∧(0:Int)<(s0.length:Int)) (
  (bif ((s0==([]:List UInt8))||(decide ((64:Int)≤((idx s0 (0:Int)).toNat:Int)))) then
  some (.inr (([]:(List UInt8)),false,false))
  else
  ((gO (0≤(0:Int)∧(0:Int)<(s0.length:Int)) (
  (bif (decide (((((idx s0 (0:Int))/(16:UInt8))%(2:UInt8)).toNat:Int)=(1:Int))) then
  gO (0≤(0:Int)∧(0:Int)<(s0.length:Int)) (
  gO ((([]:(List UInt8)).length+([((idx s0 (0:Int))%(16:UInt8))]:List UInt8).length)*1≤140737488355328) (
  some (([]:(List UInt8))++([((idx s0 (0:Int))%(16:UInt8))]:List UInt8))))
  else
  some ([]:(List UInt8)))):Option (List UInt8)).bind fun (v5:(List UInt8))=>
  some (.inl (.L2 v5 (1))))))
 | .L2 dM v6=>
  (bif ((decide (v6<(s0.length:Int)))&&(decide (v6<(40:Int)))) then
  gO (0≤v6∧v6<(s0.length:Int)) (
  gO (0≤v6∧v6<(s0.length:Int)) (
  gO ((dM.length+([((idx s0 v6)/(16:UInt8)),((idx s0 v6)%(16:UInt8))]:List UInt8).length)*1≤140737488355328) (
  gO (bf (v6+(1:Int))) (
  some (.inl (.L2 (dM++([((idx s0 v6)/(16:UInt8)),((idx s0 v6)%(16:UInt8))]:List UInt8)) (v6+(1:Int))))))))
  else
  gO (0≤(0:Int)∧(0:Int)<(s0.length:Int)) (
  ((bif ((decide ((dM.length:Int)≤(64:Int)))==true) then mC dM (decide ((32:Int)≤((idx s0 (0:Int)).toNat:Int))) else some default).bind fun (x_14:(List UInt8))=>
  some (.inr (dM,(decide ((32:Int)≤((idx s0 (0:Int)).toNat:Int))),((decide ((dM.length:Int)≤(64:Int)))&&(x_14==s0)))))))
noncomputable def rA (s0:(List UInt8)):Option ((List UInt8)×Bool×Bool):=gJ (ij s0) .S
theorem Gv (s0:(List UInt8)) (r:((List UInt8)×Bool×Bool)) (h:rA s0=some r):cD Tryz.prog 38 [.val (sV s0)] (.tuple [.slice ((r.1).map aa), .val (.bool (r.2.1)), .val (.bool (r.2.2))]):=by
 refine fQ Tryz.func38 Tryz.ntmps38 TT.V4 ?_
 obtain ⟨_,h⟩:=cP h
 obtain ⟨dm,e9,h⟩:=aQ h;rw [ij] at h
 refine sR ?_
 refine xa 2 (.full (([]:(List UInt8)).map aa)) ?_
 refine xa 3 (pB false) ?_
 refine xz 4 (pB false) ?_
 refine QW.seq ?_
 refine sR ?_
 refine xm 8 (pS s0) ?_
 refine xS 9 (jW s0 ([]:List UInt8) ?_)
 refine xm 10 (pB (s0==([]:List UInt8))) ?_
 refine xg 11 (pS s0) rfl rfl (fun hg=>ax (pS s0) g3) ?_
 obtain ⟨oK,h⟩:=gG h
 refine xg 12 (.d (.val (.int .u8 ((idx s0 (0:Int)).toNat:Int)))) rfl rfl (fun hg=>g8 s0 (0:Int) TT.bh (oK (Hu hg)) g3) ?_
 refine xg 13 (pB (decide ((64:Int)≤((idx s0 (0:Int)).toNat:Int)))) rfl rfl (fun hg=>pO ((idx s0 (0:Int)).toNat:Int) (64:Int) g3) ?_
 refine xT 14 (fh ?_)
 refine cT ((s0==([]:List UInt8))||(decide ((64:Int)≤((idx s0 (0:Int)).toNat:Int)))) (fun cQ=>?_) (fun cQ=>?_)
 ·replace h:=ej h cQ
  refine sR ?_
  refine xa 2 (.full (([]:(List UInt8)).map aa)) ?_
  refine xa 3 (pB false) ?_
  refine xz 4 (pB false) ?_
  refine QW.ret zL (dc ?_)
  obtain rfl:=sG h
  exact Ends.more (.inr rfl) rfl (ps:=[.full (([]:(List UInt8)).map aa),pB false,pB false]) (And.intro (aN.tmp rfl) (And.intro (aN.tmp rfl) (And.intro (aN.tmp rfl) trivial))) rfl rfl
 ·replace h:=ek h cQ
  refine sk ?_
  refine sR ?_
  refine xz 5 (.full (([]:(List UInt8)).map aa)) ?_
  obtain ⟨v5,hq,h⟩:=bG h
  refine QW.s6 (fun s'=>s'=⟨bW [(0,pS s0),(5, .own 0 (v5.map aa))],aK [.spare 1 v5.length],1,[]⟩) ?_ ?_
  ·replace h:=hq;clear hq
   refine sR ?_
   refine xm 15 (pS s0) ?_
   obtain ⟨eD,h⟩:=bq h
   refine xS 16 (g8 s0 (0:Int) TT.bh eD ?_)
   refine xS 17 (JL (idx s0 (0:Int)) (16:UInt8) ?_)
   refine xS 18 (yO ((idx s0 (0:Int))/(16:UInt8)) (2:UInt8) ?_)
   refine xT 19 (dj ((((idx s0 (0:Int))/(16:UInt8))%(2:UInt8)).toNat:Int) (1:Int) ?_)
   refine cT (decide (((((idx s0 (0:Int))/(16:UInt8))%(2:UInt8)).toNat:Int)=(1:Int))) (fun fA=>?_) (fun fA=>?_)
   ·replace h:=bT h fA
    refine rG ?_
    refine xm 20 (.full (([]:(List UInt8)).map aa)) ?_
    refine xm 21 (pS s0) ?_
    obtain ⟨nM,h⟩:=bq h
    refine xS 22 (g8 s0 (0:Int) TT.bh nM ?_)
    refine xS 23 (yO (idx s0 (0:Int)) (16:UInt8) ?_)
    refine xS 24 (eA aa ([((idx s0 (0:Int))%(16:UInt8))]:List UInt8) TT.eV ?_)
    obtain ⟨oM,h⟩:=bq h
    refine xS 25 (D6 aa ([]:(List UInt8)) ([((idx s0 (0:Int))%(16:UInt8))]:List UInt8) TT.eV TT.bt fl ?_ (h:=by exact ⟨oM,fun _=>rfl⟩))
    refine xz 5 (.own 0 ((([]:(List UInt8))++([((idx s0 (0:Int))%(16:UInt8))]:List UInt8)).map aa)) ?_
    obtain rfl:=sO h
    exact jb rfl (vM 1 [0])
   ·replace h:=bF h fA
    refine sk ?_
    obtain rfl:=sO h
    exact jb rfl (View.trans (View.buf 5 1 rfl zL) (vM 1 [0]))
  ·rintro _ rfl
   refine QW.seq ?_
   refine sR ?_
   refine xz 6 (pI (1)) ?_
   refine QW.block ?_
   refine lp (fun k σ=>∃ dM:(List UInt8),∃ v6:Int,k≤dm∧run (ij s0) k (.L2 dM v6)=some r∧σ=⟨bW [(0,pS s0),(5, .own 0 (dM.map aa)),(6,pI v6)],aK [.spare 1 dM.length],1,[]⟩) dm ⟨v5,1,Nat.le_refl _,jG h,rfl⟩ (vM 1 [0]) ?_
   rintro WX _ ⟨dM,v6,WY,h,rfl⟩
   obtain ⟨Tc,e9,h⟩:=aQ h;rw [ij] at h
   refine QW.seq ?_
   refine sR ?_
   refine xm 26 (pI v6) ?_
   refine xm 27 (pS s0) ?_
   refine xS 28 (eU s0 TT.bh ?_)
   refine xS 29 (cM v6 (s0.length:Int) ?_)
   refine xm 30 (pB (decide (v6<(s0.length:Int)))) ?_
   refine xg 31 (pI v6) rfl rfl (fun hg=>ax (pI v6) g3) ?_
   refine xg 32 (pB (decide (v6<(40:Int)))) rfl rfl (fun hg=>cM v6 (40:Int) g3) ?_
   refine xT 33 (cO ?_)
   refine cT ((decide (v6<(s0.length:Int)))&&(decide (v6<(40:Int)))) (fun og=>?_) (fun og=>?_)
   ·replace h:=ej h og
    refine sk ?_
    refine QW.seq ?_
    refine QW.block ?_
    refine QW.region zL (PW.qX (id:=9) dG (M:=_) rfl (by kernel_rfl) ?_)
    refine kS 36 (ax (.own 0 (dM.map aa)) ?_)
    refine kS 37 (ax (pS s0) ?_)
    refine kS 38 (ax (pI v6) ?_)
    obtain ⟨r5,h⟩:=gG h
    refine kS 39 (g8 s0 v6 TT.bh r5 ?_)
    refine kS 40 (JL (idx s0 v6) (16:UInt8) ?_)
    refine kS 41 (ax (pS s0) ?_)
    refine kS 42 (ax (pI v6) ?_)
    obtain ⟨nT,h⟩:=gG h
    refine kS 43 (g8 s0 v6 TT.bh nT ?_)
    refine kS 44 (yO (idx s0 v6) (16:UInt8) ?_)
    refine kS 45 (eA aa ([((idx s0 v6)/(16:UInt8)),((idx s0 v6)%(16:UInt8))]:List UInt8) TT.eV ?_)
    obtain ⟨td,h⟩:=gG h
    refine kS 46 (kA aa dM ([((idx s0 v6)/(16:UInt8)),((idx s0 v6)%(16:UInt8))]:List UInt8) TT.eV TT.bt td ?_)
    refine kS 5 (cj (.own 1 ((dM++([((idx s0 v6)/(16:UInt8)),((idx s0 v6)%(16:UInt8))]:List UInt8)).map aa)) ?_)
    refine RK.nil ⟨fH.last 10 (by simp) (by simp) (by rfl),(iS (cn ?_))⟩
    refine rG ?_
    refine xm 34 (pI v6) ?_
    obtain ⟨kP,h⟩:=gG h
    refine xS 35 (bE v6 (1:Int) kP ?_)
    refine xz 6 (pI (v6+(1:Int))) ?_
    exact lb Tc ⟨(dM++([((idx s0 v6)/(16:UInt8)),((idx s0 v6)%(16:UInt8))]:List UInt8)),(v6+(1:Int)),by omega,jG h,rfl⟩ (vM 1 [1])
   ·replace h:=ek h og
    refine QW.exit zL (eP (eP (kW (cn ?_))))
    refine sR ?_
    refine xm 47 (pS s0) ?_
    obtain ⟨nU,h⟩:=gG h
    refine xS 48 (g8 s0 (0:Int) TT.bh nU ?_)
    refine xS 49 (pO ((idx s0 (0:Int)).toNat:Int) (32:Int) ?_)
    refine xz 7 (pB (decide ((32:Int)≤((idx s0 (0:Int)).toNat:Int)))) ?_
    refine sR ?_
    refine xm 50 (.own 0 (dM.map aa)) ?_
    refine xm 51 (pB (decide ((32:Int)≤((idx s0 (0:Int)).toNat:Int)))) ?_
    refine xm 52 (.own 0 (dM.map aa)) ?_
    refine xS 53 (cX aa dM TT.bt ?_)
    refine xS 54 (uI (dM.length:Int) (64:Int) ?_)
    refine xm 55 (pB (decide ((dM.length:Int)≤(64:Int)))) ?_
    refine xg 56 (.own 0 (dM.map aa)) rfl rfl (fun hg=>ax (.own 0 (dM.map aa)) g3) ?_
    refine xg 57 (pB (decide ((32:Int)≤((idx s0 (0:Int)).toNat:Int)))) rfl rfl (fun hg=>ax (pB (decide ((32:Int)≤((idx s0 (0:Int)).toNat:Int)))) g3) ?_
    obtain ⟨x_14,Dx,h⟩:=bG h
    refine xg 58 (pS x_14) rfl rfl (fun hg=>az (vu dM (decide ((32:Int)≤((idx s0 (0:Int)).toNat:Int))) _ (bT Dx hg)) g3) ?_
    refine xg 59 (pS s0) rfl rfl (fun hg=>ax (pS s0) g3) ?_
    refine xg 60 (pB (x_14==s0)) rfl rfl (fun hg=>jW x_14 s0 g3) ?_
    refine xS 61 (cO ?_)
    refine xa 2 (.own 0 (dM.map aa)) ?_
    refine xa 3 (pB (decide ((32:Int)≤((idx s0 (0:Int)).toNat:Int)))) ?_
    refine xz 4 (pB ((decide ((dM.length:Int)≤(64:Int)))&&(x_14==s0))) ?_
    refine QW.ret zL ?_
    obtain rfl:=sG h
    exact Ends.more (.inr rfl) rfl (ps:=[.own 0 (dM.map aa),pB (decide ((32:Int)≤((idx s0 (0:Int)).toNat:Int))),pB ((decide ((dM.length:Int)≤(64:Int)))&&(x_14==s0))]) (And.intro (aN.tmp rfl) (And.intro (aN.tmp rfl) (And.intro (aN.tmp rfl) trivial))) rfl rfl
inductive CS where
 | S
 | L1 (lM:Int) (v4:Int)
noncomputable def kN (n0:Node):CS→Option (CS⊕Int)
 | .S=>
  some (.inl (.L1 (0) (0)))
 | .L1 lM v4=>
  (bif (decide (v4<(16:Int))) then
  ((gO (0≤v4∧v4<((16:Nat):Int)) (
  (bif (!((idx (n0.aC).1 v4)==([]:List UInt8))) then
  gO (bf (lM+(1:Int))) (
  some (lM+(1:Int)))
  else
  some lM)):Option Int).bind fun (sI:Int)=>
  gO (bf (v4+(1:Int))) (
  some (.inl (.L1 sI (v4+(1:Int))))))
  else
  some (.inr lM))
noncomputable def rB (n0:Node):Option Int:=gJ (kN n0) .S
theorem vz (n0:Node) (r:Int) (h:rB n0=some r):cD Tryz.prog 69 [.agg (cNode n0)] (.val (.int .i64 r)):=by
 refine fQ Tryz.func69 Tryz.ntmps69 TT.Wb ?_
 obtain ⟨_,h⟩:=cP h
 obtain ⟨dm,e9,h⟩:=aQ h;rw [kN] at h
 refine sR ?_
 refine XK.fz (some 1) rfl rfl (eE (cNode n0) rfl rfl rfl rfl bK ?_)
 refine xz 2 (pI (0)) ?_
 refine sR ?_
 refine xz 3 (pI (0)) ?_
 refine QW.seq ?_
 refine sR ?_
 refine xz 4 (pI (0)) ?_
 refine QW.block ?_
 refine lp (fun k σ=>∃ lM:Int,∃ v4:Int,k≤dm∧run (kN n0) k (.L1 lM v4)=some r∧σ=⟨bW [(1, .d (.cF (cNode n0))),(3,pI lM),(4,pI v4)],aK [],0,[]⟩) dm ⟨0,0,Nat.le_refl _,jG h,rfl⟩ (vM 0 []) ?_
 rintro wP _ ⟨lM,v4,wQ,h,rfl⟩
 obtain ⟨k_1,e9,h⟩:=aQ h;rw [kN] at h
 refine QW.seq ?_
 refine sR ?_
 refine xm 5 (pI v4) ?_
 refine xT 6 (cM v4 (16:Int) ?_)
 refine cT (decide (v4<(16:Int))) (fun cQ=>?_) (fun cQ=>?_)
 ·replace h:=ej h cQ
  refine sk ?_
  obtain ⟨sI,hq,h⟩:=bG h
  refine QW.s6 (fun s'=>s'=⟨bW [(1, .d (.cF (cNode n0))),(3,pI sI),(4,pI v4)],aK [],0,[]⟩) ?_ ?_
  ·replace h:=hq;clear hq
   refine QW.block ?_
   refine sR ?_
   refine xm 9 (pI v4) ?_
   refine xS 10 (aL TT.iW ?_)
   obtain ⟨eD,h⟩:=bq h
   refine xS 11 (lg v4 TT.mR ?_ (h:=eD))
   refine xS 12 (aA (.val (sV (idx (n0.aC).1 v4))) TT.eG ?_ (h:=nq (nu _) eD))
   refine xT 13 (qq (idx (n0.aC).1 v4) ([]:List UInt8) ?_)
   refine cT (!((idx (n0.aC).1 v4)==([]:List UInt8))) (fun fA=>?_) (fun fA=>?_)
   ·replace h:=bT h fA
    refine rG ?_
    refine xm 14 (pI lM) ?_
    obtain ⟨nM,h⟩:=bq h
    refine xS 15 (bE lM (1:Int) nM ?_)
    refine xa 3 (pI (lM+(1:Int))) ?_
    refine XK.nil (iS (cn ?_))
    obtain rfl:=sO h
    exact jb rfl (vM 0 [])
   ·replace h:=bF h fA
    refine QW.skip zL (iS (cn ?_))
    obtain rfl:=sO h
    exact jb rfl (vM 0 [])
  ·rintro _ rfl
   refine rG ?_
   refine xm 7 (pI v4) ?_
   obtain ⟨oM,h⟩:=gG h
   refine xS 8 (bE v4 (1:Int) oM ?_)
   refine xz 4 (pI (v4+(1:Int))) ?_
   exact lb k_1 ⟨sI,(v4+(1:Int)),by omega,jG h,rfl⟩ (vM 0 [])
 ·replace h:=ek h cQ
  refine QW.exit zL (eP (eP (kW (cn ?_))))
  refine sR ?_
  refine xm 16 (pI lM) ?_
  refine xz 2 (pI lM) ?_
  refine QW.ret zL ?_
  obtain rfl:=sG h
  exact eO
inductive En where
 | S
 | L1 (v3:Int)
noncomputable def iP (self:(List UInt8)→Option Bool) (n0:Node):En→Option (En⊕Bool)
 | .S=>
  ((tA (n0.av)).bind fun (x_1:Bool)=>
  (bif ((!x_1)||(decide ((64:Int)<((n0.av).length:Int)))) then
  some (.inr false)
  else
  some (.inl (.L1 (0)))))
 | .L1 v3=>
  (bif (decide (v3<(16:Int))) then
  gO (0≤v3∧v3<((16:Nat):Int)) (
  ((self (idx (n0.aC).1 v3)).bind fun (x_7:Bool)=>
  (bif (!x_7) then
  some (.inr false)
  else
  gO (bf (v3+(1:Int))) (
  some (.inl (.L1 (v3+(1:Int))))))))
  else
  (bif (decide ((n0.aG)=(1:Int))) then
  ((bif (((decide ((1:Int)≤((n0.aq).length:Int)))&&(decide (((n0.aq).length:Int)≤(65552:Int))))==true) then rB n0 else some default).bind fun (x_12:Int)=>
  some (.inr (((decide ((1:Int)≤((n0.aq).length:Int)))&&(decide (((n0.aq).length:Int)≤(65552:Int))))&&(decide (x_12=(0:Int))))))
  else
  (bif (decide ((n0.aG)=(2:Int))) then
  ((bif ((((n0.aq==([]:List UInt8))&&(decide ((0:Int)<((n0.av).length:Int))))&&(!((idx (n0.aC).1 (0:Int))==([]:List UInt8))))==true) then rB n0 else some default).bind fun (x_15:Int)=>
  some (.inr ((((n0.aq==([]:List UInt8))&&(decide ((0:Int)<((n0.av).length:Int))))&&(!((idx (n0.aC).1 (0:Int))==([]:List UInt8))))&&(decide (x_15=(1:Int))))))
  else
  ((bif ((((decide ((n0.aG)=(3:Int)))&&(n0.aq==([]:List UInt8)))&&(decide (((n0.av).length:Int)=(0:Int))))==true) then rB n0 else some default).bind fun (x_17:Int)=>
  some (.inr ((((decide ((n0.aG)=(3:Int)))&&(n0.aq==([]:List UInt8)))&&(decide (((n0.av).length:Int)=(0:Int))))&&(decide ((2:Int)≤x_17))))))))
noncomputable def nP (self:(List UInt8)→Option Bool) (n0:Node):Option Bool:=gJ (iP self n0) .S
theorem vA (self:(List UInt8)→Option Bool) (dZ:∀ (y0:(List UInt8)) (rr:Bool),self y0=some rr→cD Tryz.prog 68 [.val (sV y0)] (.val (.bool rr))) (n0:Node) (r:Bool) (h:nP self n0=some r):cD Tryz.prog 39 [.agg (cNode n0)] (.val (.bool r)):=by
 refine fQ Tryz.func39 Tryz.ntmps39 TT.V5 ?_
 obtain ⟨_,h⟩:=cP h
 obtain ⟨dm,e9,h⟩:=aQ h;rw [iP] at h
 refine sR ?_
 refine XK.fz (some 1) rfl rfl (eE (cNode n0) rfl rfl rfl rfl bK ?_)
 refine xz 2 (pB false) ?_
 refine QW.seq ?_
 refine sR ?_
 refine xS 4 (aL TT.j5 ?_)
 refine xS 5 (aA (.slice ((n0.av).map aa)) TT.fJ ?_ (h:=ja _))
 obtain ⟨x_1,fk,h⟩:=bG h
 refine xS 6 (az (Fc (n0.av) _ fk) ?_)
 refine xS 7 (kV ?_)
 refine xm 8 (pB (!x_1)) ?_
 refine xg 9 (.d (.cF ((cNode n0).drop 1))) rfl rfl (fun hg=>aL TT.j5 g3) ?_
 refine xg 10 (.d (.slice ((n0.av).map aa))) rfl rfl (fun hg=>aA (.slice ((n0.av).map aa)) TT.fJ g3 (h:=ja _)) ?_
 refine xg 11 (pI ((n0.av).length:Int)) rfl rfl (fun hg=>cX aa n0.av TT.bt g3) ?_
 refine xg 12 (pB (decide ((64:Int)<((n0.av).length:Int)))) rfl rfl (fun hg=>kU ((n0.av).length:Int) (64:Int) g3) ?_
 refine xT 13 (fh ?_)
 refine cT ((!x_1)||(decide ((64:Int)<((n0.av).length:Int)))) (fun dY=>?_) (fun dY=>?_)
 ·replace h:=ej h dY
  refine sR ?_
  refine xz 2 (pB false) ?_
  refine QW.ret zL (dc ?_)
  obtain rfl:=sG h
  exact eO
 ·replace h:=ek h dY
  refine sk ?_
  refine QW.seq ?_
  refine sR ?_
  refine xz 3 (pI (0)) ?_
  refine QW.block ?_
  refine lp (fun k σ=>∃ v3:Int,k≤dm∧run (iP self n0) k (.L1 v3)=some r∧σ=⟨bW [(1, .d (.cF (cNode n0))),(3,pI v3)],aK [],0,[]⟩) dm ⟨0,Nat.le_refl _,jG h,rfl⟩ (vM 0 []) ?_
  rintro WV _ ⟨v3,WW,h,rfl⟩
  obtain ⟨QG,e9,h⟩:=aQ h;rw [iP] at h
  refine QW.seq ?_
  refine sR ?_
  refine xm 14 (pI v3) ?_
  refine xT 15 (cM v3 (16:Int) ?_)
  refine cT (decide (v3<(16:Int))) (fun mO=>?_) (fun mO=>?_)
  ·replace h:=ej h mO
   refine sk ?_
   refine QW.seq ?_
   refine QW.block ?_
   refine sR ?_
   refine xm 18 (pI v3) ?_
   refine xS 19 (aL TT.iW ?_)
   obtain ⟨oM,h⟩:=gG h
   refine xS 20 (lg v3 TT.mR ?_ (h:=oM))
   refine xS 21 (aA (.val (sV (idx (n0.aC).1 v3))) TT.eG ?_ (h:=nq (nu _) oM))
   obtain ⟨x_7,oA,h⟩:=bG h
   refine xS 22 (az (dZ (idx (n0.aC).1 v3) _ oA) ?_)
   refine xT 23 (kV ?_)
   refine cT (!x_7) (fun oe=>?_) (fun oe=>?_)
   ·replace h:=ej h oe
    refine sR ?_
    refine xz 2 (pB false) ?_
    refine QW.ret zL (nK (dc (dc (nK (dc ?_)))))
    obtain rfl:=sG h
    exact eO
   ·replace h:=ek h oe
    refine QW.skip zL (iS (cn ?_))
    refine rG ?_
    refine xm 16 (pI v3) ?_
    obtain ⟨nT,h⟩:=gG h
    refine xS 17 (bE v3 (1:Int) nT ?_)
    refine xz 3 (pI (v3+(1:Int))) ?_
    exact lb QG ⟨(v3+(1:Int)),by omega,jG h,rfl⟩ (vM 0 [])
  ·replace h:=ek h mO
   refine QW.exit zL (eP (eP (kW (cn ?_))))
   refine QW.seq ?_
   refine sR ?_
   refine xS 24 (aL TT.iV ?_)
   refine xS 25 (aA (.val (.int .i64 (n0.aG))) TT.jl ?_ (h:=jN _))
   refine xT 26 (dj (n0.aG) (1:Int) ?_)
   refine cT (decide ((n0.aG)=(1:Int))) (fun kJ=>?_) (fun kJ=>?_)
   ·replace h:=ej h kJ
    refine sR ?_
    refine xS 27 (aL TT.kH ?_)
    refine xS 28 (aA (.val (sV (n0.aq))) TT.eG ?_ (h:=jO _))
    refine xS 29 (eU n0.aq TT.bh ?_)
    refine xS 30 (pO ((n0.aq).length:Int) (1:Int) ?_)
    refine xm 31 (pB (decide ((1:Int)≤((n0.aq).length:Int)))) ?_
    refine xg 32 (.d (.cF ((cNode n0).drop 2))) rfl rfl (fun hg=>aL TT.kH g3) ?_
    refine xg 33 (pS (n0.aq)) rfl rfl (fun hg=>aA (.val (sV (n0.aq))) TT.eG g3 (h:=jO _)) ?_
    refine xg 34 (pI ((n0.aq).length:Int)) rfl rfl (fun hg=>eU n0.aq TT.bh g3) ?_
    refine xg 35 (pB (decide (((n0.aq).length:Int)≤(65552:Int)))) rfl rfl (fun hg=>uI ((n0.aq).length:Int) (65552:Int) g3) ?_
    refine xS 36 (cO ?_)
    refine xm 37 (pB ((decide ((1:Int)≤((n0.aq).length:Int)))&&(decide (((n0.aq).length:Int)≤(65552:Int))))) ?_
    refine xg 38 (.d (.agg (cNode n0))) rfl rfl (fun hg=>aA (.agg (cNode n0)) TT.cq g3 (h:=by exact ⟨by rw [ki.len];decide,congrArg D.agg (List.take_of_length_le (by rw [ki.len];decide))⟩)) ?_
    obtain ⟨x_12,tg,h⟩:=bG h
    refine xg 39 (pI x_12) rfl rfl (fun hg=>az (vz n0 _ (bT tg hg)) g3) ?_
    refine xg 40 (pB (decide (x_12=(0:Int)))) rfl rfl (fun hg=>dj x_12 (0:Int) g3) ?_
    refine xS 41 (cO ?_)
    refine xz 2 (pB (((decide ((1:Int)≤((n0.aq).length:Int)))&&(decide (((n0.aq).length:Int)≤(65552:Int))))&&(decide (x_12=(0:Int))))) ?_
    refine QW.ret zL (dc ?_)
    obtain rfl:=sG h
    exact eO
   ·replace h:=ek h kJ
    refine sk ?_
    refine QW.seq ?_
    refine sR ?_
    refine xS 42 (aL TT.iV ?_)
    refine xS 43 (aA (.val (.int .i64 (n0.aG))) TT.jl ?_ (h:=jN _))
    refine xT 44 (dj (n0.aG) (2:Int) ?_)
    refine cT (decide ((n0.aG)=(2:Int))) (fun r6=>?_) (fun r6=>?_)
    ·replace h:=ej h r6
     refine sR ?_
     refine xS 45 (aL TT.kH ?_)
     refine xS 46 (aA (.val (sV (n0.aq))) TT.eG ?_ (h:=jO _))
     refine xS 47 (jW n0.aq ([]:List UInt8) ?_)
     refine xm 48 (pB (n0.aq==([]:List UInt8))) ?_
     refine xg 49 (.d (.cF ((cNode n0).drop 1))) rfl rfl (fun hg=>aL TT.j5 g3) ?_
     refine xg 50 (.d (.slice ((n0.av).map aa))) rfl rfl (fun hg=>aA (.slice ((n0.av).map aa)) TT.fJ g3 (h:=ja _)) ?_
     refine xg 51 (pI ((n0.av).length:Int)) rfl rfl (fun hg=>cX aa n0.av TT.bt g3) ?_
     refine xg 52 (pB (decide ((0:Int)<((n0.av).length:Int)))) rfl rfl (fun hg=>kU ((n0.av).length:Int) (0:Int) g3) ?_
     refine xS 53 (cO ?_)
     refine xm 54 (pB ((n0.aq==([]:List UInt8))&&(decide ((0:Int)<((n0.av).length:Int))))) ?_
     refine xg 55 (.d (.cF ((cNode n0).drop 3))) rfl rfl (fun hg=>aL TT.iW g3) ?_
     refine xg 56 (.d (.cF (((cNode n0).drop 3).drop ((0:Int).toNat*1)))) rfl rfl (fun hg=>lg (0:Int) TT.mR g3) ?_
     refine xg 57 (pS (idx (n0.aC).1 (0:Int))) rfl rfl (fun hg=>aA (.val (sV (idx (n0.aC).1 (0:Int)))) TT.eG g3 (h:=by exact nq (nu _) (by decide))) ?_
     refine xg 58 (pB (!((idx (n0.aC).1 (0:Int))==([]:List UInt8)))) rfl rfl (fun hg=>qq (idx (n0.aC).1 (0:Int)) ([]:List UInt8) g3) ?_
     refine xS 59 (cO ?_)
     refine xm 60 (pB (((n0.aq==([]:List UInt8))&&(decide ((0:Int)<((n0.av).length:Int))))&&(!((idx (n0.aC).1 (0:Int))==([]:List UInt8))))) ?_
     refine xg 61 (.d (.agg (cNode n0))) rfl rfl (fun hg=>aA (.agg (cNode n0)) TT.cq g3 (h:=by exact ⟨by rw [ki.len];decide,congrArg D.agg (List.take_of_length_le (by rw [ki.len];decide))⟩)) ?_
     obtain ⟨x_15,r4,h⟩:=bG h
     refine xg 62 (pI x_15) rfl rfl (fun hg=>az (vz n0 _ (bT r4 hg)) g3) ?_
     refine xg 63 (pB (decide (x_15=(1:Int)))) rfl rfl (fun hg=>dj x_15 (1:Int) g3) ?_
     refine xS 64 (cO ?_)
     refine xz 2 (pB ((((n0.aq==([]:List UInt8))&&(decide ((0:Int)<((n0.av).length:Int))))&&(!((idx (n0.aC).1 (0:Int))==([]:List UInt8))))&&(decide (x_15=(1:Int))))) ?_
     refine QW.ret zL (dc ?_)
     obtain rfl:=sG h
     exact eO
    ·replace h:=ek h r6
     refine sk ?_
     refine sR ?_
     refine xS 65 (aL TT.iV ?_)
     refine xS 66 (aA (.val (.int .i64 (n0.aG))) TT.jl ?_ (h:=jN _))
     refine xS 67 (dj (n0.aG) (3:Int) ?_)
     refine xm 68 (pB (decide ((n0.aG)=(3:Int)))) ?_
     refine xg 69 (.d (.cF ((cNode n0).drop 2))) rfl rfl (fun hg=>aL TT.kH g3) ?_
     refine xg 70 (pS (n0.aq)) rfl rfl (fun hg=>aA (.val (sV (n0.aq))) TT.eG g3 (h:=jO _)) ?_
     refine xg 71 (pB (n0.aq==([]:List UInt8))) rfl rfl (fun hg=>jW n0.aq ([]:List UInt8) g3) ?_
     refine xS 72 (cO ?_)
     refine xm 73 (pB ((decide ((n0.aG)=(3:Int)))&&(n0.aq==([]:List UInt8)))) ?_
     refine xg 74 (.d (.cF ((cNode n0).drop 1))) rfl rfl (fun hg=>aL TT.j5 g3) ?_
     refine xg 75 (.d (.slice ((n0.av).map aa))) rfl rfl (fun hg=>aA (.slice ((n0.av).map aa)) TT.fJ g3 (h:=ja _)) ?_
     refine xg 76 (pI ((n0.av).length:Int)) rfl rfl (fun hg=>cX aa n0.av TT.bt g3) ?_
     refine xg 77 (pB (decide (((n0.av).length:Int)=(0:Int)))) rfl rfl (fun hg=>dj ((n0.av).length:Int) (0:Int) g3) ?_
     refine xS 78 (cO ?_)
     refine xm 79 (pB (((decide ((n0.aG)=(3:Int)))&&(n0.aq==([]:List UInt8)))&&(decide (((n0.av).length:Int)=(0:Int))))) ?_
     refine xg 80 (.d (.agg (cNode n0))) rfl rfl (fun hg=>aA (.agg (cNode n0)) TT.cq g3 (h:=by exact ⟨by rw [ki.len];decide,congrArg D.agg (List.take_of_length_le (by rw [ki.len];decide))⟩)) ?_
     obtain ⟨x_17,zN,h⟩:=bG h
     refine xg 81 (pI x_17) rfl rfl (fun hg=>az (vz n0 _ (bT zN hg)) g3) ?_
     refine xg 82 (pB (decide ((2:Int)≤x_17))) rfl rfl (fun hg=>pO x_17 (2:Int) g3) ?_
     refine xS 83 (cO ?_)
     refine xz 2 (pB ((((decide ((n0.aG)=(3:Int)))&&(n0.aq==([]:List UInt8)))&&(decide (((n0.av).length:Int)=(0:Int))))&&(decide ((2:Int)≤x_17)))) ?_
     refine QW.ret zL ?_
     obtain rfl:=sG h
     exact eO
inductive Eo where
 | S
 | J1 (v4:(List UInt8))
noncomputable def ju (self:(List UInt8)→Option Bool) (x0:Item):Eo→Option (Eo⊕((List UInt8)×Bool))
 | .S=>
  (bif x0.bQ then
  ((wo x0).bind fun (x_2:(List UInt8))=>
  (bif (decide ((31:Int)<(x_2.length:Int))) then
  some (.inr (([]:List UInt8),false))
  else
  some (.inl (.J1 x_2))))
  else
  some (.inl (.J1 (x0.fS))))
 | .J1 v4=>
  ((self v4).bind fun (x_6:Bool)=>
  some (.inr (v4,x_6)))
noncomputable def pz (self:(List UInt8)→Option Bool) (x0:Item):Option ((List UInt8)×Bool):=gJ (ju self x0) .S
theorem Ax (self:(List UInt8)→Option Bool) (dZ:∀ (y0:(List UInt8)) (rr:Bool),self y0=some rr→cD Tryz.prog 68 [.val (sV y0)] (.val (.bool rr))) (x0:Item) (r:((List UInt8)×Bool)) (h:pz self x0=some r):cD Tryz.prog 40 [.agg (ct x0)] (.tuple [.val (sV (r.1)), .val (.bool (r.2))]):=by
 refine fQ Tryz.func40 Tryz.ntmps40 TT.V6 ?_
 obtain ⟨_,h⟩:=cP h
 obtain ⟨dm,e9,h⟩:=aQ h;rw [ju] at h
 refine sR ?_
 refine XK.fz (some 1) rfl rfl (eE (ct x0) rfl rfl rfl rfl rfl ?_)
 refine xa 2 (pS ([]:List UInt8)) ?_
 refine xz 3 (pB false) ?_
 refine sR ?_
 refine xS 5 (aL TT.iI ?_)
 refine xS 6 (aA (.val (sV (x0.fS))) TT.eG ?_)
 refine xz 4 (pS (x0.fS)) ?_
 refine QW.s6 (fun s'=>∃ v4:(List UInt8),∃ k:Nat,k≤dm∧run (ju self x0) k (.J1 v4)=some r∧s'=⟨bW [(4,pS v4)],aK [],0,[]⟩) ?_ ?_
 ·refine sR ?_
  refine xS 7 (aL TT.p8 ?_)
  refine xT 8 (aA (.val (.bool (x0.bQ))) TT.A4 ?_)
  refine cT x0.bQ (fun c8=>?_) (fun c8=>?_)
  ·replace h:=ej h c8
   refine sR ?_
   refine xS 9 (aA (.agg (ct x0)) TT.bB ?_ (h:=by exact ⟨by simp [ct],rfl⟩))
   obtain ⟨x_2,nS,h⟩:=bG h
   refine xS 10 (az (Br x0 _ nS) ?_)
   refine xz 4 (pS x_2) ?_
   refine sR ?_
   refine xm 11 (pS x_2) ?_
   refine xS 12 (eU x_2 TT.bh ?_)
   refine xT 13 (kU (x_2.length:Int) (31:Int) ?_)
   refine cT (decide ((31:Int)<(x_2.length:Int))) (fun fA=>?_) (fun fA=>?_)
   ·replace h:=ej h fA
    refine sR ?_
    refine xa 2 (pS ([]:List UInt8)) ?_
    refine xz 3 (pB false) ?_
    refine QW.ret zL (dc ?_)
    obtain rfl:=sG h
    exact Ends.more (.inr rfl) rfl (ps:=[pS ([]:List UInt8),pB false]) (And.intro (aN.tmp rfl) (And.intro (aN.tmp rfl) trivial)) rfl rfl
   ·replace h:=ek h fA
    refine sk ?_
    exact ⟨⟨bW [(4,pS x_2)],aK [],0,[]⟩,vM 0 [],x_2,dm,by omega,jG h,rfl⟩
  ·replace h:=ek h c8
   refine sk ?_
   exact ⟨⟨bW [(4,pS (x0.fS))],aK [],0,[]⟩,vM 0 [],x0.fS,dm,by omega,jG h,rfl⟩
 ·rintro _ ⟨v4,MI,MJ,h,rfl⟩
  obtain ⟨Dj,e9,h⟩:=aQ h;rw [ju] at h
  refine sR ?_
  refine xm 14 (pS v4) ?_
  refine xm 15 (pS v4) ?_
  obtain ⟨x_6,u6,h⟩:=bG h
  refine xS 16 (az (dZ v4 _ u6) ?_)
  refine xa 2 (pS v4) ?_
  refine xz 3 (pB x_6) ?_
  refine QW.ret zL ?_
  obtain rfl:=sG h
  exact Ends.more (.inr rfl) rfl (ps:=[pS v4,pB x_6]) (And.intro (aN.tmp rfl) (And.intro (aN.tmp rfl) trivial)) rfl rfl
inductive wq where
 | S
 | L1 (fD:Int) (m3:Bool) (z3:(List UInt8)) (qx:(List Item)) (gA:(aD 16 (List UInt8)))
noncomputable def jv (self:(List UInt8)→Option Bool) (s0:(List UInt8)):wq→Option (wq⊕(Node×Bool))
 | .S=>
  ((k8 s0 (0) (4096)).bind fun (x_1:(Item×Int×Int×Int))=>
  (bif (((!decide ((x_1.2.2.2)=(0:Int)))||(!decide ((x_1.2.1)=(s0.length:Int))))||((!decide ((((x_1.1).fL).length:Int)=(2:Int)))&&(!decide ((((x_1.1).fL).length:Int)=(17:Int))))) then
  some (.inr ((⟨0,([]:(List UInt8)),([]:List UInt8),(aD.rep 16 ([]:(List UInt8)))⟩:Node),false))
  else
  (bif (decide ((((x_1.1).fL).length:Int)=(2:Int))) then
  gO (0≤(0:Int)∧(0:Int)<(((x_1.1).fL).length:Int)) (
  ((rA ((idx ((x_1.1).fL) (0:Int)).fS)).bind fun (x_6:((List UInt8)×Bool×Bool))=>
  gO ((!(x_6).2.2)=false→0≤(0:Int)∧(0:Int)<(((x_1.1).fL).length:Int)) (
  (bif ((!(x_6).2.2)||(idx ((x_1.1).fL) (0:Int)).bQ) then
  some (.inr ((⟨0,([]:(List UInt8)),([]:List UInt8),(aD.rep 16 ([]:(List UInt8)))⟩:Node),false))
  else
  (bif x_6.2.1 then
  gO (0≤(1:Int)∧(1:Int)<(((x_1.1).fL).length:Int)) (
  gO (0≤(1:Int)∧(1:Int)<(((x_1.1).fL).length:Int)) (
  ((bif ((!(idx ((x_1.1).fL) (1:Int)).bQ)==true) then nP self (⟨1,x_6.1,(idx ((x_1.1).fL) (1:Int)).fS,(aD.rep 16 ([]:(List UInt8)))⟩:Node) else some default).bind fun (x_13:Bool)=>
  some (.inr ((⟨1,x_6.1,(idx ((x_1.1).fL) (1:Int)).fS,(aD.rep 16 ([]:(List UInt8)))⟩:Node),((!(idx ((x_1.1).fL) (1:Int)).bQ)&&x_13))))))
  else
  gO (0≤(1:Int)∧(1:Int)<(((x_1.1).fL).length:Int)) (
  ((pz self (idx ((x_1.1).fL) (1:Int))).bind fun (x_16:((List UInt8)×Bool))=>
  ((bif (x_16.2==true) then nP self (⟨2,x_6.1,([]:List UInt8),((aD.rep 16 ([]:(List UInt8))).put (0:Int) (x_16.1))⟩:Node) else some default).bind fun (x_18:Bool)=>
  ((bif ((x_16.2&&x_18)==true) then mc (⟨2,x_6.1,([]:List UInt8),((aD.rep 16 ([]:(List UInt8))).put (0:Int) (x_16.1))⟩:Node) else some default).bind fun (x_20:(List UInt8))=>
  some (.inr ((⟨2,x_6.1,([]:List UInt8),((aD.rep 16 ([]:(List UInt8))).put (0:Int) (x_16.1))⟩:Node),((x_16.2&&x_18)&&(x_20==s0)))))))))))))
  else
  some (.inl (.L1 (0) ((x_1.1).bQ) ((x_1.1).fS) ((x_1.1).fL) (aD.rep 16 ([]:(List UInt8))))))))
 | .L1 fD m3 z3 qx gA=>
  (bif (decide (fD<(16:Int))) then
  gO (0≤fD∧fD<(qx.length:Int)) (
  ((pz self (idx qx fD)).bind fun (x_25:((List UInt8)×Bool))=>
  (bif (!(x_25).2) then
  some (.inr ((⟨0,([]:(List UInt8)),([]:List UInt8),(aD.rep 16 ([]:(List UInt8)))⟩:Node),false))
  else
  gO (0≤fD∧fD<((16:Nat):Int)) (
  gO (bf (fD+(1:Int))) (
  some (.inl (.L1 (fD+(1:Int)) m3 z3 qx (gA.put fD (x_25.1)))))))))
  else
  ((nP self (⟨3,([]:(List UInt8)),([]:List UInt8),gA⟩:Node)).bind fun (y7:Bool)=>
  ((bif (y7==true) then mc (⟨3,([]:(List UInt8)),([]:List UInt8),gA⟩:Node) else some default).bind fun (oD:(List UInt8))=>
  some (.inr ((⟨3,([]:(List UInt8)),([]:List UInt8),gA⟩:Node),(y7&&(oD==s0)))))))
noncomputable def uM (self:(List UInt8)→Option Bool) (s0:(List UInt8)):Option (Node×Bool):=gJ (jv self s0) .S
theorem Ay (self:(List UInt8)→Option Bool) (dZ:∀ (y0:(List UInt8)) (rr:Bool),self y0=some rr→cD Tryz.prog 68 [.val (sV y0)] (.val (.bool rr))) (s0:(List UInt8)) (r:(Node×Bool)) (h:uM self s0=some r):cD Tryz.prog 22 [.val (sV s0)] (.tuple [.agg (cNode (r.1)), .val (.bool (r.2))]):=by
 refine fQ Tryz.func22 Tryz.ntmps22 TT.VY ?_
 obtain ⟨_,h⟩:=cP h
 obtain ⟨dm,e9,h⟩:=aQ h;rw [jv] at h
 refine sR ?_
 refine xS 2 (bl (([pI (0), .full (([]:(List UInt8)).map aa),pS ([]:List UInt8)])++(((aD.rep 16 ([]:(List UInt8))).1.map eS).map PV.d)) TT.kj ?_)
 refine xz 3 (pB false) ?_
 refine sR ?_
 refine xm 18 (pS s0) ?_
 obtain ⟨x_1,fk,h⟩:=bG h
 refine xS 19 (az (Gu s0 (0) (4096) _ fk) ?_)
 refine xm 17 (.d (.tuple [.agg (ct (x_1.1)), .val (.int .i64 (x_1.2.1)), .val (.int .i64 (x_1.2.2.1)), .val (.int .i64 (x_1.2.2.2))])) ?_
 refine xS 20 (aY ?_)
 refine xS 21 (aY ?_)
 refine xS 22 (aY ?_)
 refine xS 23 (aY ?_)
 refine xS 4 (bl [pB false,pS ([]:List UInt8), .full (([]:(List Item)).map aM)] TT.jL ?_)
 refine xN (aV [pB ((x_1.1).bQ),pS ((x_1.1).fS), .d (.slice (((x_1.1).fL).map aM))] TT.bB ?_)
 refine xa 5 (pI (x_1.2.1)) ?_
 refine xa 6 (pI (x_1.2.2.1)) ?_
 refine xz 7 (pI (x_1.2.2.2)) ?_
 refine QW.seq ?_
 refine sR ?_
 refine xm 24 (pI (x_1.2.2.2)) ?_
 refine xS 25 (mI (x_1.2.2.2) (0:Int) ?_)
 refine xm 26 (pB (!decide ((x_1.2.2.2)=(0:Int)))) ?_
 refine xg 27 (pI (x_1.2.1)) rfl rfl (fun hg=>ax (pI (x_1.2.1)) g3) ?_
 refine xg 28 (pS s0) rfl rfl (fun hg=>ax (pS s0) g3) ?_
 refine xg 29 (pI (s0.length:Int)) rfl rfl (fun hg=>eU s0 TT.bh g3) ?_
 refine xg 30 (pB (!decide ((x_1.2.1)=(s0.length:Int)))) rfl rfl (fun hg=>mI (x_1.2.1) (s0.length:Int) g3) ?_
 refine xS 31 (fh ?_)
 refine xm 32 (pB ((!decide ((x_1.2.2.2)=(0:Int)))||(!decide ((x_1.2.1)=(s0.length:Int))))) ?_
 refine xg 33 (.aR 1 2) rfl rfl (fun hg=>dF TT.fY g3) ?_
 refine XK.gd (v:= .d (.slice (((x_1.1).fL).map aM))) (T:=[1]) (some 34) rfl rfl (by repeat (first | exact trivial | refine ⟨fun q=>by first | rfl | exact q | exact qZ q | exact sQ q,?_⟩)) (fun hg=>aW (.d (.slice (((x_1.1).fL).map aM))) TT.kY g3) (fun _ i hi=>by simp only [List.mem_singleton] at hi;subst hi;decide) ?_
 refine xg 35 (pI (((x_1.1).fL).length:Int)) rfl rfl (fun hg=>cX aM ((x_1.1).fL) TT.m9 g3) ?_
 refine xg 36 (pB (!decide ((((x_1.1).fL).length:Int)=(2:Int)))) rfl rfl (fun hg=>mI (((x_1.1).fL).length:Int) (2:Int) g3) ?_
 refine xg 37 (pB (!decide ((((x_1.1).fL).length:Int)=(2:Int)))) rfl rfl (fun hg=>ax (pB (!decide ((((x_1.1).fL).length:Int)=(2:Int)))) g3) ?_
 refine xg 38 (.aR 1 2) rfl rfl (fun hg=>dF TT.fY g3) ?_
 refine XK.gd (v:= .d (.slice (((x_1.1).fL).map aM))) (T:=[1]) (some 39) rfl rfl (by repeat (first | exact trivial | refine ⟨fun q=>by first | rfl | exact q | exact qZ q | exact sQ q,?_⟩)) (fun hg=>aW (.d (.slice (((x_1.1).fL).map aM))) TT.kY g3) (fun _ i hi=>by simp only [List.mem_singleton] at hi;subst hi;decide) ?_
 refine xg 40 (pI (((x_1.1).fL).length:Int)) rfl rfl (fun hg=>cX aM ((x_1.1).fL) TT.m9 g3) ?_
 refine xg 41 (pB (!decide ((((x_1.1).fL).length:Int)=(17:Int)))) rfl rfl (fun hg=>mI (((x_1.1).fL).length:Int) (17:Int) g3) ?_
 refine XK.gp (some 42) rfl rfl rfl rfl rfl rfl (fun h=>h) (fun hg hb=>by first | (rw [hg,hb];rfl) | (simp only [hg,hb];rfl) | simp_all) (fun _ _=>rfl) ((!decide ((((x_1.1).fL).length:Int)=(2:Int)))&&(!decide ((((x_1.1).fL).length:Int)=(17:Int)))) (Ea _ _) ?_
 refine xT 43 (fh ?_)
 refine cT (((!decide ((x_1.2.2.2)=(0:Int)))||(!decide ((x_1.2.1)=(s0.length:Int))))||((!decide ((((x_1.1).fL).length:Int)=(2:Int)))&&(!decide ((((x_1.1).fL).length:Int)=(17:Int))))) (fun dY=>?_) (fun dY=>?_)
 ·replace h:=ej h dY
  refine sR ?_
  refine xS 44 (dX (.agg (([pI (0), .full (([]:(List UInt8)).map aa),pS ([]:List UInt8)])++(((aD.rep 16 ([]:(List UInt8))).1.map eS).map PV.d))) rfl TT.oc (cI rfl cH) ?_)
  refine xN (aV (([pI (0), .full (([]:(List UInt8)).map aa),pS ([]:List UInt8)])++(((aD.rep 16 ([]:(List UInt8))).1.map eS).map PV.d)) (c:=(([pI (0), .full (([]:(List UInt8)).map aa),pS ([]:List UInt8)])++(((aD.rep 16 ([]:(List UInt8))).1.map eS).map PV.d))) TT.cq ?_ (hn:=by exact ay (A:=[pI (0), .full (([]:(List UInt8)).map aa),pS ([]:List UInt8)]) (b:=16) rfl (aj _) rfl) (hf:=by exact bz (ay (A:=[pI (0), .full (([]:(List UInt8)).map aa),pS ([]:List UInt8)]) (b:=16) rfl (aj _) rfl) bL) (hl:=by exact cE ((ay (A:=[pI (0), .full (([]:(List UInt8)).map aa),pS ([]:List UInt8)]) (b:=16) rfl (aj _) rfl).trans (ay (A:=[pI (0), .full (([]:(List UInt8)).map aa),pS ([]:List UInt8)]) (b:=16) rfl (aj _) rfl).symm)))
  refine xz 3 (pB false) ?_
  refine QW.ret zL (dc ?_)
  obtain rfl:=sG h
  exact Ends.more (.inr rfl) rfl (ps:=[.agg (([pI (0), .full (([]:(List UInt8)).map aa),pS ([]:List UInt8)])++(((aD.rep 16 ([]:(List UInt8))).1.map eS).map PV.d)),pB false]) (And.intro (aN.cell rfl rfl TT.cq (dr (ay (A:=[pI (0), .full (([]:(List UInt8)).map aa),pS ([]:List UInt8)]) (b:=16) rfl (aj _) rfl) (Nat.succ_pos _))) (And.intro (aN.tmp rfl) trivial)) (by simp only [PV.cN,PV.dW,iu,bK,Option.bind_some,Option.map_some,cNode]<;>rfl) rfl
 ·replace h:=ek h dY
  refine sk ?_
  refine sR ?_
  refine xS 45 (dX (.agg (([pI (3), .full (([]:(List UInt8)).map aa),pS ([]:List UInt8)])++(((aD.rep 16 ([]:(List UInt8))).1.map eS).map PV.d))) rfl TT.oc (cI rfl (bY (p:=pI (3)) (cells:=(([pI (0), .full (([]:(List UInt8)).map aa),pS ([]:List UInt8)])++(((aD.rep 16 ([]:(List UInt8))).1.map eS).map PV.d))) (cells':=(([pI (3), .full (([]:(List UInt8)).map aa),pS ([]:List UInt8)])++(((aD.rep 16 ([]:(List UInt8))).1.map eS).map PV.d))) rfl rfl rfl (bz (ay (A:=[pI (0), .full (([]:(List UInt8)).map aa),pS ([]:List UInt8)]) (b:=16) rfl (aj _) rfl) bL) (eJ 0 (by first | exact Nat.le_of_ble_eq_true rfl | simp) rfl) cH)) ?_)
  refine xS 8 (bl (([pI (0), .full (([]:(List UInt8)).map aa),pS ([]:List UInt8)])++(((aD.rep 16 ([]:(List UInt8))).1.map eS).map PV.d)) TT.kj ?_)
  refine xN (aV (([pI (3), .full (([]:(List UInt8)).map aa),pS ([]:List UInt8)])++(((aD.rep 16 ([]:(List UInt8))).1.map eS).map PV.d)) (c:=(([pI (3), .full (([]:(List UInt8)).map aa),pS ([]:List UInt8)])++(((aD.rep 16 ([]:(List UInt8))).1.map eS).map PV.d))) TT.cq ?_ (hn:=by exact ay (A:=[pI (3), .full (([]:(List UInt8)).map aa),pS ([]:List UInt8)]) (b:=16) rfl (aj _) rfl) (hf:=by exact bz (ay (A:=[pI (0), .full (([]:(List UInt8)).map aa),pS ([]:List UInt8)]) (b:=16) rfl (aj _) rfl) bL) (hl:=by exact cE ((ay (A:=[pI (0), .full (([]:(List UInt8)).map aa),pS ([]:List UInt8)]) (b:=16) rfl (aj _) rfl).trans (ay (A:=[pI (3), .full (([]:(List UInt8)).map aa),pS ([]:List UInt8)]) (b:=16) rfl (aj _) rfl).symm)))
  refine XK.nz ?_
  refine QW.seq ?_
  refine sR ?_
  refine xS 46 (dF TT.fY ?_)
  refine xS 47 (aW (.d (.slice (((x_1.1).fL).map aM))) TT.kY ?_)
  refine xS 48 (cX aM ((x_1.1).fL) TT.m9 ?_)
  refine xT 49 (dj (((x_1.1).fL).length:Int) (2:Int) ?_)
  refine cT (decide ((((x_1.1).fL).length:Int)=(2:Int))) (fun fA=>?_) (fun fA=>?_)
  ·replace h:=ej h fA
   refine sR ?_
   refine xS 51 (dF TT.fY ?_)
   refine xS 52 (aW (.d (.slice (((x_1.1).fL).map aM))) TT.kY ?_)
   obtain ⟨nM,h⟩:=gG h
   refine xS 53 (bX ((x_1.1).fL) (0:Int) TT.qa gR nM ?_)
   refine xS 54 (aL TT.iI ?_)
   refine xS 55 (aA (.val (sV ((idx ((x_1.1).fL) (0:Int)).fS))) TT.eG ?_)
   obtain ⟨x_6,u6,h⟩:=bG h
   refine xS 56 (az (Gv ((idx ((x_1.1).fL) (0:Int)).fS) _ u6) ?_)
   refine xm 50 (.d (.tuple [.slice ((x_6.1).map aa), .val (.bool (x_6.2.1)), .val (.bool (x_6.2.2))])) ?_
   refine xS 57 (aY ?_)
   refine xS 58 (aY ?_)
   refine xS 59 (aY ?_)
   refine xa 9 (.d (.slice ((x_6.1).map aa))) ?_
   refine xa 10 (pB (x_6.2.1)) ?_
   refine xz 11 (pB (x_6.2.2)) ?_
   refine QW.seq ?_
   refine sR ?_
   refine xm 60 (pB (x_6.2.2)) ?_
   refine xS 61 (kV ?_)
   refine xm 62 (pB (!(x_6).2.2)) ?_
   refine xg 63 (.aR 1 2) rfl rfl (fun hg=>dF TT.fY g3) ?_
   refine XK.gd (v:= .d (.slice (((x_1.1).fL).map aM))) (T:=[1]) (some 64) rfl rfl (by repeat (first | exact trivial | refine ⟨fun q=>by first | rfl | exact q | exact qZ q | exact sQ q,?_⟩)) (fun hg=>aW (.d (.slice (((x_1.1).fL).map aM))) TT.kY g3) (fun _ i hi=>by simp only [List.mem_singleton] at hi;subst hi;decide) ?_
   obtain ⟨uq,h⟩:=gG h
   refine xg 65 (.d (.cF (ct (idx ((x_1.1).fL) (0:Int))))) rfl rfl (fun hg=>bX ((x_1.1).fL) (0:Int) TT.qa gR (uq (Hu hg)) g3) ?_
   refine xg 66 (.d (.cF ((ct (idx ((x_1.1).fL) (0:Int))).drop 0))) rfl rfl (fun hg=>aL TT.p8 g3) ?_
   refine xg 67 (pB ((idx ((x_1.1).fL) (0:Int)).bQ)) rfl rfl (fun hg=>aA (.val (.bool ((idx ((x_1.1).fL) (0:Int)).bQ))) TT.A4 g3) ?_
   refine xT 68 (fh ?_)
   refine cT ((!(x_6).2.2)||(idx ((x_1.1).fL) (0:Int)).bQ) (fun oe=>?_) (fun oe=>?_)
   ·replace h:=ej h oe
    refine sR ?_
    refine xS 69 (dX (.agg (([pI (0), .full (([]:(List UInt8)).map aa),pS ([]:List UInt8)])++(((aD.rep 16 ([]:(List UInt8))).1.map eS).map PV.d))) rfl TT.oc (cI rfl cH) ?_)
    refine xN (aV (([pI (0), .full (([]:(List UInt8)).map aa),pS ([]:List UInt8)])++(((aD.rep 16 ([]:(List UInt8))).1.map eS).map PV.d)) (c:=(([pI (0), .full (([]:(List UInt8)).map aa),pS ([]:List UInt8)])++(((aD.rep 16 ([]:(List UInt8))).1.map eS).map PV.d))) TT.cq ?_ (hn:=by exact ay (A:=[pI (0), .full (([]:(List UInt8)).map aa),pS ([]:List UInt8)]) (b:=16) rfl (aj _) rfl) (hf:=by exact bz (ay (A:=[pI (0), .full (([]:(List UInt8)).map aa),pS ([]:List UInt8)]) (b:=16) rfl (aj _) rfl) bL) (hl:=by exact cE ((ay (A:=[pI (0), .full (([]:(List UInt8)).map aa),pS ([]:List UInt8)]) (b:=16) rfl (aj _) rfl).trans (ay (A:=[pI (0), .full (([]:(List UInt8)).map aa),pS ([]:List UInt8)]) (b:=16) rfl (aj _) rfl).symm)))
    refine xz 3 (pB false) ?_
    refine QW.ret zL (dc (dc ?_))
    obtain rfl:=sG h
    exact Ends.more (.inr rfl) rfl (ps:=[.agg (([pI (0), .full (([]:(List UInt8)).map aa),pS ([]:List UInt8)])++(((aD.rep 16 ([]:(List UInt8))).1.map eS).map PV.d)),pB false]) (And.intro (aN.cell rfl rfl TT.cq (dr (ay (A:=[pI (0), .full (([]:(List UInt8)).map aa),pS ([]:List UInt8)]) (b:=16) rfl (aj _) rfl) (Nat.succ_pos _))) (And.intro (aN.tmp rfl) trivial)) (by simp only [PV.cN,PV.dW,iu,bK,Option.bind_some,Option.map_some,cNode]<;>rfl) rfl
   ·replace h:=ek h oe
    refine sk ?_
    refine QW.seq ?_
    refine sR ?_
    refine xm 70 (pB (x_6.2.1)) ?_
    refine XK.nz ?_
    refine cT x_6.2.1 (fun oN=>?_) (fun oN=>?_)
    ·replace h:=ej h oN
     refine sR ?_
     refine xm 71 (.d (.slice ((x_6.1).map aa))) ?_
     refine xS 72 (dF TT.fY ?_)
     refine xS 73 (aW (.d (.slice (((x_1.1).fL).map aM))) TT.kY ?_)
     obtain ⟨td,h⟩:=gG h
     refine xS 74 (bX ((x_1.1).fL) (1:Int) TT.qa gR td ?_)
     refine xS 75 (aL TT.iI ?_)
     refine xS 76 (aA (.val (sV ((idx ((x_1.1).fL) (1:Int)).fS))) TT.eG ?_)
     refine xS 77 (dX (.agg (([pI (1), .d (.slice ((x_6.1).map aa)),pS ((idx ((x_1.1).fL) (1:Int)).fS)])++(((aD.rep 16 ([]:(List UInt8))).1.map eS).map PV.d))) rfl TT.oc (cI rfl (bY (p:=pI (1)) (cells:=(([pI (0), .full (([]:(List UInt8)).map aa),pS ([]:List UInt8)])++(((aD.rep 16 ([]:(List UInt8))).1.map eS).map PV.d))) (cells':=(([pI (1), .full (([]:(List UInt8)).map aa),pS ([]:List UInt8)])++(((aD.rep 16 ([]:(List UInt8))).1.map eS).map PV.d))) rfl rfl rfl (bz (ay (A:=[pI (0), .full (([]:(List UInt8)).map aa),pS ([]:List UInt8)]) (b:=16) rfl (aj _) rfl) bL) (eJ 0 (by first | exact Nat.le_of_ble_eq_true rfl | simp) rfl) (bY (p:= .d (.slice ((x_6.1).map aa))) (cells:=(([pI (1), .full (([]:(List UInt8)).map aa),pS ([]:List UInt8)])++(((aD.rep 16 ([]:(List UInt8))).1.map eS).map PV.d))) (cells':=(([pI (1), .d (.slice ((x_6.1).map aa)),pS ([]:List UInt8)])++(((aD.rep 16 ([]:(List UInt8))).1.map eS).map PV.d))) rfl rfl rfl (bz (ay (A:=[pI (1), .full (([]:(List UInt8)).map aa),pS ([]:List UInt8)]) (b:=16) rfl (aj _) rfl) bL) (eJ 1 (by first | exact Nat.le_of_ble_eq_true rfl | simp) rfl) (bY (p:=pS ((idx ((x_1.1).fL) (1:Int)).fS)) (cells:=(([pI (1), .d (.slice ((x_6.1).map aa)),pS ([]:List UInt8)])++(((aD.rep 16 ([]:(List UInt8))).1.map eS).map PV.d))) (cells':=(([pI (1), .d (.slice ((x_6.1).map aa)),pS ((idx ((x_1.1).fL) (1:Int)).fS)])++(((aD.rep 16 ([]:(List UInt8))).1.map eS).map PV.d))) rfl rfl rfl (bz (ay (A:=[pI (1), .d (.slice ((x_6.1).map aa)),pS ([]:List UInt8)]) (b:=16) rfl (aj _) rfl) bL) (eJ 2 (by first | exact Nat.le_of_ble_eq_true rfl | simp) rfl) cH)))) ?_)
     refine xN (aV (([pI (1), .d (.slice ((x_6.1).map aa)),pS ((idx ((x_1.1).fL) (1:Int)).fS)])++(((aD.rep 16 ([]:(List UInt8))).1.map eS).map PV.d)) (c:=(([pI (1), .d (.slice ((x_6.1).map aa)),pS ((idx ((x_1.1).fL) (1:Int)).fS)])++(((aD.rep 16 ([]:(List UInt8))).1.map eS).map PV.d))) TT.cq ?_ (hn:=by exact ay (A:=[pI (1), .d (.slice ((x_6.1).map aa)),pS ((idx ((x_1.1).fL) (1:Int)).fS)]) (b:=16) rfl (aj _) rfl) (hf:=by exact bz (ay (A:=[pI (3), .full (([]:(List UInt8)).map aa),pS ([]:List UInt8)]) (b:=16) rfl (aj _) rfl) bL) (hl:=by exact cE ((ay (A:=[pI (3), .full (([]:(List UInt8)).map aa),pS ([]:List UInt8)]) (b:=16) rfl (aj _) rfl).trans (ay (A:=[pI (1), .d (.slice ((x_6.1).map aa)),pS ((idx ((x_1.1).fL) (1:Int)).fS)]) (b:=16) rfl (aj _) rfl).symm)))
     refine XK.nz ?_
     refine QW.seq ?_
     refine QW.region zL (PW.qX (id:=11) dG (M:=_) rfl (by kernel_rfl) ?_)
     refine RK.U (some 78) rfl rfl (aW (.agg (([pI (1), .d (.slice ((x_6.1).map aa)),pS ((idx ((x_1.1).fL) (1:Int)).fS)])++(((aD.rep 16 ([]:(List UInt8))).1.map eS).map PV.d))) TT.cq ⟨.d (.agg (cNode (⟨1,x_6.1,(idx ((x_1.1).fL) (1:Int)).fS,(aD.rep 16 ([]:(List UInt8)))⟩:Node))),(fX.cN (jK (ia rfl bK))),?_⟩ (h:=by exact dr (ay (A:=[pI (1), .d (.slice ((x_6.1).map aa)),pS ((idx ((x_1.1).fL) (1:Int)).fS)]) (b:=16) rfl (aj _) rfl) (Nat.succ_pos _)))
     refine kS 79 (dF TT.fY ?_)
     refine kS 80 (aW (.d (.slice (((x_1.1).fL).map aM))) TT.kY ?_)
     obtain ⟨kP,h⟩:=gG h
     refine kS 81 (bX ((x_1.1).fL) (1:Int) TT.qa gR kP ?_)
     refine kS 82 (aL TT.p8 ?_)
     refine kS 83 (aA (.val (.bool ((idx ((x_1.1).fL) (1:Int)).bQ))) TT.A4 ?_)
     refine kS 84 (kV ?_)
     refine kS 85 (ax (pB (!(idx ((x_1.1).fL) (1:Int)).bQ)) ?_)
     refine RK.gd (v:= .d (.agg (cNode (⟨1,x_6.1,(idx ((x_1.1).fL) (1:Int)).fS,(aD.rep 16 ([]:(List UInt8)))⟩:Node)))) (T:=[2]) (some 86) rfl rfl (by repeat (first | exact trivial | refine ⟨fun q=>by first | rfl | exact q | exact qZ q | exact sQ q,?_⟩)) (fun hg=>aW (.agg (([pI (1), .d (.slice ((x_6.1).map aa)),pS ((idx ((x_1.1).fL) (1:Int)).fS)])++(((aD.rep 16 ([]:(List UInt8))).1.map eS).map PV.d))) TT.cq ⟨⟨rfl,rfl,rfl⟩,rfl,(fX.cN (jK (ia rfl bK)))⟩ (h:=by exact dr (ay (A:=[pI (1), .d (.slice ((x_6.1).map aa)),pS ((idx ((x_1.1).fL) (1:Int)).fS)]) (b:=16) rfl (aj _) rfl) (Nat.succ_pos _))) (fun _ i hi=>by simp only [List.mem_singleton] at hi;subst hi;decide) ?_
     obtain ⟨x_13,Dk,h⟩:=bG h
     refine RK.gd (v:=pB x_13) (T:=[]) (some 87) rfl rfl (by repeat (first | exact trivial | refine ⟨fun q=>by first | rfl | exact q | exact qZ q | exact sQ q,?_⟩)) (fun hg=>az (vA self dZ (⟨1,x_6.1,(idx ((x_1.1).fL) (1:Int)).fS,(aD.rep 16 ([]:(List UInt8)))⟩:Node) _ (bT Dk hg)) g3) Jb ?_
     refine kS 88 (cO ?_)
     refine RK.st none rfl rfl (aV (([pI (1), .d (.slice ((x_6.1).map aa)),pS ((idx ((x_1.1).fL) (1:Int)).fS)])++(((aD.rep 16 ([]:(List UInt8))).1.map eS).map PV.d)) (c:=(([pI (1), .d (.slice ((x_6.1).map aa)),pS ((idx ((x_1.1).fL) (1:Int)).fS)])++(((aD.rep 16 ([]:(List UInt8))).1.map eS).map PV.d))) TT.cq ?_ (hc:=by exact show (cNode (⟨1,x_6.1,(idx ((x_1.1).fL) (1:Int)).fS,(aD.rep 16 ([]:(List UInt8)))⟩:Node)).map PV.d=_ by simp only [cNode,List.map_append];rfl) (hn:=by exact ay (A:=[pI (1), .d (.slice ((x_6.1).map aa)),pS ((idx ((x_1.1).fL) (1:Int)).fS)]) (b:=16) rfl (aj _) rfl) (hf:=by exact bz (ay (A:=[pI (0), .full (([]:(List UInt8)).map aa),pS ([]:List UInt8)]) (b:=16) rfl (aj _) rfl) bL) (hl:=by exact cE ((ay (A:=[pI (0), .full (([]:(List UInt8)).map aa),pS ([]:List UInt8)]) (b:=16) rfl (aj _) rfl).trans (ay (A:=[pI (1), .d (.slice ((x_6.1).map aa)),pS ((idx ((x_1.1).fL) (1:Int)).fS)]) (b:=16) rfl (aj _) rfl).symm)))
     refine kS 3 (cj (pB ((!(idx ((x_1.1).fL) (1:Int)).bQ)&&x_13)) ?_)
     refine RK.nil ⟨fH.comp (by rfl),(cn ?_)⟩
     refine QW.ret zL (dc (dc ?_))
     obtain rfl:=sG h
     exact Ends.more (.inr rfl) rfl (ps:=[.agg (([pI (1), .d (.slice ((x_6.1).map aa)),pS ((idx ((x_1.1).fL) (1:Int)).fS)])++(((aD.rep 16 ([]:(List UInt8))).1.map eS).map PV.d)),pB ((!(idx ((x_1.1).fL) (1:Int)).bQ)&&x_13)]) (And.intro (aN.cell rfl rfl TT.cq (dr (ay (A:=[pI (1), .d (.slice ((x_6.1).map aa)),pS ((idx ((x_1.1).fL) (1:Int)).fS)]) (b:=16) rfl (aj _) rfl) (Nat.succ_pos _))) (And.intro (aN.tmp rfl) trivial)) (by simp only [PV.cN,PV.dW,iu,bK,Option.bind_some,Option.map_some,cNode]<;>rfl) rfl
    ·replace h:=ek h oN
     refine sk ?_
     refine sR ?_
     refine xS 90 (dF TT.fY ?_)
     refine xS 91 (aW (.d (.slice (((x_1.1).fL).map aM))) TT.kY ?_)
     obtain ⟨uY,h⟩:=gG h
     refine xS 92 (bX ((x_1.1).fL) (1:Int) TT.qa gR uY ?_)
     refine xS 93 (aA (.agg (ct (idx ((x_1.1).fL) (1:Int)))) TT.bB ?_ (h:=by exact ⟨by simp [ct],rfl⟩))
     obtain ⟨x_16,Dl,h⟩:=bG h
     refine xS 94 (az (Ax self dZ (idx ((x_1.1).fL) (1:Int)) _ Dl) ?_)
     refine xm 89 (.d (.tuple [.val (sV (x_16.1)), .val (.bool (x_16.2))])) ?_
     refine xS 95 (aY ?_)
     refine xS 96 (aY ?_)
     refine xa 12 (pS (x_16.1)) ?_
     refine xz 13 (pB (x_16.2)) ?_
     refine sR ?_
     refine xm 97 (.d (.slice ((x_6.1).map aa))) ?_
     refine xS 98 (dX (.agg (([pI (2), .d (.slice ((x_6.1).map aa)),pS ([]:List UInt8)])++(((aD.rep 16 ([]:(List UInt8))).1.map eS).map PV.d))) rfl TT.oc (cI rfl (bY (p:=pI (2)) (cells:=(([pI (0), .full (([]:(List UInt8)).map aa),pS ([]:List UInt8)])++(((aD.rep 16 ([]:(List UInt8))).1.map eS).map PV.d))) (cells':=(([pI (2), .full (([]:(List UInt8)).map aa),pS ([]:List UInt8)])++(((aD.rep 16 ([]:(List UInt8))).1.map eS).map PV.d))) rfl rfl rfl (bz (ay (A:=[pI (0), .full (([]:(List UInt8)).map aa),pS ([]:List UInt8)]) (b:=16) rfl (aj _) rfl) bL) (eJ 0 (by first | exact Nat.le_of_ble_eq_true rfl | simp) rfl) (bY (p:= .d (.slice ((x_6.1).map aa))) (cells:=(([pI (2), .full (([]:(List UInt8)).map aa),pS ([]:List UInt8)])++(((aD.rep 16 ([]:(List UInt8))).1.map eS).map PV.d))) (cells':=(([pI (2), .d (.slice ((x_6.1).map aa)),pS ([]:List UInt8)])++(((aD.rep 16 ([]:(List UInt8))).1.map eS).map PV.d))) rfl rfl rfl (bz (ay (A:=[pI (2), .full (([]:(List UInt8)).map aa),pS ([]:List UInt8)]) (b:=16) rfl (aj _) rfl) bL) (eJ 1 (by first | exact Nat.le_of_ble_eq_true rfl | simp) rfl) cH))) ?_)
     refine xN (aV (([pI (2), .d (.slice ((x_6.1).map aa)),pS ([]:List UInt8)])++(((aD.rep 16 ([]:(List UInt8))).1.map eS).map PV.d)) (c:=(([pI (2), .d (.slice ((x_6.1).map aa)),pS ([]:List UInt8)])++(((aD.rep 16 ([]:(List UInt8))).1.map eS).map PV.d))) TT.cq ?_ (hn:=by exact ay (A:=[pI (2), .d (.slice ((x_6.1).map aa)),pS ([]:List UInt8)]) (b:=16) rfl (aj _) rfl) (hf:=by exact bz (ay (A:=[pI (3), .full (([]:(List UInt8)).map aa),pS ([]:List UInt8)]) (b:=16) rfl (aj _) rfl) bL) (hl:=by exact cE ((ay (A:=[pI (3), .full (([]:(List UInt8)).map aa),pS ([]:List UInt8)]) (b:=16) rfl (aj _) rfl).trans (ay (A:=[pI (2), .d (.slice ((x_6.1).map aa)),pS ([]:List UInt8)]) (b:=16) rfl (aj _) rfl).symm)))
     refine XK.nz ?_
     refine sR ?_
     refine xm 99 (pS (x_16.1)) ?_
     refine xS 100 (dF TT.iW ?_)
     refine xS 101 (cZ (0:Int) TT.mR ?_ (h:=by decide))
     refine xN (aV (([pI (2), .d (.slice ((x_6.1).map aa)),pS ([]:List UInt8)])++((((aD.rep 16 ([]:(List UInt8))).put (0:Int) (x_16.1)).1.map eS).map PV.d)) TT.eG ?_ (hf:=by exact xY (n:=16) (by decide) (ay (A:=[pI (2), .d (.slice ((x_6.1).map aa)),pS ([]:List UInt8)]) (b:=16) rfl (aj _) rfl) bL) (hl:=by exact qt 3 _ rfl (sy (by decide))))
     refine XK.nz ?_
     refine QW.seq ?_
     refine QW.view (s':=⟨bW [(0,pS s0),(2, .aR 0 0),(8, .aR 1 0),(13,pB (x_16.2))],aK [.var (([pI (0), .full (([]:(List UInt8)).map aa),pS ([]:List UInt8)])++(((aD.rep 16 ([]:(List UInt8))).1.map eS).map PV.d)), .var (([pI (2), .d (.slice ((x_6.1).map aa)),pS ([]:List UInt8)])++((((aD.rep 16 ([]:(List UInt8))).put (0:Int) (x_16.1)).1.map eS).map PV.d))],2,[]⟩) (vM 2 [0,2]) zL ?_
     refine QW.region zL (PW.qX (id:=15) dG (M:=_) rfl (by kernel_rfl) ?_)
     refine RK.U (some 102) rfl rfl (aW (.agg (([pI (2), .d (.slice ((x_6.1).map aa)),pS ([]:List UInt8)])++((((aD.rep 16 ([]:(List UInt8))).put (0:Int) (x_16.1)).1.map eS).map PV.d))) TT.cq ⟨.d (.agg (cNode (⟨2,x_6.1,([]:List UInt8),((aD.rep 16 ([]:(List UInt8))).put (0:Int) (x_16.1))⟩:Node))),(fX.cN (jK (ia rfl bK))),?_⟩ (h:=by exact dr (ay (A:=[pI (2), .d (.slice ((x_6.1).map aa)),pS ([]:List UInt8)]) (b:=16) rfl (aj _) rfl) (Nat.succ_pos _)))
     refine kS 103 (ax (pB (x_16.2)) ?_)
     refine kS 104 (ax (pB (x_16.2)) ?_)
     refine RK.gd (v:= .d (.agg (cNode (⟨2,x_6.1,([]:List UInt8),((aD.rep 16 ([]:(List UInt8))).put (0:Int) (x_16.1))⟩:Node)))) (T:=[1]) (some 105) rfl rfl (by repeat (first | exact trivial | refine ⟨fun q=>by first | rfl | exact q | exact qZ q | exact sQ q,?_⟩)) (fun hg=>aW (.agg (([pI (2), .d (.slice ((x_6.1).map aa)),pS ([]:List UInt8)])++((((aD.rep 16 ([]:(List UInt8))).put (0:Int) (x_16.1)).1.map eS).map PV.d))) TT.cq ⟨⟨rfl,rfl,rfl⟩,rfl,(fX.cN (jK (ia rfl bK)))⟩ (h:=by exact dr (ay (A:=[pI (2), .d (.slice ((x_6.1).map aa)),pS ([]:List UInt8)]) (b:=16) rfl (aj _) rfl) (Nat.succ_pos _))) (fun _ i hi=>by simp only [List.mem_singleton] at hi;subst hi;decide) ?_
     obtain ⟨x_18,vt,h⟩:=bG h
     refine RK.gd (v:=pB x_18) (T:=[]) (some 106) rfl rfl (by repeat (first | exact trivial | refine ⟨fun q=>by first | rfl | exact q | exact qZ q | exact sQ q,?_⟩)) (fun hg=>az (vA self dZ (⟨2,x_6.1,([]:List UInt8),((aD.rep 16 ([]:(List UInt8))).put (0:Int) (x_16.1))⟩:Node) _ (bT vt hg)) g3) Jb ?_
     refine kS 107 (cO ?_)
     refine kS 108 (ax (pB (x_16.2&&x_18)) ?_)
     refine RK.gd (v:= .d (.agg (cNode (⟨2,x_6.1,([]:List UInt8),((aD.rep 16 ([]:(List UInt8))).put (0:Int) (x_16.1))⟩:Node)))) (T:=[1]) (some 109) rfl rfl (by repeat (first | exact trivial | refine ⟨fun q=>by first | rfl | exact q | exact qZ q | exact sQ q,?_⟩)) (fun hg=>aW (.agg (([pI (2), .d (.slice ((x_6.1).map aa)),pS ([]:List UInt8)])++((((aD.rep 16 ([]:(List UInt8))).put (0:Int) (x_16.1)).1.map eS).map PV.d))) TT.cq ⟨⟨rfl,rfl,rfl⟩,rfl,(fX.cN (jK (ia rfl bK)))⟩ (h:=by exact dr (ay (A:=[pI (2), .d (.slice ((x_6.1).map aa)),pS ([]:List UInt8)]) (b:=16) rfl (aj _) rfl) (Nat.succ_pos _))) (fun _ i hi=>by simp only [List.mem_singleton] at hi;subst hi;decide) ?_
     obtain ⟨x_20,wV,h⟩:=bG h
     refine RK.gd (v:=pS x_20) (T:=[]) (some 110) rfl rfl (by repeat (first | exact trivial | refine ⟨fun q=>by first | rfl | exact q | exact qZ q | exact sQ q,?_⟩)) (fun hg=>az (Bt (⟨2,x_6.1,([]:List UInt8),((aD.rep 16 ([]:(List UInt8))).put (0:Int) (x_16.1))⟩:Node) _ (bT wV hg)) g3) Jb ?_
     refine RK.gd (v:=pS s0) (T:=[]) (some 111) rfl rfl (by repeat (first | exact trivial | refine ⟨fun q=>by first | rfl | exact q | exact qZ q | exact sQ q,?_⟩)) (fun hg=>ax (pS s0) g3) Jb ?_
     refine RK.gd (v:=pB (x_20==s0)) (T:=[]) (some 112) rfl rfl (by repeat (first | exact trivial | refine ⟨fun q=>by first | rfl | exact q | exact qZ q | exact sQ q,?_⟩)) (fun hg=>jW x_20 s0 g3) Jb ?_
     refine kS 113 (cO ?_)
     refine RK.st none rfl rfl (aV (([pI (2), .d (.slice ((x_6.1).map aa)),pS ([]:List UInt8)])++((((aD.rep 16 ([]:(List UInt8))).put (0:Int) (x_16.1)).1.map eS).map PV.d)) (c:=(([pI (2), .d (.slice ((x_6.1).map aa)),pS ([]:List UInt8)])++((((aD.rep 16 ([]:(List UInt8))).put (0:Int) (x_16.1)).1.map eS).map PV.d))) TT.cq ?_ (hc:=by exact show (cNode (⟨2,x_6.1,([]:List UInt8),((aD.rep 16 ([]:(List UInt8))).put (0:Int) (x_16.1))⟩:Node)).map PV.d=_ by simp only [cNode,List.map_append];rfl) (hn:=by exact ay (A:=[pI (2), .d (.slice ((x_6.1).map aa)),pS ([]:List UInt8)]) (b:=16) rfl (aj _) rfl) (hf:=by exact bz (ay (A:=[pI (0), .full (([]:(List UInt8)).map aa),pS ([]:List UInt8)]) (b:=16) rfl (aj _) rfl) bL) (hl:=by exact cE ((ay (A:=[pI (0), .full (([]:(List UInt8)).map aa),pS ([]:List UInt8)]) (b:=16) rfl (aj _) rfl).trans (ay (A:=[pI (2), .d (.slice ((x_6.1).map aa)),pS ([]:List UInt8)]) (b:=16) rfl (aj _) rfl).symm)))
     refine kS 3 (cj (pB ((x_16.2&&x_18)&&(x_20==s0))) ?_)
     refine RK.nil ⟨fH.comp (by rfl),(cn ?_)⟩
     refine QW.ret zL (dc ?_)
     obtain rfl:=sG h
     exact Ends.more (.inr rfl) rfl (ps:=[.agg (([pI (2), .d (.slice ((x_6.1).map aa)),pS ([]:List UInt8)])++((((aD.rep 16 ([]:(List UInt8))).put (0:Int) (x_16.1)).1.map eS).map PV.d)),pB ((x_16.2&&x_18)&&(x_20==s0))]) (And.intro (aN.cell rfl rfl TT.cq (dr (ay (A:=[pI (2), .d (.slice ((x_6.1).map aa)),pS ([]:List UInt8)]) (b:=16) rfl (aj _) rfl) (Nat.succ_pos _))) (And.intro (aN.tmp rfl) trivial)) (by simp only [PV.cN,PV.dW,iu,bK,Option.bind_some,Option.map_some,cNode]<;>rfl) rfl
  ·replace h:=ek h fA
   refine sk ?_
   refine QW.seq ?_
   refine sR ?_
   refine xz 14 (pI (0)) ?_
   refine QW.block ?_
   refine lp (fun k σ=>∃ fD:Int,∃ m3:Bool,∃ z3:(List UInt8),∃ qx:(List Item),∃ gA:(aD 16 (List UInt8)),k≤dm∧run (jv self s0) k (.L1 fD m3 z3 qx gA)=some r∧σ=⟨bW [(0,pS s0),(2, .aR 0 0),(4, .aR 1 0),(8, .aR 2 0),(14,pI fD)],aK [.var (([pI (0), .full (([]:(List UInt8)).map aa),pS ([]:List UInt8)])++(((aD.rep 16 ([]:(List UInt8))).1.map eS).map PV.d)), .var [pB m3,pS z3, .d (.slice (qx.map aM))], .var (([pI (3), .full (([]:(List UInt8)).map aa),pS ([]:List UInt8)])++((gA.1.map eS).map PV.d))],3,[]⟩) dm ⟨0,(x_1.1).bQ,(x_1.1).fS,(x_1.1).fL,(aD.rep 16 ([]:(List UInt8))),Nat.le_refl _,jG h,rfl⟩ (vM 3 [0,1,2]) ?_
   rintro abe _ ⟨fD,m3,z3,qx,gA,abf,h,rfl⟩
   obtain ⟨ZJ,e9,h⟩:=aQ h;rw [jv] at h
   refine QW.seq ?_
   refine sR ?_
   refine xm 114 (pI fD) ?_
   refine xT 115 (cM fD (16:Int) ?_)
   refine cT (decide (fD<(16:Int))) (fun OL=>?_) (fun OL=>?_)
   ·replace h:=ej h OL
    refine sk ?_
    refine QW.seq ?_
    refine QW.block ?_
    refine sR ?_
    refine xS 119 (dF TT.fY ?_)
    refine xS 120 (aW (.d (.slice (qx.map aM))) TT.kY ?_)
    refine xm 121 (pI fD) ?_
    obtain ⟨vI,h⟩:=gG h
    refine xS 122 (bX qx fD TT.qa gR vI ?_)
    refine xS 123 (aA (.agg (ct (idx qx fD))) TT.bB ?_ (h:=by exact ⟨by simp [ct],rfl⟩))
    obtain ⟨x_25,Lg,h⟩:=bG h
    refine xS 124 (az (Ax self dZ (idx qx fD) _ Lg) ?_)
    refine xm 118 (.d (.tuple [.val (sV (x_25.1)), .val (.bool (x_25.2))])) ?_
    refine xS 125 (aY ?_)
    refine xS 126 (aY ?_)
    refine xa 15 (pS (x_25.1)) ?_
    refine xz 16 (pB (x_25.2)) ?_
    refine QW.seq ?_
    refine sR ?_
    refine xm 127 (pB (x_25.2)) ?_
    refine xT 128 (kV ?_)
    refine cT (!(x_25).2) (fun OM=>?_) (fun OM=>?_)
    ·replace h:=ej h OM
     refine sR ?_
     refine xS 129 (dX (.agg (([pI (0), .full (([]:(List UInt8)).map aa),pS ([]:List UInt8)])++(((aD.rep 16 ([]:(List UInt8))).1.map eS).map PV.d))) rfl TT.oc (cI rfl cH) ?_)
     refine xN (aV (([pI (0), .full (([]:(List UInt8)).map aa),pS ([]:List UInt8)])++(((aD.rep 16 ([]:(List UInt8))).1.map eS).map PV.d)) (c:=(([pI (0), .full (([]:(List UInt8)).map aa),pS ([]:List UInt8)])++(((aD.rep 16 ([]:(List UInt8))).1.map eS).map PV.d))) TT.cq ?_ (hn:=by exact ay (A:=[pI (0), .full (([]:(List UInt8)).map aa),pS ([]:List UInt8)]) (b:=16) rfl (aj _) rfl) (hf:=by exact bz (ay (A:=[pI (0), .full (([]:(List UInt8)).map aa),pS ([]:List UInt8)]) (b:=16) rfl (aj _) rfl) bL) (hl:=by exact cE ((ay (A:=[pI (0), .full (([]:(List UInt8)).map aa),pS ([]:List UInt8)]) (b:=16) rfl (aj _) rfl).trans (ay (A:=[pI (0), .full (([]:(List UInt8)).map aa),pS ([]:List UInt8)]) (b:=16) rfl (aj _) rfl).symm)))
     refine xz 3 (pB false) ?_
     refine QW.ret zL (dc (nK (dc (dc (nK (dc ?_))))))
     obtain rfl:=sG h
     exact Ends.more (.inr rfl) rfl (ps:=[.agg (([pI (0), .full (([]:(List UInt8)).map aa),pS ([]:List UInt8)])++(((aD.rep 16 ([]:(List UInt8))).1.map eS).map PV.d)),pB false]) (And.intro (aN.cell rfl rfl TT.cq (dr (ay (A:=[pI (0), .full (([]:(List UInt8)).map aa),pS ([]:List UInt8)]) (b:=16) rfl (aj _) rfl) (Nat.succ_pos _))) (And.intro (aN.tmp rfl) trivial)) (by simp only [PV.cN,PV.dW,iu,bK,Option.bind_some,Option.map_some,cNode]<;>rfl) rfl
    ·replace h:=ek h OM
     refine sk ?_
     refine rG ?_
     refine xm 130 (pI fD) ?_
     refine xm 131 (pS (x_25.1)) ?_
     refine xS 132 (dF TT.iW ?_)
     obtain ⟨Ih,h⟩:=gG h
     refine xS 133 (cZ fD TT.mR ?_ (h:=by exact Ih))
     refine xN (aV (([pI (3), .full (([]:(List UInt8)).map aa),pS ([]:List UInt8)])++(((gA.put fD (x_25.1)).1.map eS).map PV.d)) TT.eG ?_ (hf:=by exact xY (n:=16) Ih (ay (A:=[pI (3), .full (([]:(List UInt8)).map aa),pS ([]:List UInt8)]) (b:=16) rfl (aj _) rfl) bL) (hl:=by exact qt 3 _ rfl (sy Ih)))
     refine XK.nil (iS (cn ?_))
     refine rG ?_
     refine xm 116 (pI fD) ?_
     obtain ⟨q7,h⟩:=gG h
     refine xS 117 (bE fD (1:Int) q7 ?_)
     refine xz 14 (pI (fD+(1:Int))) ?_
     exact lb ZJ ⟨(fD+(1:Int)),m3,z3,qx,(gA.put fD (x_25.1)),by omega,jG h,rfl⟩ (vM 3 [0,1,2])
   ·replace h:=ek h OL
    refine QW.exit zL (eP (eP (kW (cn ?_))))
    refine QW.seq ?_
    refine QW.region zL (PW.qX (id:=23) dG (M:=_) rfl (by kernel_rfl) ?_)
    refine RK.U (some 134) rfl rfl (aW (.agg (([pI (3), .full (([]:(List UInt8)).map aa),pS ([]:List UInt8)])++((gA.1.map eS).map PV.d))) TT.cq ⟨.d (.agg (cNode (⟨3,([]:(List UInt8)),([]:List UInt8),gA⟩:Node))),(fX.cN (jK (ia rfl bK))),?_⟩ (h:=by exact dr (ay (A:=[pI (3), .full (([]:(List UInt8)).map aa),pS ([]:List UInt8)]) (b:=16) rfl (aj _) rfl) (Nat.succ_pos _)))
    refine RK.U (some 135) rfl rfl (aW (.agg (([pI (3), .full (([]:(List UInt8)).map aa),pS ([]:List UInt8)])++((gA.1.map eS).map PV.d))) TT.cq ⟨.d (.agg (cNode (⟨3,([]:(List UInt8)),([]:List UInt8),gA⟩:Node))),(fX.cN (jK (ia rfl bK))),?_⟩ (h:=by exact dr (ay (A:=[pI (3), .full (([]:(List UInt8)).map aa),pS ([]:List UInt8)]) (b:=16) rfl (aj _) rfl) (Nat.succ_pos _)))
    obtain ⟨y7,ON,h⟩:=bG h
    refine kS 136 (az (vA self dZ (⟨3,([]:(List UInt8)),([]:List UInt8),gA⟩:Node) _ ON) ?_)
    refine kS 137 (ax (pB y7) ?_)
    refine RK.gd (v:= .d (.agg (cNode (⟨3,([]:(List UInt8)),([]:List UInt8),gA⟩:Node)))) (T:=[2]) (some 138) rfl rfl (by repeat (first | exact trivial | refine ⟨fun q=>by first | rfl | exact q | exact qZ q | exact sQ q,?_⟩)) (fun hg=>aW (.agg (([pI (3), .full (([]:(List UInt8)).map aa),pS ([]:List UInt8)])++((gA.1.map eS).map PV.d))) TT.cq ⟨⟨rfl,rfl,rfl⟩,rfl,(fX.cN (jK (ia rfl bK)))⟩ (h:=by exact dr (ay (A:=[pI (3), .full (([]:(List UInt8)).map aa),pS ([]:List UInt8)]) (b:=16) rfl (aj _) rfl) (Nat.succ_pos _))) (fun _ i hi=>by simp only [List.mem_singleton] at hi;subst hi;decide) ?_
    obtain ⟨oD,Ii,h⟩:=bG h
    refine RK.gd (v:=pS oD) (T:=[]) (some 139) rfl rfl (by repeat (first | exact trivial | refine ⟨fun q=>by first | rfl | exact q | exact qZ q | exact sQ q,?_⟩)) (fun hg=>az (Bt (⟨3,([]:(List UInt8)),([]:List UInt8),gA⟩:Node) _ (bT Ii hg)) g3) Jb ?_
    refine RK.gd (v:=pS s0) (T:=[]) (some 140) rfl rfl (by repeat (first | exact trivial | refine ⟨fun q=>by first | rfl | exact q | exact qZ q | exact sQ q,?_⟩)) (fun hg=>ax (pS s0) g3) Jb ?_
    refine RK.gd (v:=pB (oD==s0)) (T:=[]) (some 141) rfl rfl (by repeat (first | exact trivial | refine ⟨fun q=>by first | rfl | exact q | exact qZ q | exact sQ q,?_⟩)) (fun hg=>jW oD s0 g3) Jb ?_
    refine kS 142 (cO ?_)
    refine RK.st none rfl rfl (aV (([pI (3), .d (.slice (([]:(List UInt8)).map aa)),pS ([]:List UInt8)])++((gA.1.map eS).map PV.d)) (c:=(([pI (3), .d (.slice (([]:(List UInt8)).map aa)),pS ([]:List UInt8)])++((gA.1.map eS).map PV.d))) TT.cq ?_ (hc:=by exact show (cNode (⟨3,([]:(List UInt8)),([]:List UInt8),gA⟩:Node)).map PV.d=_ by simp only [cNode,List.map_append];rfl) (hn:=by exact ay (A:=[pI (3), .d (.slice (([]:(List UInt8)).map aa)),pS ([]:List UInt8)]) (b:=16) rfl (aj _) rfl) (hf:=by exact bz (ay (A:=[pI (0), .full (([]:(List UInt8)).map aa),pS ([]:List UInt8)]) (b:=16) rfl (aj _) rfl) bL) (hl:=by exact cE ((ay (A:=[pI (0), .full (([]:(List UInt8)).map aa),pS ([]:List UInt8)]) (b:=16) rfl (aj _) rfl).trans (ay (A:=[pI (3), .d (.slice (([]:(List UInt8)).map aa)),pS ([]:List UInt8)]) (b:=16) rfl (aj _) rfl).symm)))
    refine kS 3 (cj (pB (y7&&(oD==s0))) ?_)
    refine RK.nil ⟨fH.comp (by rfl),(cn ?_)⟩
    refine QW.ret zL ?_
    obtain rfl:=sG h
    exact Ends.more (.inr rfl) rfl (ps:=[.agg (([pI (3), .d (.slice (([]:(List UInt8)).map aa)),pS ([]:List UInt8)])++((gA.1.map eS).map PV.d)),pB (y7&&(oD==s0))]) (And.intro (aN.cell rfl rfl TT.cq (dr (ay (A:=[pI (3), .d (.slice (([]:(List UInt8)).map aa)),pS ([]:List UInt8)]) (b:=16) rfl (aj _) rfl) (Nat.succ_pos _))) (And.intro (aN.tmp rfl) trivial)) (by simp only [PV.cN,PV.dW,iu,bK,Option.bind_some,Option.map_some,cNode]<;>rfl) rfl
noncomputable def ff (self:(List UInt8)→Option Bool) (s0:(List UInt8)):Option Bool:=
  (bif ((s0==([]:List UInt8))||(decide ((s0.length:Int)=(32:Int)))) then
  some true
  else
  (bif (decide ((31:Int)<(s0.length:Int))) then
  some false
  else
  ((uM self s0).bind fun (x_3:(Node×Bool))=>
  some (x_3.2))))
theorem AG (self:(List UInt8)→Option Bool) (dZ:∀ (y0:(List UInt8)) (rr:Bool),self y0=some rr→cD Tryz.prog 68 [.val (sV y0)] (.val (.bool rr))) (s0:(List UInt8)) (r:Bool) (h:ff self s0=some r):cD Tryz.prog 68 [.val (sV s0)] (.val (.bool r)):=by
 refine fQ Tryz.func68 Tryz.ntmps68 TT.Wa ?_
 unfold ff at h
 refine sR ?_
 refine xz 2 (pB false) ?_
 refine QW.seq ?_
 refine sR ?_
 refine xm 5 (pS s0) ?_
 refine xS 6 (jW s0 ([]:List UInt8) ?_)
 refine xm 7 (pB (s0==([]:List UInt8))) ?_
 refine xg 8 (pS s0) rfl rfl (fun hg=>ax (pS s0) g3) ?_
 refine xg 9 (pI (s0.length:Int)) rfl rfl (fun hg=>eU s0 TT.bh g3) ?_
 refine xg 10 (pB (decide ((s0.length:Int)=(32:Int)))) rfl rfl (fun hg=>dj (s0.length:Int) (32:Int) g3) ?_
 refine xT 11 (fh ?_)
 refine cT ((s0==([]:List UInt8))||(decide ((s0.length:Int)=(32:Int)))) (fun c8=>?_) (fun c8=>?_)
 ·replace h:=bT h c8
  refine sR ?_
  refine xz 2 (pB true) ?_
  refine QW.ret zL (dc ?_)
  obtain rfl:=sO h
  exact eO
 ·replace h:=bF h c8
  refine sk ?_
  refine QW.seq ?_
  refine sR ?_
  refine xm 12 (pS s0) ?_
  refine xS 13 (eU s0 TT.bh ?_)
  refine xT 14 (kU (s0.length:Int) (31:Int) ?_)
  refine cT (decide ((31:Int)<(s0.length:Int))) (fun cQ=>?_) (fun cQ=>?_)
  ·replace h:=bT h cQ
   refine sR ?_
   refine xz 2 (pB false) ?_
   refine QW.ret zL (dc ?_)
   obtain rfl:=sO h
   exact eO
  ·replace h:=bF h cQ
   refine sk ?_
   refine sR ?_
   refine xm 16 (pS s0) ?_
   obtain ⟨x_3,ri,h⟩:=bO h
   refine xS 17 (az (Ay self dZ s0 _ ri) ?_)
   refine xm 15 (.d (.tuple [.agg (cNode (x_3.1)), .val (.bool (x_3.2))])) ?_
   refine xS 18 (aY ?_)
   refine xS 19 (aY ?_)
   refine xS 3 (bl (([pI (0), .full (([]:(List UInt8)).map aa),pS ([]:List UInt8)])++(((aD.rep 16 ([]:(List UInt8))).1.map eS).map PV.d)) TT.kj ?_)
   refine xN (aV (([pI ((x_3.1).aG), .d (.slice (((x_3.1).av).map aa)),pS ((x_3.1).aq)])++((((x_3.1).aC).1.map eS).map PV.d)) (c:=(([pI ((x_3.1).aG), .d (.slice (((x_3.1).av).map aa)),pS ((x_3.1).aq)])++((((x_3.1).aC).1.map eS).map PV.d))) TT.cq ?_ (hc:=by exact show (cNode (x_3.1)).map PV.d=_ by simp only [cNode,List.map_append];rfl) (hn:=by exact ay (A:=[pI ((x_3.1).aG), .d (.slice (((x_3.1).av).map aa)),pS ((x_3.1).aq)]) (b:=16) rfl (aj _) rfl) (hf:=by exact bz (ay (A:=[pI (0), .full (([]:(List UInt8)).map aa),pS ([]:List UInt8)]) (b:=16) rfl (aj _) rfl) bL) (hl:=by exact cE ((ay (A:=[pI (0), .full (([]:(List UInt8)).map aa),pS ([]:List UInt8)]) (b:=16) rfl (aj _) rfl).trans (ay (A:=[pI ((x_3.1).aG), .d (.slice (((x_3.1).av).map aa)),pS ((x_3.1).aq)]) (b:=16) rfl (aj _) rfl).symm)))
   refine xz 4 (pB (x_3.2)) ?_
   refine sR ?_
   refine xm 20 (pB (x_3.2)) ?_
   refine xz 2 (pB (x_3.2)) ?_
   refine QW.ret zL ?_
   obtain rfl:=sO h
   exact eO
noncomputable def ef:Nat→(List UInt8)→Option Bool
 | 0=>fun _=>none
 | n+1=>fun y0=>ff (ef n) y0
theorem tZ:∀ (n:Nat) (y0:(List UInt8)) (rr:Bool),ef n y0=some rr→cD Tryz.prog 68 [.val (sV y0)] (.val (.bool rr))
 | 0,_,_,h=>by cases h
 | n+1,y0,rr,h=>AG (ef n) (tZ n) y0 rr h
noncomputable def oR (y0:(List UInt8)):Option Bool:=vG (fun n=>ef n y0)
theorem Bv (y0:(List UInt8)) (rr:Bool) (h:oR y0=some rr):cD Tryz.prog 68 [.val (sV y0)] (.val (.bool rr)):=by
 obtain ⟨n,hn⟩:=n8 h
 exact tZ n y0 rr hn
noncomputable def z4 (s0:(List UInt8)):Option (Node×Bool):=uM oR s0
theorem Im (s0:(List UInt8)) (r:(Node×Bool)) (h:z4 s0=some r):cD Tryz.prog 22 [.val (sV s0)] (.tuple [.agg (cNode (r.1)), .val (.bool (r.2))]):=Ay oR Bv s0 r h
noncomputable def rC (a0:Node) (b1:Node):Option Bool:=
  some ((((decide ((a0.aG)=(b1.aG)))&&(a0.av==b1.av))&&(a0.aq==b1.aq))&&(B9 (a0.aC) (b1.aC)))
theorem Gw (a0:Node) (b1:Node) (r:Bool) (h:rC a0 b1=some r):cD Tryz.prog 24 [.agg (cNode a0), .agg (cNode b1)] (.val (.bool r)):=by
 refine fQ Tryz.func24 Tryz.ntmps24 TT.VZ ?_
 unfold rC at h
 refine sR ?_
 refine XK.fz (some 2) rfl rfl (eE (cNode a0) rfl rfl rfl rfl bK ?_)
 refine XK.fz (some 3) rfl rfl (eE (cNode b1) rfl rfl rfl rfl bK ?_)
 refine xz 4 (pB false) ?_
 refine sR ?_
 refine xS 5 (aL TT.iV ?_)
 refine xS 6 (aA (.val (.int .i64 (a0.aG))) TT.jl ?_ (h:=jN _))
 refine xS 7 (aL TT.iV ?_)
 refine xS 8 (aA (.val (.int .i64 (b1.aG))) TT.jl ?_ (h:=jN _))
 refine xS 9 (dj (a0.aG) (b1.aG) ?_)
 refine xm 10 (pB (decide ((a0.aG)=(b1.aG)))) ?_
 refine xg 11 (.d (.cF ((cNode a0).drop 1))) rfl rfl (fun hg=>aL TT.j5 g3) ?_
 refine xg 12 (.d (.slice ((a0.av).map aa))) rfl rfl (fun hg=>aA (.slice ((a0.av).map aa)) TT.fJ g3 (h:=ja _)) ?_
 refine xg 13 (pS (a0.av)) rfl rfl (fun hg=>nk a0.av TT.bt TT.dw TT.bh g3) ?_
 refine xg 14 (.d (.cF ((cNode b1).drop 1))) rfl rfl (fun hg=>aL TT.j5 g3) ?_
 refine xg 15 (.d (.slice ((b1.av).map aa))) rfl rfl (fun hg=>aA (.slice ((b1.av).map aa)) TT.fJ g3 (h:=ja _)) ?_
 refine xg 16 (pS (b1.av)) rfl rfl (fun hg=>nk b1.av TT.bt TT.dw TT.bh g3) ?_
 refine xg 17 (pB (a0.av==b1.av)) rfl rfl (fun hg=>jW a0.av b1.av g3) ?_
 refine xS 18 (cO ?_)
 refine xm 19 (pB ((decide ((a0.aG)=(b1.aG)))&&(a0.av==b1.av))) ?_
 refine xg 20 (.d (.cF ((cNode a0).drop 2))) rfl rfl (fun hg=>aL TT.kH g3) ?_
 refine xg 21 (pS (a0.aq)) rfl rfl (fun hg=>aA (.val (sV (a0.aq))) TT.eG g3 (h:=jO _)) ?_
 refine xg 22 (.d (.cF ((cNode b1).drop 2))) rfl rfl (fun hg=>aL TT.kH g3) ?_
 refine xg 23 (pS (b1.aq)) rfl rfl (fun hg=>aA (.val (sV (b1.aq))) TT.eG g3 (h:=jO _)) ?_
 refine xg 24 (pB (a0.aq==b1.aq)) rfl rfl (fun hg=>jW a0.aq b1.aq g3) ?_
 refine xS 25 (cO ?_)
 refine xm 26 (pB (((decide ((a0.aG)=(b1.aG)))&&(a0.av==b1.av))&&(a0.aq==b1.aq))) ?_
 refine xg 27 (.d (.cF ((cNode a0).drop 3))) rfl rfl (fun hg=>aL TT.iW g3) ?_
 refine xg 28 (.d (.agg ((a0.aC).1.map eS))) rfl rfl (fun hg=>aA (.agg ((a0.aC).1.map eS)) TT.B6 g3 (h:=x5 _)) ?_
 refine xg 29 (.d (.cF ((cNode b1).drop 3))) rfl rfl (fun hg=>aL TT.iW g3) ?_
 refine xg 30 (.d (.agg ((b1.aC).1.map eS))) rfl rfl (fun hg=>aA (.agg ((b1.aC).1.map eS)) TT.B6 g3 (h:=x5 _)) ?_
 refine xg 31 (pB (B9 (a0.aC) (b1.aC))) rfl rfl (fun hg=>Ql rfl rfl rfl rfl (Tf (a0.aC) (b1.aC)) g3) ?_
 refine xS 32 (cO ?_)
 refine xz 4 (pB ((((decide ((a0.aG)=(b1.aG)))&&(a0.av==b1.av))&&(a0.aq==b1.aq))&&(B9 (a0.aC) (b1.aC)))) ?_
 refine QW.ret zL ?_
 obtain rfl:=sO h
 exact eO
end Go.Proofs.YtlfjfoknbjcncaaGreat.K
namespace Go.Proofs.YtlfjfoknbjcncaaGreat.K
open Go Go.RowKit
set_option linter.unusedSimpArgs false
set_option linter.unusedVariables false
set_option maxRecDepth 20000
set_option maxHeartbeats 4000000
namespace TT
theorem Ep:qH Tryz.prog 26=some (33,48):=by kernel_rfl
end TT
inductive vB where
 | S
 | L1 (v3:Int) (v4:Int)
noncomputable def oS (l0:(List In)):vB→Option (vB⊕Int)
 | .S=>
  gO (0≤(0:Int)∧(0:Int)<(l0.length:Int)) (
  some (.inl (.L1 (((idx l0 (0:Int)).av).length:Int) (1))))
 | .L1 v3 v4=>
  (bif (decide (v4<(l0.length:Int))) then
  gO (0≤(0:Int)∧(0:Int)<(l0.length:Int)) (
  gO (0≤v4∧v4<(l0.length:Int)) (
  ((Au ((idx l0 (0:Int)).av) ((idx l0 v4).av)).bind fun (x_6:Int)=>
  ((zX v3 x_6).bind fun (x_8:Int)=>
  gO (bf (v4+(1:Int))) (
  some (.inl (.L1 x_8 (v4+(1:Int)))))))))
  else
  some (.inr v3))
noncomputable def Az (l0:(List In)):Option Int:=gJ (oS l0) .S
inductive yA where
 | S
 | L1 (v5:(List In)) (v6:Int)
noncomputable def qy (l0:(List In)) (n1:Int):yA→Option (yA⊕(List In))
 | .S=>
  some (.inl (.L1 ([]:(List In)) (0)))
 | .L1 v5 v6=>
  (bif (decide (v6<(l0.length:Int))) then
  gO (0≤v6∧v6<(l0.length:Int)) (
  gO (0≤n1∧n1≤(((idx l0 v6).av).length:Int)∧(((idx l0 v6).av).length:Int)≤(((idx l0 v6).av).length:Int)) (
  gO (0≤v6∧v6<(l0.length:Int)) (
  gO ((v5.length+([(⟨(sub ((idx l0 v6).av) n1 (((idx l0 v6).av).length:Int)),(idx l0 v6).aq⟩:In)]:List In).length)*40≤140737488355328) (
  gO (bf (v6+(1:Int))) (
  some (.inl (.L1 (v5++([(⟨(sub ((idx l0 v6).av) n1 (((idx l0 v6).av).length:Int)),(idx l0 v6).aq⟩:In)]:List In)) (v6+(1:Int)))))))))
  else
  some (.inr v5))
noncomputable def yB (l0:(List In)) (n1:Int):Option (List In):=gJ (qy l0 n1) .S
inductive tE where
 | S
 | L1 (cr:(List In)) (v6:Int)
noncomputable def pQ (l0:(List In)) (c1:Int):tE→Option (tE⊕(List In))
 | .S=>
  some (.inl (.L1 ([]:(List In)) (0)))
 | .L1 cr v6=>
  (bif (decide (v6<(l0.length:Int))) then
  ((gO (0≤v6∧v6<(l0.length:Int)) (
  gO (0≤(0:Int)∧(0:Int)<(((idx l0 v6).av).length:Int)) (
  (bif (decide (((idx ((idx l0 v6).av) (0:Int)).toNat:Int)=c1)) then
  gO (0≤v6∧v6<(l0.length:Int)) (
  gO ((cr.length+([(idx l0 v6)]:List In).length)*40≤140737488355328) (
  some (cr++([(idx l0 v6)]:List In))))
  else
  some cr))):Option (List In)).bind fun (ZK:(List In))=>
  gO (bf (v6+(1:Int))) (
  some (.inl (.L1 ZK (v6+(1:Int))))))
  else
  some (.inr cr))
noncomputable def Bw (l0:(List In)) (c1:Int):Option (List In):=gJ (pQ l0 c1) .S
inductive yC where
 | S
 | L1 (v7:Int) (sF:(aD 16 (List UInt8)))
noncomputable def jQ (self:(List In)→Option (List UInt8)) (l0:(List In)):yC→Option (yC⊕(Node×Bool))
 | .S=>
  (bif (decide ((l0.length:Int)=(0:Int))) then
  some (.inr ((⟨0,([]:(List UInt8)),([]:List UInt8),(aD.rep 16 ([]:(List UInt8)))⟩:Node),false))
  else
  (bif (decide ((l0.length:Int)=(1:Int))) then
  gO (0≤(0:Int)∧(0:Int)<(l0.length:Int)) (
  gO (0≤(0:Int)∧(0:Int)<(l0.length:Int)) (
  some (.inr ((⟨1,(idx l0 (0:Int)).av,(idx l0 (0:Int)).aq,(aD.rep 16 ([]:(List UInt8)))⟩:Node),true))))
  else
  ((Az l0).bind fun (x_5:Int)=>
  (bif (decide ((0:Int)<x_5)) then
  gO (0≤(0:Int)∧(0:Int)<(l0.length:Int)) (
  gO (0≤(0:Int)∧(0:Int)≤x_5∧x_5≤(((idx l0 (0:Int)).av).length:Int)) (
  ((yB l0 x_5).bind fun (x_10:(List In))=>
  ((self x_10).bind fun (x_12:(List UInt8))=>
  ((qj x_12).bind fun (x_14:(List UInt8))=>
  some (.inr ((⟨2,(sub ((idx l0 (0:Int)).av) (0:Int) x_5),([]:List UInt8),((aD.rep 16 ([]:(List UInt8))).put (0:Int) x_14)⟩:Node),true)))))))
  else
  some (.inl (.L1 (0) (aD.rep 16 ([]:(List UInt8)))))))))
 | .L1 v7 sF=>
  (bif (decide (v7<(16:Int))) then
  ((Bw l0 v7).bind fun (x_18:(List In))=>
  ((yB x_18 (1)).bind fun (x_20:(List In))=>
  ((self x_20).bind fun (x_22:(List UInt8))=>
  ((qj x_22).bind fun (x_24:(List UInt8))=>
  gO (0≤v7∧v7<((16:Nat):Int)) (
  gO (bf (v7+(1:Int))) (
  some (.inl (.L1 (v7+(1:Int)) (sF.put v7 x_24)))))))))
  else
  some (.inr ((⟨3,([]:(List UInt8)),([]:List UInt8),sF⟩:Node),true)))
noncomputable def xk (self:(List In)→Option (List UInt8)) (l0:(List In)):Option (Node×Bool):=gJ (jQ self l0) .S
noncomputable def yD (self:(List In)→Option (List UInt8)) (l0:(List In)):Option (List UInt8):=
  ((xk self l0).bind fun (x_1:(Node×Bool))=>
  (bif (!(x_1).2) then
  some ([]:List UInt8)
  else
  ((mc (x_1.1)).bind fun (x_4:(List UInt8))=>
  some x_4)))
noncomputable def ov:Nat→(List In)→Option (List UInt8)
 | 0=>fun _=>none
 | n+1=>fun y0=>yD (ov n) y0
noncomputable def wu (y0:(List In)):Option (List UInt8):=vG (fun n=>ov n y0)
end Go.Proofs.YtlfjfoknbjcncaaGreat.K
namespace Go.Proofs.YtlfjfoknbjcncaaGreat.K
open Go Go.RowKit
set_option linter.unusedSimpArgs false
set_option linter.unusedVariables false
set_option maxRecDepth 20000
set_option maxHeartbeats 4000000
namespace TT
theorem Bx:sv Tryz.prog 43=some ([Value.int IntKind.u8 0,Value.int IntKind.u8 0,Value.int IntKind.u8 0,Value.int IntKind.u8 0,Value.int IntKind.u8 0,Value.int IntKind.u8 0,Value.int IntKind.u8 0,Value.int IntKind.u8 0,Value.int IntKind.u8 0,Value.int IntKind.u8 0,Value.int IntKind.u8 0,Value.int IntKind.u8 0,Value.int IntKind.u8 0,Value.int IntKind.u8 0,Value.int IntKind.u8 0,Value.int IntKind.u8 0,Value.int IntKind.u8 0,Value.int IntKind.u8 0,Value.int IntKind.u8 0,Value.int IntKind.u8 0,Value.int IntKind.u8 0,Value.int IntKind.u8 0,Value.int IntKind.u8 0,Value.int IntKind.u8 0,Value.int IntKind.u8 0,Value.int IntKind.u8 0,Value.int IntKind.u8 0,Value.int IntKind.u8 0,Value.int IntKind.u8 0,Value.int IntKind.u8 0,Value.int IntKind.u8 0,Value.int IntKind.u8 0,Value.string ⟨#[]⟩], .inl [(0,32),(32,1)]):=by kernel_rfl
theorem Wf:Tryz.f17.results.toList=[.tmp 2]:=rfl
theorem X2:Tryz.f5.results.toList=[.tmp 4]:=rfl
theorem X3:Tryz.f6.results.toList=[.tmp 0]:=rfl
theorem Kd:m7 Tryz.prog 28=some [Value.int IntKind.u8 0,Value.int IntKind.u8 0,Value.int IntKind.u8 0,Value.int IntKind.u8 0,Value.int IntKind.u8 0,Value.int IntKind.u8 0,Value.int IntKind.u8 0,Value.int IntKind.u8 0,Value.int IntKind.u8 0,Value.int IntKind.u8 0,Value.int IntKind.u8 0,Value.int IntKind.u8 0,Value.int IntKind.u8 0,Value.int IntKind.u8 0,Value.int IntKind.u8 0,Value.int IntKind.u8 0,Value.int IntKind.u8 0,Value.int IntKind.u8 0,Value.int IntKind.u8 0,Value.int IntKind.u8 0,Value.int IntKind.u8 0,Value.int IntKind.u8 0,Value.int IntKind.u8 0,Value.int IntKind.u8 0,Value.int IntKind.u8 0,Value.int IntKind.u8 0,Value.int IntKind.u8 0,Value.int IntKind.u8 0,Value.int IntKind.u8 0,Value.int IntKind.u8 0,Value.int IntKind.u8 0,Value.int IntKind.u8 0]:=by kernel_rfl
end TT
theorem rD (v0:(aD 32 UInt8)) (v1:(List UInt8)):(lX (some ([Value.int IntKind.u8 0,Value.int IntKind.u8 0,Value.int IntKind.u8 0,Value.int IntKind.u8 0,Value.int IntKind.u8 0,Value.int IntKind.u8 0,Value.int IntKind.u8 0,Value.int IntKind.u8 0,Value.int IntKind.u8 0,Value.int IntKind.u8 0,Value.int IntKind.u8 0,Value.int IntKind.u8 0,Value.int IntKind.u8 0,Value.int IntKind.u8 0,Value.int IntKind.u8 0,Value.int IntKind.u8 0,Value.int IntKind.u8 0,Value.int IntKind.u8 0,Value.int IntKind.u8 0,Value.int IntKind.u8 0,Value.int IntKind.u8 0,Value.int IntKind.u8 0,Value.int IntKind.u8 0,Value.int IntKind.u8 0,Value.int IntKind.u8 0,Value.int IntKind.u8 0,Value.int IntKind.u8 0,Value.int IntKind.u8 0,Value.int IntKind.u8 0,Value.int IntKind.u8 0,Value.int IntKind.u8 0,Value.int IntKind.u8 0,Value.string ⟨#[]⟩], .inl [(0,32),(32,1)])) [(0, .d (.agg (v0.1.map aa))),(1,pS v1)]).2∧(lX (some ([Value.int IntKind.u8 0,Value.int IntKind.u8 0,Value.int IntKind.u8 0,Value.int IntKind.u8 0,Value.int IntKind.u8 0,Value.int IntKind.u8 0,Value.int IntKind.u8 0,Value.int IntKind.u8 0,Value.int IntKind.u8 0,Value.int IntKind.u8 0,Value.int IntKind.u8 0,Value.int IntKind.u8 0,Value.int IntKind.u8 0,Value.int IntKind.u8 0,Value.int IntKind.u8 0,Value.int IntKind.u8 0,Value.int IntKind.u8 0,Value.int IntKind.u8 0,Value.int IntKind.u8 0,Value.int IntKind.u8 0,Value.int IntKind.u8 0,Value.int IntKind.u8 0,Value.int IntKind.u8 0,Value.int IntKind.u8 0,Value.int IntKind.u8 0,Value.int IntKind.u8 0,Value.int IntKind.u8 0,Value.int IntKind.u8 0,Value.int IntKind.u8 0,Value.int IntKind.u8 0,Value.int IntKind.u8 0,Value.int IntKind.u8 0,Value.string ⟨#[]⟩], .inl [(0,32),(32,1)])) [(0, .d (.agg (v0.1.map aa))),(1,pS v1)]).1= .agg ((g9 (⟨v0,v1⟩:b8)).map .d):=
 cI rfl (show (lW _ ((g9 ({fG:=(aD.rep 32 (0:UInt8)),aq:=([]:(List UInt8))}:b8)).map PV.d) _).2∧(lW _ ((g9 ({fG:=(aD.rep 32 (0:UInt8)),aq:=([]:(List UInt8))}:b8)).map PV.d) _).1=_ from (bY rfl rfl (show ((v0.1.map aa).map PV.d).length=32 by rw [List.length_map,List.length_map,v0.2]) (by rw [List.length_map,dD.len];decide) (MB _ v0) (bY rfl rfl rfl (by rw [List.length_map,dD.len];decide) (MC _ v1) cH)))
noncomputable def lD:Option Bool:=
  ((sg ([(⟨(aD.rep 32 (0:UInt8)),([120]:List UInt8)⟩:b8),(⟨((aD.rep 32 (0:UInt8)).put (0:Int) (16:UInt8)),([121]:List UInt8)⟩:b8)]:List b8)).bind fun (x_1:Tree)=>
  ((kL x_1 ((aD.rep 32 (0:UInt8)).put (0:Int) (16:UInt8))).bind fun (x_3:((List UInt8)×Int))=>
  ((mF x_1 (aD.rep 32 (0:UInt8))).bind fun (x_5:(Tree×Int))=>
  ((lN x_1).bind fun (x_7:(Node×(List Tree)))=>
  ((bif ((((x_3.1==([121]:List UInt8))&&(decide ((x_3.2)=(0:Int))))&&(decide ((x_5.2)=(0:Int))))==true) then jP (x_5.1) else some default).bind fun (x_9:(List UInt8))=>
  ((bif ((((x_3.1==([121]:List UInt8))&&(decide ((x_3.2)=(0:Int))))&&(decide ((x_5.2)=(0:Int))))==true) then sg ([(⟨((aD.rep 32 (0:UInt8)).put (0:Int) (16:UInt8)),([121]:List UInt8)⟩:b8)]:List b8) else some default).bind fun (x_11:Tree)=>
  ((bif ((((x_3.1==([121]:List UInt8))&&(decide ((x_3.2)=(0:Int))))&&(decide ((x_5.2)=(0:Int))))==true) then jP x_11 else some default).bind fun (x_13:(List UInt8))=>
  ((bif (((((((x_3.1==([121]:List UInt8))&&(decide ((x_3.2)=(0:Int))))&&(decide ((x_5.2)=(0:Int))))&&(x_9==x_13))&&(decide (((x_7.1).aG)=(3:Int))))&&(decide (((x_7.2).length:Int)=(2:Int))))==true) then jP (x_5.1) else some default).bind fun (x_15:(List UInt8))=>
  ((bif ((((((((x_3.1==([121]:List UInt8))&&(decide ((x_3.2)=(0:Int))))&&(decide ((x_5.2)=(0:Int))))&&(x_9==x_13))&&(decide (((x_7.1).aG)=(3:Int))))&&(decide (((x_7.2).length:Int)=(2:Int))))&&(!(x_15==([]:List UInt8))))==true) then mU (⟨af.nil⟩:Tree) else some default).bind fun (x_17:Bool)=>
  some ((((((((x_3.1==([121]:List UInt8))&&(decide ((x_3.2)=(0:Int))))&&(decide ((x_5.2)=(0:Int))))&&(x_9==x_13))&&(decide (((x_7.1).aG)=(3:Int))))&&(decide (((x_7.2).length:Int)=(2:Int))))&&(!(x_15==([]:List UInt8))))&&x_17))))))))))
theorem y8 (r:Bool) (h:lD=some r):cD Tryz.prog 6 [] (.val (.bool r)):=by
 refine fQ Tryz.func6 Tryz.ntmps6 TT.X3 ?_
 unfold lD at h
 refine sR ?_
 refine xz 0 (pB false) ?_
 refine sR ?_
 refine xS 1 (bl (((aD.rep 32 (0:UInt8)).1.map aa).map .d) TT.Kd ?_)
 refine xT 2 (bl (((aD.rep 32 (0:UInt8)).1.map aa).map .d) TT.Kd ?_)
 refine sR ?_
 refine xS 10 (cZ (0:Int) TT.HI ?_ (h:=by exact show 0≤(0:Int)∧(0:Int)<((32:Nat):Int) by decide))
 refine xN (aV ((((aD.rep 32 (0:UInt8)).put (0:Int) (16:UInt8)).1.map aa).map .d) (c:=[.d (.val (.int .u8 ((16:UInt8).toNat:Int)))]) TT.l6 ?_ (hf:=by exact uV (show 0≤(0:Int)∧(0:Int)<((32:Nat):Int) by decide)) (hl:=by exact s7 (show 0≤(0:Int)∧(0:Int)<((32:Nat):Int) by decide)))
 refine XK.nz ?_
 refine sR ?_
 refine xA 11 (aW (.agg (((aD.rep 32 (0:UInt8)).1.map aa).map .d)) TT.qu ⟨.d (.agg ((aD.rep 32 (0:UInt8)).1.map aa)),jk,?_⟩ (h:=by exact lq (by decide)))
 refine xA 12 (dX (.agg ((g9 (⟨(aD.rep 32 (0:UInt8)),([120]:List UInt8)⟩:b8)).map .d)) rfl TT.Bx (rD (aD.rep 32 (0:UInt8)) ([120]:List UInt8)) ⟨.d (.agg (g9 (⟨(aD.rep 32 (0:UInt8)),([120]:List UInt8)⟩:b8))),jk,?_⟩)
 refine xA 13 (aW (.agg ((((aD.rep 32 (0:UInt8)).put (0:Int) (16:UInt8)).1.map aa).map .d)) TT.qu ⟨.d (.agg (((aD.rep 32 (0:UInt8)).put (0:Int) (16:UInt8)).1.map aa)),jk,?_⟩ (h:=by exact lq (by decide)))
 refine xA 14 (dX (.agg ((g9 (⟨((aD.rep 32 (0:UInt8)).put (0:Int) (16:UInt8)),([121]:List UInt8)⟩:b8)).map .d)) rfl TT.Bx (rD ((aD.rep 32 (0:UInt8)).put (0:Int) (16:UInt8)) ([121]:List UInt8)) ⟨.d (.agg (g9 (⟨((aD.rep 32 (0:UInt8)).put (0:Int) (16:UInt8)),([121]:List UInt8)⟩:b8))),jk,?_⟩)
 refine xS 15 (eA iD ([(⟨(aD.rep 32 (0:UInt8)),([120]:List UInt8)⟩:b8),(⟨((aD.rep 32 (0:UInt8)).put (0:Int) (16:UInt8)),([121]:List UInt8)⟩:b8)]:List b8) TT.Ep ?_ (hl:=dD) (hx:=by first | rfl | (simp only [List.map_cons,List.map_nil,B5];rfl)))
 obtain ⟨x_1,fk,h⟩:=bO h
 refine xS 16 (az (zV ([(⟨(aD.rep 32 (0:UInt8)),([120]:List UInt8)⟩:b8),(⟨((aD.rep 32 (0:UInt8)).put (0:Int) (16:UInt8)),([121]:List UInt8)⟩:b8)]:List b8) _ fk) ?_)
 refine xS 3 (bl [.d (ai (af.nil))] TT.nc ?_)
 refine xN (aV [.d (ai (x_1.fp))] TT.eI ?_)
 refine XK.nz ?_
 refine sR ?_
 refine xA 18 (aW (.agg [.d (ai (x_1.fp))]) TT.eI ⟨.d (.agg (dQ x_1)),(fX.cN rfl),?_⟩)
 refine xA 19 (aW (.agg ((((aD.rep 32 (0:UInt8)).put (0:Int) (16:UInt8)).1.map aa).map .d)) TT.qu ⟨.d (.agg (((aD.rep 32 (0:UInt8)).put (0:Int) (16:UInt8)).1.map aa)),jk,?_⟩ (h:=by exact lq (by decide)))
 obtain ⟨x_3,ri,h⟩:=bO h
 refine xS 20 (az (w8 x_1 ((aD.rep 32 (0:UInt8)).put (0:Int) (16:UInt8)) _ ri) ?_)
 refine xm 17 (.d (.tuple [.val (sV (x_3.1)), .val (.int .i64 (x_3.2))])) ?_
 refine xS 21 (aY ?_)
 refine xS 22 (aY ?_)
 refine xa 4 (pS (x_3.1)) ?_
 refine xz 5 (pI (x_3.2)) ?_
 refine QW.seq ?_
 refine QW.view (s':=⟨bW [(1, .aR 0 0),(2, .aR 1 0),(3, .aR 2 0),(4,pS (x_3.1)),(5,pI (x_3.2))],aK [.var (((aD.rep 32 (0:UInt8)).1.map aa).map .d), .var ((((aD.rep 32 (0:UInt8)).put (0:Int) (16:UInt8)).1.map aa).map .d), .var [.d (ai (x_1.fp))]],3,[]⟩) (vM 3 [0,1,2]) zL ?_
 refine rG ?_
 refine xA 24 (aW (.agg [.d (ai (x_1.fp))]) TT.eI ⟨.d (.agg (dQ x_1)),(fX.cN rfl),?_⟩)
 refine xA 25 (aW (.agg (((aD.rep 32 (0:UInt8)).1.map aa).map .d)) TT.qu ⟨.d (.agg ((aD.rep 32 (0:UInt8)).1.map aa)),jk,?_⟩ (h:=by exact lq (by decide)))
 obtain ⟨x_5,vH,h⟩:=bO h
 refine xS 26 (az (Dv x_1 (aD.rep 32 (0:UInt8)) _ vH) ?_)
 refine xm 23 (.d (.tuple [.agg (dQ (x_5.1)), .val (.int .i64 (x_5.2))])) ?_
 refine xS 27 (aY ?_)
 refine xS 28 (aY ?_)
 refine xS 6 (bl [.d (ai (af.nil))] TT.nc ?_)
 refine xN (aV [.d (ai ((x_5.1).fp))] TT.eI ?_)
 refine xz 7 (pI (x_5.2)) ?_
 refine sR ?_
 refine xA 30 (aW (.agg [.d (ai (x_1.fp))]) TT.eI ⟨.d (.agg (dQ x_1)),(fX.cN rfl),?_⟩)
 obtain ⟨x_7,oA,h⟩:=bO h
 refine xS 31 (az (vT x_1 _ oA) ?_)
 refine xm 29 (.d (.tuple [.agg (cNode (x_7.1)), .slice ((x_7.2).map gI)])) ?_
 refine xS 32 (aY ?_)
 refine xS 33 (aY ?_)
 refine xS 8 (bl (([pI (0), .full (([]:(List UInt8)).map aa),pS ([]:List UInt8)])++(((aD.rep 16 ([]:(List UInt8))).1.map eS).map PV.d)) TT.kj ?_)
 refine xN (aV (([pI ((x_7.1).aG), .d (.slice (((x_7.1).av).map aa)),pS ((x_7.1).aq)])++((((x_7.1).aC).1.map eS).map PV.d)) (c:=(([pI ((x_7.1).aG), .d (.slice (((x_7.1).av).map aa)),pS ((x_7.1).aq)])++((((x_7.1).aC).1.map eS).map PV.d))) TT.cq ?_ (hc:=by exact show (cNode (x_7.1)).map PV.d=_ by simp only [cNode,List.map_append];rfl) (hn:=by exact ay (A:=[pI ((x_7.1).aG), .d (.slice (((x_7.1).av).map aa)),pS ((x_7.1).aq)]) (b:=16) rfl (aj _) rfl) (hf:=by exact bz (ay (A:=[pI (0), .full (([]:(List UInt8)).map aa),pS ([]:List UInt8)]) (b:=16) rfl (aj _) rfl) bL) (hl:=by exact cE ((ay (A:=[pI (0), .full (([]:(List UInt8)).map aa),pS ([]:List UInt8)]) (b:=16) rfl (aj _) rfl).trans (ay (A:=[pI ((x_7.1).aG), .d (.slice (((x_7.1).av).map aa)),pS ((x_7.1).aq)]) (b:=16) rfl (aj _) rfl).symm)))
 refine xz 9 (.d (.slice ((x_7.2).map gI))) ?_
 refine QW.seq ?_
 refine QW.view (s':=⟨bW [(2, .aR 0 0),(4,pS (x_3.1)),(5,pI (x_3.2)),(6, .aR 1 0),(7,pI (x_5.2)),(8, .aR 2 0),(9, .d (.slice ((x_7.2).map gI)))],aK [.var ((((aD.rep 32 (0:UInt8)).put (0:Int) (16:UInt8)).1.map aa).map .d), .var [.d (ai ((x_5.1).fp))], .var (([pI ((x_7.1).aG), .d (.slice (((x_7.1).av).map aa)),pS ((x_7.1).aq)])++((((x_7.1).aC).1.map eS).map PV.d))],3,[]⟩) (vM 3 [1,3,4]) zL ?_
 refine QW.region zL (PW.nj (id:=7) dG (M:=_) rfl (by kernel_rfl) ?_)
 refine qS 34 (ax (pS (x_3.1)) (q2 ?_))
 refine qS 35 (jW x_3.1 ([121]:List UInt8) (q2 ?_))
 refine qS 36 (ax (pB (x_3.1==([121]:List UInt8))) (q2 ?_))
 refine qg 37 (pI (x_3.2)) rfl (fun hg=>ax (pI (x_3.2)) g3) ?_
 refine qg 38 (pB (decide ((x_3.2)=(0:Int)))) rfl (fun hg=>dj (x_3.2) (0:Int) g3) ?_
 refine qS 39 (cO (q2 ?_))
 refine qS 40 (ax (pB ((x_3.1==([121]:List UInt8))&&(decide ((x_3.2)=(0:Int))))) (q2 ?_))
 refine qg 41 (pI (x_5.2)) rfl (fun hg=>ax (pI (x_5.2)) g3) ?_
 refine qg 42 (pB (decide ((x_5.2)=(0:Int)))) rfl (fun hg=>dj (x_5.2) (0:Int) g3) ?_
 refine qS 43 (cO (q2 ?_))
 refine qS 44 (ax (pB (((x_3.1==([121]:List UInt8))&&(decide ((x_3.2)=(0:Int))))&&(decide ((x_5.2)=(0:Int))))) (q2 ?_))
 refine RQ.gd (v:= .d (.agg (dQ (x_5.1)))) (T:=[1]) (some 45) rfl rfl (by repeat (first | exact trivial | refine ⟨fun q=>by first | rfl | exact q | exact qZ q | exact sQ q,?_⟩)) (fun hg=>aW (.agg [.d (ai ((x_5.1).fp))]) TT.eI ⟨⟨rfl,rfl,rfl⟩,rfl,(fX.cN rfl)⟩) (fun _ i hi=>by simp only [List.mem_singleton] at hi;subst hi;decide) ?_
 obtain ⟨x_9,zI,h⟩:=bO h
 refine qg 46 (pS x_9) rfl (fun hg=>az (mT (x_5.1) _ (bT zI hg)) g3) ?_
 refine RQ.gd (v:= .d (.agg (((aD.rep 32 (0:UInt8)).put (0:Int) (16:UInt8)).1.map aa))) (T:=[0]) (some 47) rfl rfl (by repeat (first | exact trivial | refine ⟨fun q=>by first | rfl | exact q | exact qZ q | exact sQ q,?_⟩)) (fun hg=>aW (.agg ((((aD.rep 32 (0:UInt8)).put (0:Int) (16:UInt8)).1.map aa).map .d)) TT.qu ⟨⟨rfl,rfl,rfl⟩,rfl,jk⟩ (h:=by exact lq (by decide))) (fun _ i hi=>by simp only [List.mem_singleton] at hi;subst hi;decide) ?_
 refine qg 48 (.d (.agg (g9 (⟨((aD.rep 32 (0:UInt8)).put (0:Int) (16:UInt8)),([121]:List UInt8)⟩:b8)))) rfl (fun hg=>dX (.agg ((g9 (⟨((aD.rep 32 (0:UInt8)).put (0:Int) (16:UInt8)),([121]:List UInt8)⟩:b8)).map .d)) rfl TT.Bx (rD ((aD.rep 32 (0:UInt8)).put (0:Int) (16:UInt8)) ([121]:List UInt8)) ⟨⟨rfl,rfl,rfl⟩,rfl,jk⟩) ?_
 refine qg 49 (.full (([(⟨((aD.rep 32 (0:UInt8)).put (0:Int) (16:UInt8)),([121]:List UInt8)⟩:b8)]:List b8).map iD)) rfl (fun hg=>eA iD ([(⟨((aD.rep 32 (0:UInt8)).put (0:Int) (16:UInt8)),([121]:List UInt8)⟩:b8)]:List b8) TT.Ep g3 (hl:=dD) (hx:=by first | rfl | (simp only [List.map_cons,List.map_nil,B5];rfl))) ?_
 obtain ⟨x_11,ta,h⟩:=bO h
 refine qg 50 (.d (.agg (dQ x_11))) rfl (fun hg=>az (zV ([(⟨((aD.rep 32 (0:UInt8)).put (0:Int) (16:UInt8)),([121]:List UInt8)⟩:b8)]:List b8) _ (bT ta hg)) g3) ?_
 obtain ⟨x_13,Dk,h⟩:=bO h
 refine qg 51 (pS x_13) rfl (fun hg=>az (mT x_11 _ (bT Dk hg)) g3) ?_
 refine qg 52 (pB (x_9==x_13)) rfl (fun hg=>jW x_9 x_13 g3) ?_
 refine qS 53 (cO (q2 ?_))
 refine qS 54 (ax (pB ((((x_3.1==([121]:List UInt8))&&(decide ((x_3.2)=(0:Int))))&&(decide ((x_5.2)=(0:Int))))&&(x_9==x_13))) (q2 ?_))
 refine qg 55 (.aR 2 0) rfl (fun hg=>dF TT.iV g3) ?_
 refine RQ.gd (v:=pI ((x_7.1).aG)) (T:=[2]) (some 56) rfl rfl (by repeat (first | exact trivial | refine ⟨fun q=>by first | rfl | exact q | exact qZ q | exact sQ q,?_⟩)) (fun hg=>aW (pI ((x_7.1).aG)) TT.jl g3 (h:=by exact BZ ⟨⟨by simp,by simp⟩,rfl⟩)) (fun _ i hi=>by simp only [List.mem_singleton] at hi;subst hi;decide) ?_
 refine qg 57 (pB (decide (((x_7.1).aG)=(3:Int)))) rfl (fun hg=>dj ((x_7.1).aG) (3:Int) g3) ?_
 refine qS 58 (cO (q2 ?_))
 refine qS 59 (ax (pB (((((x_3.1==([121]:List UInt8))&&(decide ((x_3.2)=(0:Int))))&&(decide ((x_5.2)=(0:Int))))&&(x_9==x_13))&&(decide (((x_7.1).aG)=(3:Int))))) (q2 ?_))
 refine qg 60 (.d (.slice ((x_7.2).map gI))) rfl (fun hg=>ax (.d (.slice ((x_7.2).map gI))) g3) ?_
 refine qg 61 (pI ((x_7.2).length:Int)) rfl (fun hg=>cX gI x_7.2 TT.uw g3) ?_
 refine qg 62 (pB (decide (((x_7.2).length:Int)=(2:Int)))) rfl (fun hg=>dj ((x_7.2).length:Int) (2:Int) g3) ?_
 refine qS 63 (cO (q2 ?_))
 refine qS 64 (ax (pB ((((((x_3.1==([121]:List UInt8))&&(decide ((x_3.2)=(0:Int))))&&(decide ((x_5.2)=(0:Int))))&&(x_9==x_13))&&(decide (((x_7.1).aG)=(3:Int))))&&(decide (((x_7.2).length:Int)=(2:Int))))) (q2 ?_))
 refine RQ.gd (v:= .d (.agg (dQ (x_5.1)))) (T:=[1]) (some 65) rfl rfl (by repeat (first | exact trivial | refine ⟨fun q=>by first | rfl | exact q | exact qZ q | exact sQ q,?_⟩)) (fun hg=>aW (.agg [.d (ai ((x_5.1).fp))]) TT.eI ⟨⟨rfl,rfl,rfl⟩,rfl,(fX.cN rfl)⟩) (fun _ i hi=>by simp only [List.mem_singleton] at hi;subst hi;decide) ?_
 obtain ⟨x_15,r4,h⟩:=bO h
 refine qg 66 (pS x_15) rfl (fun hg=>az (mT (x_5.1) _ (bT r4 hg)) g3) ?_
 refine qg 67 (pB (!(x_15==([]:List UInt8)))) rfl (fun hg=>qq x_15 ([]:List UInt8) g3) ?_
 refine qS 68 (cO (q2 ?_))
 refine qS 69 (ax (pB (((((((x_3.1==([121]:List UInt8))&&(decide ((x_3.2)=(0:Int))))&&(decide ((x_5.2)=(0:Int))))&&(x_9==x_13))&&(decide (((x_7.1).aG)=(3:Int))))&&(decide (((x_7.2).length:Int)=(2:Int))))&&(!(x_15==([]:List UInt8))))) (q2 ?_))
 refine qg 70 (.agg [.d (ai (af.nil))]) rfl (fun hg=>dX (.agg [.d (ai (af.nil))]) rfl TT.ru (cI rfl cH) g3) ?_
 obtain ⟨x_17,zN,h⟩:=bO h
 refine qg 71 (pB x_17) rfl (fun hg=>az (vc (⟨af.nil⟩:Tree) _ (bT zN hg)) g3) ?_
 refine qS 72 (cO (q2 ?_))
 refine qS 0 (cj (pB ((((((((x_3.1==([121]:List UInt8))&&(decide ((x_3.2)=(0:Int))))&&(decide ((x_5.2)=(0:Int))))&&(x_9==x_13))&&(decide (((x_7.1).aG)=(3:Int))))&&(decide (((x_7.2).length:Int)=(2:Int))))&&(!(x_15==([]:List UInt8))))&&x_17)) (q2 ?_))
 refine RQ.nil (cn ?_)
 refine QW.ret zL ?_
 obtain rfl:=sO h
 exact eO
inductive xl where
 | S
 | L1 (v3:(List b8)) (v4:Int)
noncomputable def kf (l0:(List b8)):xl→Option (xl⊕(List b8))
 | .S=>
  some (.inl (.L1 ([]:(List b8)) (0)))
 | .L1 v3 v4=>
  (bif ((decide (v4<(l0.length:Int)))&&(decide (v4<(24:Int)))) then
  gO (0≤v4∧v4<(l0.length:Int)) (
  (((bif ((idx l0 v4).aq==([]:List UInt8)) then
  some (⟨(idx l0 v4).fG,([118]:List UInt8)⟩:b8)
  else
  some (idx l0 v4)):Option b8).bind fun (jF:b8)=>
  (((bif (decide ((100:Int)<((jF.aq).length:Int))) then
  gO (0≤(0:Int)∧(0:Int)≤(100:Int)∧(100:Int)≤((jF.aq).length:Int)) (
  some (⟨jF.fG,(sub (jF.aq) (0:Int) (100:Int))⟩:b8))
  else
  some jF):Option b8).bind fun (yE:b8)=>
  gO ((v3.length+([yE]:List b8).length)*48≤140737488355328) (
  gO (bf (v4+(1:Int))) (
  some (.inl (.L1 (v3++([yE]:List b8)) (v4+(1:Int)))))))))
  else
  some (.inr v3))
noncomputable def xo (l0:(List b8)):Option (List b8):=gJ (kf l0) .S
theorem Fh (l0:(List b8)) (r:(List b8)) (h:xo l0=some r):cD Tryz.prog 17 [.slice (l0.map iD)] (.slice (r.map iD)):=by
 refine fQ Tryz.func17 Tryz.ntmps17 TT.Wf ?_
 obtain ⟨_,h⟩:=cP h
 obtain ⟨dm,e9,h⟩:=aQ h;rw [kf] at h
 refine sR ?_
 refine xz 2 (.full (([]:(List b8)).map iD)) ?_
 refine sR ?_
 refine xz 3 (.full (([]:(List b8)).map iD)) ?_
 refine QW.seq ?_
 refine sR ?_
 refine xz 4 (pI (0)) ?_
 refine QW.block ?_
 refine lp (fun k σ=>∃ v3:(List b8),∃ v4:Int,k≤dm∧run (kf l0) k (.L1 v3 v4)=some r∧σ=⟨bW [(0, .d (.slice (l0.map iD))),(3, .own 0 (v3.map iD)),(4,pI v4)],aK [.spare 33 v3.length],1,[]⟩) dm ⟨([]:(List b8)),0,Nat.le_refl _,jG h,rfl⟩ (View.trans (View.buf 3 33 rfl zL) (vM 1 [0])) ?_
 rintro wP _ ⟨v3,v4,wQ,h,rfl⟩
 obtain ⟨k_1,e9,h⟩:=aQ h;rw [kf] at h
 refine QW.seq ?_
 refine sR ?_
 refine xm 6 (pI v4) ?_
 refine xm 7 (.d (.slice (l0.map iD))) ?_
 refine xS 8 (cX iD l0 TT.Fa ?_)
 refine xS 9 (cM v4 (l0.length:Int) ?_)
 refine xm 10 (pB (decide (v4<(l0.length:Int)))) ?_
 refine xg 11 (pI v4) rfl rfl (fun hg=>ax (pI v4) g3) ?_
 refine xg 12 (pB (decide (v4<(24:Int)))) rfl rfl (fun hg=>cM v4 (24:Int) g3) ?_
 refine xT 13 (cO ?_)
 refine cT ((decide (v4<(l0.length:Int)))&&(decide (v4<(24:Int)))) (fun cQ=>?_) (fun cQ=>?_)
 ·replace h:=ej h cQ
  refine sk ?_
  refine QW.seq ?_
  refine QW.block ?_
  refine sR ?_
  refine xm 16 (.d (.slice (l0.map iD))) ?_
  refine xm 17 (pI v4) ?_
  obtain ⟨eD,h⟩:=gG h
  refine xS 18 (bX l0 v4 TT.MO dD eD ?_)
  refine xS 19 (aA (.agg (g9 (idx l0 v4))) TT.zT ?_ (h:=by exact ⟨by rw [dD.len];decide,congrArg D.agg (List.take_of_length_le (by rw [dD.len];decide))⟩))
  refine xS 5 (bl ((g9 (⟨(aD.rep 32 (0:UInt8)),([]:(List UInt8))⟩:b8)).map .d) TT.J7 ?_)
  refine xN (aV ((g9 (idx l0 v4)).map .d) TT.zT ?_ (hn:=by exact GF (dD.len _)) (hf:=by exact K9 (dD.len _)) (hl:=by exact GD ((dD.len _).trans (dD.len _).symm)))
  refine XK.nz ?_
  obtain ⟨jF,hq,h⟩:=bG h
  refine QW.s6 (fun s'=>s'=⟨bW [(0, .d (.slice (l0.map iD))),(3, .own 0 (v3.map iD)),(4,pI v4),(5, .aR 1 0)],aK [.spare 33 v3.length, .var ((g9 jF).map .d)],2,[]⟩) ?_ ?_
  ·replace h:=hq;clear hq
   refine sR ?_
   refine xS 20 (dF TT.zR ?_)
   refine xS 21 (aW (pS ((idx l0 v4).aq)) TT.eG ?_ (h:=by exact D8 (x4 _) (by rw [dD.len];decide) (by decide)))
   refine xT 22 (jW ((idx l0 v4).aq) ([]:List UInt8) ?_)
   refine cT ((idx l0 v4).aq==([]:List UInt8)) (fun fA=>?_) (fun fA=>?_)
   ·replace h:=bT h fA
    refine rG ?_
    refine xS 23 (dF TT.Dq ?_)
    refine xA 24 (aW _ TT.qu ⟨.d (.agg (((idx l0 v4).fG).1.map aa)),jk,?_⟩ (h:=by exact E0 (A6 _) (by rw [dD.len];decide) (by decide)))
    refine xA 25 (dX (.agg ((g9 (⟨(idx l0 v4).fG,([118]:List UInt8)⟩:b8)).map .d)) rfl TT.Bx (rD ((idx l0 v4).fG) ([118]:List UInt8)) ⟨.d (.agg (g9 (⟨(idx l0 v4).fG,([118]:List UInt8)⟩:b8))),jk,?_⟩)
    refine xN (aV ((g9 (⟨(idx l0 v4).fG,([118]:List UInt8)⟩:b8)).map .d) TT.zT ?_ (hn:=by exact GF (dD.len _)) (hf:=by exact K9 (dD.len _)) (hl:=by exact GD ((dD.len _).trans (dD.len _).symm)))
    refine XK.nz ?_
    obtain rfl:=sO h
    exact jb rfl (vM 2 [0,1])
   ·replace h:=bF h fA
    refine sk ?_
    obtain rfl:=sO h
    exact jb rfl (vM 2 [0,1])
  ·rintro _ rfl
   obtain ⟨yE,hq,h⟩:=bG h
   refine QW.s6 (fun s'=>s'=⟨bW [(0, .d (.slice (l0.map iD))),(3, .own 0 (v3.map iD)),(4,pI v4),(5, .aR 1 0)],aK [.spare 33 v3.length, .var ((g9 yE).map .d)],2,[]⟩) ?_ ?_
   ·replace h:=hq;clear hq
    refine sR ?_
    refine xS 26 (dF TT.zR ?_)
    refine xS 27 (aW (pS (jF.aq)) TT.eG ?_ (h:=by exact D8 (x4 _) (by rw [dD.len];decide) (by decide)))
    refine xS 28 (eU jF.aq TT.bh ?_)
    refine xT 29 (kU ((jF.aq).length:Int) (100:Int) ?_)
    refine cT (decide ((100:Int)<((jF.aq).length:Int))) (fun mO=>?_) (fun mO=>?_)
    ·replace h:=bT h mO
     refine QW.region zL (PW.qX (id:=9) dG (M:=_) rfl (by kernel_rfl) ?_)
     refine kS 30 (dF TT.Dq ?_)
     refine RK.U (some 31) rfl rfl (aW _ TT.qu ⟨.d (.agg ((jF.fG).1.map aa)),jk,?_⟩ (h:=by exact E0 (A6 _) (by rw [dD.len];decide) (by decide)))
     refine kS 32 (dF TT.zR ?_)
     refine kS 33 (aW (pS (jF.aq)) TT.eG ?_ (h:=by exact D8 (x4 _) (by rw [dD.len];decide) (by decide)))
     obtain ⟨oM,h⟩:=bq h
     refine kS 34 (p6 jF.aq (0:Int) (100:Int) TT.bh oM ?_)
     refine RK.U (some 35) rfl rfl (dX (.agg ((g9 (⟨jF.fG,(sub (jF.aq) (0:Int) (100:Int))⟩:b8)).map .d)) rfl TT.Bx (rD (jF.fG) (sub (jF.aq) (0:Int) (100:Int))) ⟨.d (.agg (g9 (⟨jF.fG,(sub (jF.aq) (0:Int) (100:Int))⟩:b8))),jk,?_⟩)
     refine RK.st none rfl rfl (aV ((g9 (⟨jF.fG,(sub (jF.aq) (0:Int) (100:Int))⟩:b8)).map .d) TT.zT ?_ (hn:=by exact GF (dD.len _)) (hf:=by exact K9 (dD.len _)) (hl:=by exact GD ((dD.len _).trans (dD.len _).symm)))
     refine RK.nil ⟨fH.comp (by rfl),(cn ?_)⟩
     obtain rfl:=sO h
     exact jb rfl (vM 2 [0,1])
    ·replace h:=bF h mO
     refine sk ?_
     obtain rfl:=sO h
     exact jb rfl (vM 2 [0,1])
   ·rintro _ rfl
    refine rG ?_
    refine xm 36 (.own 0 (v3.map iD)) ?_
    refine xA 37 (aW (.agg ((g9 yE).map .d)) TT.zT ⟨.d (.agg (g9 yE)),jk,?_⟩ (h:=by exact UE (dD.len _) (by decide)))
    refine xS 38 (eA iD ([yE]:List b8) TT.Ep ?_ (hl:=dD) (hx:=by first | rfl | (simp only [List.map_cons,List.map_nil,B5];rfl)))
    obtain ⟨pJ,h⟩:=gG h
    refine xS 39 (kA iD v3 ([yE]:List b8) TT.Ep TT.Fa pJ ?_ (hl:=dD))
    refine xa 3 (.own 2 ((v3++([yE]:List b8)).map iD)) ?_
    refine XK.nil (iS (cn ?_))
    refine rG ?_
    refine xm 14 (pI v4) ?_
    obtain ⟨uq,h⟩:=gG h
    refine xS 15 (bE v4 (1:Int) uq ?_)
    refine xz 4 (pI (v4+(1:Int))) ?_
    exact lb k_1 ⟨(v3++([yE]:List b8)),(v4+(1:Int)),by omega,jG h,rfl⟩ (vM 1 [2])
 ·replace h:=ek h cQ
  refine QW.exit zL (eP (eP (kW (cn ?_))))
  refine sR ?_
  refine xm 40 (.own 0 (v3.map iD)) ?_
  refine xz 2 (.own 0 (v3.map iD)) ?_
  refine QW.ret zL ?_
  obtain rfl:=sG h
  exact eO
inductive oT where
 | S
 | L1 (v6:Int) (kz:af)
noncomputable def fF (l0:(List b8)) (k1:(aD 32 UInt8)):oT→Option (oT⊕Bool)
 | .S=>
  ((xo l0).bind fun (x_1:(List b8))=>
  ((sg x_1).bind fun (x_3:Tree)=>
  some (.inl (.L1 (0) (x_3.fp)))))
 | .L1 v6 kz=>
  (bif (decide (v6<(70:Int))) then
  ((lN (⟨kz⟩:Tree)).bind fun (x_7:(Node×(List Tree)))=>
  ((mU (⟨kz⟩:Tree)).bind fun (x_9:Bool)=>
  (bif x_9 then
  ((lD).bind fun (x_12:Bool)=>
  some (.inr (((x_12&&(decide (((x_7.1).aG)=(0:Int))))&&(decide (((x_7.2).length:Int)=(0:Int))))&&(decide (v6=(0:Int))))))
  else
  ((jP (⟨kz⟩:Tree)).bind fun (x_14:(List UInt8))=>
  ((z4 x_14).bind fun (x_16:(Node×Bool))=>
  ((oQ (x_7.1) (x_7.2)).bind fun (x_18:(Tree×Int))=>
  ((bif ((!(x_16).2)==false) then rC (x_7.1) (x_16.1) else some default).bind fun (x_20:Bool)=>
  ((bif ((((!(x_16).2)||(!x_20))||(!decide ((x_18.2)=(0:Int))))==false) then jP (x_18.1) else some default).bind fun (x_22:(List UInt8))=>
  ((bif (((((!(x_16).2)||(!x_20))||(!decide ((x_18.2)=(0:Int))))||(!(x_22==x_14)))==false) then gB (⟨kz⟩:Tree) else some default).bind fun (x_24:(List UInt8))=>
  ((bif (((((!(x_16).2)||(!x_20))||(!decide ((x_18.2)=(0:Int))))||(!(x_22==x_14)))==false) then qj x_14 else some default).bind fun (sK:(List UInt8))=>
  (bif (((((!(x_16).2)||(!x_20))||(!decide ((x_18.2)=(0:Int))))||(!(x_22==x_14)))||(!(x_24==sK))) then
  some (.inr false)
  else
  (bif (decide (((x_7.2).length:Int)=(0:Int))) then
  ((lD).bind fun (y7:Bool)=>
  some (.inr (y7&&(decide (((x_7.1).aG)=(1:Int))))))
  else
  gO (0≤(1:Int)∧(1:Int)≤((x_7.2).length:Int)∧((x_7.2).length:Int)≤((x_7.2).length:Int)) (
  ((oQ (x_7.1) (sub (x_7.2) (1:Int) ((x_7.2).length:Int))).bind fun (By:(Tree×Int))=>
  (bif (!decide ((By.2)=(2:Int))) then
  some (.inr false)
  else
  gO (0≤(v6.tmod (32:Int))∧(v6.tmod (32:Int))<((32:Nat):Int)) (
  gO (((x_7.2).length:Int)≠0) (
  gO (0≤(((idx k1.1 (v6.tmod (32:Int))).toNat:Int).tmod ((x_7.2).length:Int))∧(((idx k1.1 (v6.tmod (32:Int))).toNat:Int).tmod ((x_7.2).length:Int))<((x_7.2).length:Int)) (
  gO (bf (v6+(1:Int))) (
  some (.inl (.L1 (v6+(1:Int)) ((idx (x_7.2) (((idx k1.1 (v6.tmod (32:Int))).toNat:Int).tmod ((x_7.2).length:Int))).fp))))))))))))))))))))))
  else
  some (.inr false))
noncomputable def xp (l0:(List b8)) (k1:(aD 32 UInt8)):Option Bool:=gJ (fF l0 k1) .S
theorem Bz (l0:(List b8)) (k1:(aD 32 UInt8)) (r:Bool) (h:xp l0 k1=some r):cD Tryz.prog 5 [.slice (l0.map iD), .agg (k1.1.map aa)] (.val (.bool r)):=by
 refine fQ Tryz.func5 Tryz.ntmps5 TT.X2 ?_
 obtain ⟨_,h⟩:=cP h
 obtain ⟨dm,e9,h⟩:=aQ h;rw [fF] at h
 refine sR ?_
 refine XK.fz (some 3) rfl rfl (eE (k1.1.map aa) rfl rfl rfl rfl bK ?_)
 refine xz 4 (pB false) ?_
 refine sR ?_
 refine xm 16 (.d (.slice (l0.map iD))) ?_
 obtain ⟨x_1,fk,h⟩:=bG h
 refine xS 17 (az (Fh l0 _ fk) ?_)
 refine xz 0 (.d (.slice (x_1.map iD))) ?_
 refine sR ?_
 refine xm 18 (.d (.slice (x_1.map iD))) ?_
 obtain ⟨x_3,ri,h⟩:=bG h
 refine xS 19 (az (zV x_1 _ ri) ?_)
 refine xS 5 (bl [.d (ai (af.nil))] TT.nc ?_)
 refine xN (aV [.d (ai (x_3.fp))] TT.eI ?_)
 refine XK.nz ?_
 refine QW.seq ?_
 refine sR ?_
 refine xz 6 (pI (0)) ?_
 refine QW.block ?_
 refine lp (fun k σ=>∃ v6:Int,∃ kz:af,k≤dm∧run (fF l0 k1) k (.L1 v6 kz)=some r∧σ=⟨bW [(3, .d (.cF (k1.1.map aa))),(5, .aR 0 0),(6,pI v6)],aK [.var [.d (ai kz)]],1,[]⟩) dm ⟨0,x_3.fp,Nat.le_refl _,jG h,rfl⟩ (vM 1 [0]) ?_
 rintro MI _ ⟨v6,kz,MJ,h,rfl⟩
 obtain ⟨Dj,e9,h⟩:=aQ h;rw [fF] at h
 refine QW.seq ?_
 refine sR ?_
 refine xm 20 (pI v6) ?_
 refine xT 21 (cM v6 (70:Int) ?_)
 refine cT (decide (v6<(70:Int))) (fun j4=>?_) (fun j4=>?_)
 ·replace h:=ej h j4
  refine sk ?_
  refine QW.seq ?_
  refine QW.block ?_
  refine sR ?_
  refine xA 25 (aW (.agg [.d (ai kz)]) TT.eI ⟨.d (.agg (dQ (⟨kz⟩:Tree))),(fX.cN rfl),?_⟩)
  obtain ⟨x_7,oA,h⟩:=bG h
  refine xS 26 (az (vT (⟨kz⟩:Tree) _ oA) ?_)
  refine xm 24 (.d (.tuple [.agg (cNode (x_7.1)), .slice ((x_7.2).map gI)])) ?_
  refine xS 27 (aY ?_)
  refine xS 28 (aY ?_)
  refine xS 7 (bl (([pI (0), .full (([]:(List UInt8)).map aa),pS ([]:List UInt8)])++(((aD.rep 16 ([]:(List UInt8))).1.map eS).map PV.d)) TT.kj ?_)
  refine xN (aV (([pI ((x_7.1).aG), .d (.slice (((x_7.1).av).map aa)),pS ((x_7.1).aq)])++((((x_7.1).aC).1.map eS).map PV.d)) (c:=(([pI ((x_7.1).aG), .d (.slice (((x_7.1).av).map aa)),pS ((x_7.1).aq)])++((((x_7.1).aC).1.map eS).map PV.d))) TT.cq ?_ (hc:=by exact show (cNode (x_7.1)).map PV.d=_ by simp only [cNode,List.map_append];rfl) (hn:=by exact ay (A:=[pI ((x_7.1).aG), .d (.slice (((x_7.1).av).map aa)),pS ((x_7.1).aq)]) (b:=16) rfl (aj _) rfl) (hf:=by exact bz (ay (A:=[pI (0), .full (([]:(List UInt8)).map aa),pS ([]:List UInt8)]) (b:=16) rfl (aj _) rfl) bL) (hl:=by exact cE ((ay (A:=[pI (0), .full (([]:(List UInt8)).map aa),pS ([]:List UInt8)]) (b:=16) rfl (aj _) rfl).trans (ay (A:=[pI ((x_7.1).aG), .d (.slice (((x_7.1).av).map aa)),pS ((x_7.1).aq)]) (b:=16) rfl (aj _) rfl).symm)))
  refine xz 8 (.d (.slice ((x_7.2).map gI))) ?_
  refine QW.seq ?_
  refine sR ?_
  refine xA 29 (aW (.agg [.d (ai kz)]) TT.eI ⟨.d (.agg (dQ (⟨kz⟩:Tree))),(fX.cN rfl),?_⟩)
  obtain ⟨x_9,zI,h⟩:=bG h
  refine xT 30 (az (vc (⟨kz⟩:Tree) _ zI) ?_)
  refine cT x_9 (fun kJ=>?_) (fun kJ=>?_)
  ·replace h:=ej h kJ
   refine sR ?_
   obtain ⟨x_12,tg,h⟩:=bG h
   refine xS 31 (az (y8 _ tg) ?_)
   refine xm 32 (pB x_12) ?_
   refine xg 33 (.aR 1 0) rfl rfl (fun hg=>dF TT.iV g3) ?_
   refine XK.gd (v:=pI ((x_7.1).aG)) (T:=[1]) (some 34) rfl rfl (by repeat (first | exact trivial | refine ⟨fun q=>by first | rfl | exact q | exact qZ q | exact sQ q,?_⟩)) (fun hg=>aW (pI ((x_7.1).aG)) TT.jl g3 (h:=by exact BZ ⟨⟨by simp,by simp⟩,rfl⟩)) (fun _ i hi=>by simp only [List.mem_singleton] at hi;subst hi;decide) ?_
   refine xg 35 (pB (decide (((x_7.1).aG)=(0:Int)))) rfl rfl (fun hg=>dj ((x_7.1).aG) (0:Int) g3) ?_
   refine xS 36 (cO ?_)
   refine xm 37 (pB (x_12&&(decide (((x_7.1).aG)=(0:Int))))) ?_
   refine xg 38 (.d (.slice ((x_7.2).map gI))) rfl rfl (fun hg=>ax (.d (.slice ((x_7.2).map gI))) g3) ?_
   refine xg 39 (pI ((x_7.2).length:Int)) rfl rfl (fun hg=>cX gI x_7.2 TT.uw g3) ?_
   refine xg 40 (pB (decide (((x_7.2).length:Int)=(0:Int)))) rfl rfl (fun hg=>dj ((x_7.2).length:Int) (0:Int) g3) ?_
   refine xS 41 (cO ?_)
   refine xm 42 (pB ((x_12&&(decide (((x_7.1).aG)=(0:Int))))&&(decide (((x_7.2).length:Int)=(0:Int))))) ?_
   refine xg 43 (pI v6) rfl rfl (fun hg=>ax (pI v6) g3) ?_
   refine xg 44 (pB (decide (v6=(0:Int)))) rfl rfl (fun hg=>dj v6 (0:Int) g3) ?_
   refine xS 45 (cO ?_)
   refine xz 4 (pB (((x_12&&(decide (((x_7.1).aG)=(0:Int))))&&(decide (((x_7.2).length:Int)=(0:Int))))&&(decide (v6=(0:Int))))) ?_
   refine QW.ret zL (dc (nK (dc (dc (nK (dc ?_))))))
   obtain rfl:=sG h
   exact eO
  ·replace h:=ek h kJ
   refine sk ?_
   refine sR ?_
   refine xA 46 (aW (.agg [.d (ai kz)]) TT.eI ⟨.d (.agg (dQ (⟨kz⟩:Tree))),(fX.cN rfl),?_⟩)
   obtain ⟨x_14,Dx,h⟩:=bG h
   refine xS 47 (az (mT (⟨kz⟩:Tree) _ Dx) ?_)
   refine xz 9 (pS x_14) ?_
   refine sR ?_
   refine xm 49 (pS x_14) ?_
   obtain ⟨x_16,Dl,h⟩:=bG h
   refine xS 50 (az (Im x_14 _ Dl) ?_)
   refine xm 48 (.d (.tuple [.agg (cNode (x_16.1)), .val (.bool (x_16.2))])) ?_
   refine xS 51 (aY ?_)
   refine xS 52 (aY ?_)
   refine xS 10 (bl (([pI (0), .full (([]:(List UInt8)).map aa),pS ([]:List UInt8)])++(((aD.rep 16 ([]:(List UInt8))).1.map eS).map PV.d)) TT.kj ?_)
   refine xN (aV (([pI ((x_16.1).aG), .d (.slice (((x_16.1).av).map aa)),pS ((x_16.1).aq)])++((((x_16.1).aC).1.map eS).map PV.d)) (c:=(([pI ((x_16.1).aG), .d (.slice (((x_16.1).av).map aa)),pS ((x_16.1).aq)])++((((x_16.1).aC).1.map eS).map PV.d))) TT.cq ?_ (hc:=by exact show (cNode (x_16.1)).map PV.d=_ by simp only [cNode,List.map_append];rfl) (hn:=by exact ay (A:=[pI ((x_16.1).aG), .d (.slice (((x_16.1).av).map aa)),pS ((x_16.1).aq)]) (b:=16) rfl (aj _) rfl) (hf:=by exact bz (ay (A:=[pI (0), .full (([]:(List UInt8)).map aa),pS ([]:List UInt8)]) (b:=16) rfl (aj _) rfl) bL) (hl:=by exact cE ((ay (A:=[pI (0), .full (([]:(List UInt8)).map aa),pS ([]:List UInt8)]) (b:=16) rfl (aj _) rfl).trans (ay (A:=[pI ((x_16.1).aG), .d (.slice (((x_16.1).av).map aa)),pS ((x_16.1).aq)]) (b:=16) rfl (aj _) rfl).symm)))
   refine xz 11 (pB (x_16.2)) ?_
   refine sR ?_
   refine xA 54 (aW (.agg (([pI ((x_7.1).aG), .d (.slice (((x_7.1).av).map aa)),pS ((x_7.1).aq)])++((((x_7.1).aC).1.map eS).map PV.d))) TT.cq ⟨.d (.agg (cNode (x_7.1))),(fX.cN (jK (ia rfl bK))),?_⟩ (h:=by exact dr (ay (A:=[pI ((x_7.1).aG), .d (.slice (((x_7.1).av).map aa)),pS ((x_7.1).aq)]) (b:=16) rfl (aj _) rfl) (Nat.succ_pos _)))
   refine xm 55 (.d (.slice ((x_7.2).map gI))) ?_
   obtain ⟨x_18,vt,h⟩:=bG h
   refine xS 56 (az (Bl (x_7.1) (x_7.2) _ vt) ?_)
   refine xm 53 (.d (.tuple [.agg (dQ (x_18.1)), .val (.int .i64 (x_18.2))])) ?_
   refine xS 57 (aY ?_)
   refine xS 58 (aY ?_)
   refine xS 12 (bl [.d (ai (af.nil))] TT.nc ?_)
   refine xN (aV [.d (ai ((x_18.1).fp))] TT.eI ?_)
   refine xz 13 (pI (x_18.2)) ?_
   refine QW.seq ?_
   refine QW.seq ?_
   refine QW.view (s':=⟨bW [(3, .d (.cF (k1.1.map aa))),(5, .aR 0 0),(6,pI v6),(7, .aR 1 0),(8, .d (.slice ((x_7.2).map gI))),(9,pS x_14),(10, .aR 2 0),(11,pB (x_16.2)),(12, .aR 3 0),(13,pI (x_18.2))],aK [.var [.d (ai kz)], .var (([pI ((x_7.1).aG), .d (.slice (((x_7.1).av).map aa)),pS ((x_7.1).aq)])++((((x_7.1).aC).1.map eS).map PV.d)), .var (([pI ((x_16.1).aG), .d (.slice (((x_16.1).av).map aa)),pS ((x_16.1).aq)])++((((x_16.1).aC).1.map eS).map PV.d)), .var [.d (ai ((x_18.1).fp))]],4,[]⟩) (vM 4 [0,1,2,3]) zL ?_
   refine rG ?_
   refine xm 59 (pB (x_16.2)) ?_
   refine xS 60 (kV ?_)
   refine xm 61 (pB (!(x_16).2)) ?_
   refine XK.gd (v:= .d (.agg (cNode (x_7.1)))) (T:=[1]) (some 62) rfl rfl (by repeat (first | exact trivial | refine ⟨fun q=>by first | rfl | exact q | exact qZ q | exact sQ q,?_⟩)) (fun hg=>aW (.agg (([pI ((x_7.1).aG), .d (.slice (((x_7.1).av).map aa)),pS ((x_7.1).aq)])++((((x_7.1).aC).1.map eS).map PV.d))) TT.cq ⟨⟨rfl,rfl,rfl⟩,rfl,(fX.cN (jK (ia rfl bK)))⟩ (h:=by exact dr (ay (A:=[pI ((x_7.1).aG), .d (.slice (((x_7.1).av).map aa)),pS ((x_7.1).aq)]) (b:=16) rfl (aj _) rfl) (Nat.succ_pos _))) (fun _ i hi=>by simp only [List.mem_singleton] at hi;subst hi;decide) ?_
   refine XK.gd (v:= .d (.agg (cNode (x_16.1)))) (T:=[2]) (some 63) rfl rfl (by repeat (first | exact trivial | refine ⟨fun q=>by first | rfl | exact q | exact qZ q | exact sQ q,?_⟩)) (fun hg=>aW (.agg (([pI ((x_16.1).aG), .d (.slice (((x_16.1).av).map aa)),pS ((x_16.1).aq)])++((((x_16.1).aC).1.map eS).map PV.d))) TT.cq ⟨⟨rfl,rfl,rfl⟩,rfl,(fX.cN (jK (ia rfl bK)))⟩ (h:=by exact dr (ay (A:=[pI ((x_16.1).aG), .d (.slice (((x_16.1).av).map aa)),pS ((x_16.1).aq)]) (b:=16) rfl (aj _) rfl) (Nat.succ_pos _))) (fun _ i hi=>by simp only [List.mem_singleton] at hi;subst hi;decide) ?_
   obtain ⟨x_20,wV,h⟩:=bG h
   refine xg 64 (pB x_20) rfl rfl (fun hg=>az (Gw (x_7.1) (x_16.1) _ (bT wV hg)) g3) ?_
   refine xg 65 (pB (!x_20)) rfl rfl (fun hg=>kV g3) ?_
   refine xS 66 (fh ?_)
   refine xm 67 (pB ((!(x_16).2)||(!x_20))) ?_
   refine xg 68 (pI (x_18.2)) rfl rfl (fun hg=>ax (pI (x_18.2)) g3) ?_
   refine xg 69 (pB (!decide ((x_18.2)=(0:Int)))) rfl rfl (fun hg=>mI (x_18.2) (0:Int) g3) ?_
   refine xS 70 (fh ?_)
   refine xm 71 (pB (((!(x_16).2)||(!x_20))||(!decide ((x_18.2)=(0:Int))))) ?_
   refine XK.gd (v:= .d (.agg (dQ (x_18.1)))) (T:=[3]) (some 72) rfl rfl (by repeat (first | exact trivial | refine ⟨fun q=>by first | rfl | exact q | exact qZ q | exact sQ q,?_⟩)) (fun hg=>aW (.agg [.d (ai ((x_18.1).fp))]) TT.eI ⟨⟨rfl,rfl,rfl⟩,rfl,(fX.cN rfl)⟩) (fun _ i hi=>by simp only [List.mem_singleton] at hi;subst hi;decide) ?_
   obtain ⟨x_22,zJ,h⟩:=bG h
   refine xg 73 (pS x_22) rfl rfl (fun hg=>az (mT (x_18.1) _ (bT zJ hg)) g3) ?_
   refine xg 74 (pS x_14) rfl rfl (fun hg=>ax (pS x_14) g3) ?_
   refine xg 75 (pB (!(x_22==x_14))) rfl rfl (fun hg=>qq x_22 x_14 g3) ?_
   refine xS 76 (fh ?_)
   refine xm 77 (pB ((((!(x_16).2)||(!x_20))||(!decide ((x_18.2)=(0:Int))))||(!(x_22==x_14)))) ?_
   refine XK.gd (v:= .d (.agg (dQ (⟨kz⟩:Tree)))) (T:=[0]) (some 78) rfl rfl (by repeat (first | exact trivial | refine ⟨fun q=>by first | rfl | exact q | exact qZ q | exact sQ q,?_⟩)) (fun hg=>aW (.agg [.d (ai kz)]) TT.eI ⟨⟨rfl,rfl,rfl⟩,rfl,(fX.cN rfl)⟩) (fun _ i hi=>by simp only [List.mem_singleton] at hi;subst hi;decide) ?_
   obtain ⟨x_24,Ig,h⟩:=bG h
   refine xg 79 (pS x_24) rfl rfl (fun hg=>az (oP (⟨kz⟩:Tree) _ (bT Ig hg)) g3) ?_
   refine xg 80 (pS x_14) rfl rfl (fun hg=>ax (pS x_14) g3) ?_
   obtain ⟨sK,Ie,h⟩:=bG h
   refine xg 81 (pS sK) rfl rfl (fun hg=>az (Jm x_14 _ (bT Ie hg)) g3) ?_
   refine xg 82 (pB (!(x_24==sK))) rfl rfl (fun hg=>qq x_24 sK g3) ?_
   refine xT 83 (fh ?_)
   refine cT (((((!(x_16).2)||(!x_20))||(!decide ((x_18.2)=(0:Int))))||(!(x_22==x_14)))||(!(x_24==sK))) (fun Dy=>?_) (fun Dy=>?_)
   ·replace h:=ej h Dy
    refine sR ?_
    refine xz 4 (pB false) ?_
    refine QW.ret zL (dc (nK (dc (dc (nK (dc ?_))))))
    obtain rfl:=sG h
    exact eO
   ·replace h:=ek h Dy
    refine sk ?_
    refine QW.seq ?_
    refine sR ?_
    refine xm 84 (.d (.slice ((x_7.2).map gI))) ?_
    refine xS 85 (cX gI x_7.2 TT.uw ?_)
    refine xT 86 (dj ((x_7.2).length:Int) (0:Int) ?_)
    refine cT (decide (((x_7.2).length:Int)=(0:Int))) (fun OO=>?_) (fun OO=>?_)
    ·replace h:=ej h OO
     refine sR ?_
     obtain ⟨y7,ON,h⟩:=bG h
     refine xS 87 (az (y8 _ ON) ?_)
     refine xm 88 (pB y7) ?_
     refine xg 89 (.aR 1 0) rfl rfl (fun hg=>dF TT.iV g3) ?_
     refine XK.gd (v:=pI ((x_7.1).aG)) (T:=[1]) (some 90) rfl rfl (by repeat (first | exact trivial | refine ⟨fun q=>by first | rfl | exact q | exact qZ q | exact sQ q,?_⟩)) (fun hg=>aW (pI ((x_7.1).aG)) TT.jl g3 (h:=by exact BZ ⟨⟨by simp,by simp⟩,rfl⟩)) (fun _ i hi=>by simp only [List.mem_singleton] at hi;subst hi;decide) ?_
     refine xg 91 (pB (decide (((x_7.1).aG)=(1:Int)))) rfl rfl (fun hg=>dj ((x_7.1).aG) (1:Int) g3) ?_
     refine xS 92 (cO ?_)
     refine xz 4 (pB (y7&&(decide (((x_7.1).aG)=(1:Int))))) ?_
     refine QW.ret zL (dc (nK (dc (dc (nK (dc ?_))))))
     obtain rfl:=sG h
     exact eO
    ·replace h:=ek h OO
     refine sk ?_
     refine QW.seq ?_
     refine QW.seq ?_
     refine QW.region zL (PW.qX (id:=16) dG (M:=_) rfl (by kernel_rfl) ?_)
     refine RK.U (some 94) rfl rfl (aW (.agg (([pI ((x_7.1).aG), .d (.slice (((x_7.1).av).map aa)),pS ((x_7.1).aq)])++((((x_7.1).aC).1.map eS).map PV.d))) TT.cq ⟨.d (.agg (cNode (x_7.1))),(fX.cN (jK (ia rfl bK))),?_⟩ (h:=by exact dr (ay (A:=[pI ((x_7.1).aG), .d (.slice (((x_7.1).av).map aa)),pS ((x_7.1).aq)]) (b:=16) rfl (aj _) rfl) (Nat.succ_pos _)))
     refine kS 95 (ax (.d (.slice ((x_7.2).map gI))) ?_)
     obtain ⟨SI,h⟩:=gG h
     refine kS 96 (p7 x_7.2 (1:Int) ((x_7.2).length:Int) TT.uw TT.Ic SI ?_ (hl:=yV))
     obtain ⟨By,X4,h⟩:=bG h
     refine kS 97 (az (Bl (x_7.1) (sub (x_7.2) (1:Int) ((x_7.2).length:Int)) _ X4) ?_)
     refine kS 93 (ax (.d (.tuple [.agg (dQ (By.1)), .val (.int .i64 (By.2))])) ?_)
     refine kS 98 (aY ?_)
     refine kS 99 (aY ?_)
     refine kS 14 (bl [.d (ai (af.nil))] TT.nc ?_)
     refine RK.st none rfl rfl (aV [.d (ai ((By.1).fp))] TT.eI ?_)
     refine kS 15 (cj (pI (By.2)) ?_)
     refine RK.nil ⟨fH.comp (by rfl),(cn ?_)⟩
     refine sR ?_
     refine xm 100 (pI (By.2)) ?_
     refine xT 101 (mI (By.2) (2:Int) ?_)
     refine cT (!decide ((By.2)=(2:Int))) (fun OP=>?_) (fun OP=>?_)
     ·replace h:=ej h OP
      refine sR ?_
      refine xz 4 (pB false) ?_
      refine QW.ret zL (dc (nK (dc (dc (nK (dc ?_))))))
      obtain rfl:=sG h
      exact eO
     ·replace h:=ek h OP
      refine sk ?_
      refine rG ?_
      refine xm 102 (.d (.slice ((x_7.2).map gI))) ?_
      refine xm 103 (pI v6) ?_
      refine xS 104 (uH v6 (32:Int) ?_)
      obtain ⟨PE,h⟩:=gG h
      refine xS 105 (lg (v6.tmod (32:Int)) TT.HI ?_ (h:=PE))
      refine xS 106 (aA (.val (.int .u8 ((idx k1.1 (v6.tmod (32:Int))).toNat:Int))) TT.l6 ?_ (h:=nq (Pre.all _) PE))
      refine xS 107 (zE ((idx k1.1 (v6.tmod (32:Int))).toNat:Int) TT.dw TT.kD ?_)
      refine xm 108 (.d (.slice ((x_7.2).map gI))) ?_
      refine xS 109 (cX gI x_7.2 TT.uw ?_)
      obtain ⟨MG,h⟩:=gG h
      refine xS 110 (uH ((idx k1.1 (v6.tmod (32:Int))).toNat:Int) ((x_7.2).length:Int) ?_ (h:=MG))
      obtain ⟨Tg,h⟩:=gG h
      refine xS 111 (bX x_7.2 (((idx k1.1 (v6.tmod (32:Int))).toNat:Int).tmod ((x_7.2).length:Int)) TT.Ic yV Tg ?_)
      refine xS 112 (aA (.agg (dQ (idx (x_7.2) (((idx k1.1 (v6.tmod (32:Int))).toNat:Int).tmod ((x_7.2).length:Int))))) TT.eI ?_ (h:=by exact ⟨by simp [dQ],rfl⟩))
      refine xN (aV [.d (ai ((idx (x_7.2) (((idx k1.1 (v6.tmod (32:Int))).toNat:Int).tmod ((x_7.2).length:Int))).fp))] TT.eI ?_)
      refine XK.nil (iS (cn ?_))
      refine rG ?_
      refine xm 22 (pI v6) ?_
      obtain ⟨Th,h⟩:=gG h
      refine xS 23 (bE v6 (1:Int) Th ?_)
      refine xz 6 (pI (v6+(1:Int))) ?_
      exact lb Dj ⟨(v6+(1:Int)),(idx (x_7.2) (((idx k1.1 (v6.tmod (32:Int))).toNat:Int).tmod ((x_7.2).length:Int))).fp,by omega,jG h,rfl⟩ (vM 1 [0])
 ·replace h:=ek h j4
  refine QW.exit zL (eP (eP (kW (cn ?_))))
  refine sR ?_
  refine xz 4 (pB false) ?_
  refine QW.ret zL ?_
  obtain rfl:=sG h
  exact eO
end Go.Proofs.YtlfjfoknbjcncaaGreat.K
namespace Go.Proofs.YtlfjfoknbjcncaaGreat.K
open Go
set_option linter.unusedVariables false
set_option linter.unusedSimpArgs false
section
variable {C R:Type} {step:C→Option (C⊕R)}
theorem Comes.upto (P:Nat→C) (n:Nat) {r:R} (hs:∀ i,i<n→step (P i)=some (.inl (P (i+1)))) (he:Comes step (P n) r):Comes step (P 0) r:=by
 have:∀ k,k≤n→Comes step (P (n-k)) r:=by
  intro k
  induction k with
  | zero=>intro _;exact he
  | succ k ih=>
   intro hk
   have h1:=ih (by omega)
   have h2:=hs (n-(k+1)) (by omega)
   rw [show n-(k+1)+1=n-k by omega] at h2
   exact .next h2 h1
 have:=this n (Nat.le_refl _)
 rwa [Nat.sub_self] at this
theorem Comes.Ti (P:Nat→C) (n:Nat) {r:R} (hs:∀ i,i<n→Comes step (P (i+1)) r→Comes step (P i) r) (he:Comes step (P n) r):Comes step (P 0) r:=by
 have:∀ k,k≤n→Comes step (P (n-k)) r:=by
  intro k
  induction k with
  | zero=>intro _;exact he
  | succ k ih=>
   intro hk
   have h1:=ih (by omega)
   rw [show n-k=n-(k+1)+1 by omega] at h1
   exact hs _ (by omega) h1
 have:=this n (Nat.le_refl _)
 rwa [Nat.sub_self] at this
theorem Comes.first (P:Nat→C) (q:Nat→Bool) (n:Nat) (f:Nat→R) (r:R) (hs:∀ i,i<n→q i=false→step (P i)=some (.inl (P (i+1)))) (hq:∀ i,i<n→q i=true→step (P i)=some (.inr (f i))) (he:Comes step (P n) r):
  Comes step (P 0) (match (List.range n).find? q with | some i=>f i | none=>r):=by
 have:∀ k,k≤n→Comes step (P (n-k)) (match (List.range' (n-k) k).find? q with | some i=>f i | none=>r):=by
  intro k
  induction k with
  | zero=>intro _;exact he
  | succ k ih=>
   intro hk
   have h1:=ih (by omega)
   rw [List.range'_succ,List.find?_cons]
   cases hc:q (n-(k+1)) with
   | true=>exact .stop (hq _ (by omega) hc)
   | false=>
    have h2:=hs (n-(k+1)) (by omega) hc
    rw [show n-(k+1)+1=n-k by omega] at h2 ⊢
    exact .next h2 h1
 have:=this n (Nat.le_refl _)
 rwa [Nat.sub_self, ← List.range_eq_range'] at this
theorem Comes.ex (P:Nat→C) (q:Nat→Bool) (n:Nat) (f:Nat→R) (r:R) (hs:∀ i,i<n→q i=false→step (P i)=some (.inl (P (i+1)))) (hq:∀ i,i<n→q i=true→step (P i)=some (.inr (f i))) (he:Comes step (P n) r):
  ∃ x,Comes step (P 0) x∧((∃ i,i<n∧q i=true∧(∀ j,j<i→q j=false)∧x=f i)∨((∀ i,i<n→q i=false)∧x=r)):=by
 have:=Comes.first P q n f r hs hq he
 cases h:(List.range n).find? q with
 | some i=>
  rw [h] at this
  refine ⟨_,this, .inl ⟨i,by simpa using List.mem_of_find?_eq_some h,List.find?_some h,fun j hj=>?_,rfl⟩⟩
  rw [List.find?_range_eq_some] at h
  have:=h.2.2 j hj
  simpa using this
 | none=>
  rw [h] at this
  refine ⟨_,this, .inr ⟨fun i hi=>?_,rfl⟩⟩
  rw [List.find?_eq_none] at h
  simpa using h i (by simpa using hi)
theorem Comes.all (P:Nat→C) (q:Nat→Bool) (n:Nat) (r0 r:R) (hs:∀ i,i<n→q i=true→step (P i)=some (.inl (P (i+1)))) (hq:∀ i,i<n→q i=false→step (P i)=some (.inr r0)) (he:Comes step (P n) r):
  Comes step (P 0) (bif (List.range n).all q then r else r0):=by
 obtain ⟨x,hx,h | h⟩:=Comes.ex P (fun i=> !q i) n (fun _=>r0) r (fun i hi h=>hs i hi (by simpa using h)) (fun i hi h=>hq i hi (by simpa using h)) he
 ·obtain ⟨i,hi,h1,_,rfl⟩:=h
  have:(List.range n).all q=false:=by rw [List.all_eq_false];exact ⟨i,by simpa using hi,by simpa using h1⟩
  rw [this];exact hx
 ·obtain ⟨h1,rfl⟩:=h
  have:(List.range n).all q=true:=by rw [List.all_eq_true];intro i hi;simpa using h1 i (by simpa using hi)
  rw [this];exact hx
end
section
variable {α:Type} [Inhabited α]
theorem iB (l:List α) (i:Nat):idx l (i:Int)=l.getD i default:=by simp [idx]
theorem iU (l:List α) {i:Nat} (h:i<l.length):idx l (i:Int)=l[i]:=by
 rw [iB,List.getD_eq_getElem?_getD,List.getElem?_eq_getElem h];rfl
theorem ng (l:List α) {i:Nat} (h:i<l.length):l.take (i+1)=l.take i++[idx l (i:Int)]:=by
 rw [iU l h,List.take_add_one,List.getElem?_eq_getElem h];rfl
theorem qz (l:List α) {i:Nat} (h:i<l.length):l.drop i=idx l (i:Int)::l.drop (i+1):=by
 rw [iU l h];exact List.drop_eq_getElem_cons h
theorem eg (l:List α) {i:Nat} (h:i<l.length):idx l (i:Int)∈l:=by
 rw [iU l h];exact List.getElem_mem h
end
theorem Io {α:Type} [Inhabited α] (l:List α) (p:α→Bool):((List.range l.length).all fun i=>p (idx l (i:Int)))=l.all p:=by
 rw [Bool.eq_iff_iff,List.all_eq_true,List.all_eq_true]
 constructor
 ·intro h x hx
  obtain ⟨i,hi,rfl⟩:=List.mem_iff_getElem.1 hx
  have:=h i (by simpa using hi)
  rwa [iU l hi] at this
 ·intro h i hi
  have hi:i<l.length:=by simpa using hi
  exact h _ (eg l hi)
theorem Er {α:Type} (l:List α) (k:Nat):sub l 0 (k:Int)=l.take k:=by simp [sub]
theorem nD {α:Type} (l:List α) (k:Nat):sub l (k:Int) (l.length:Int)=l.drop k:=by
 unfold sub
 rw [Int.toNat_natCast]
 exact List.take_of_length_le (by rw [List.length_drop];omega)
theorem Tj {α:Type} (l:List α) (j k:Nat):sub l (j:Int) (k:Int)=(l.drop j).take (k-j):=by
 unfold sub
 rw [Int.toNat_natCast,show ((k:Int)-(j:Int)).toNat=k-j by omega]
def Dz (n:Nat):Nat→List UInt8
 | 0=>[]
 | w+1=>UInt8.ofNat (n%256)::Dz (n/256) w
@[simp] theorem MS (n:Nat):∀ w,(Dz n w).length=w
 | 0=>rfl
 | w+1=>by simp [Dz,MS (n/256) w]
theorem Fi (n:Nat):∀ w,Dz n (w+1)=Dz n w++[UInt8.ofNat (n/256 ^ w%256)]
 | 0=>by simp [Dz]
 | w+1=>by
  rw [Dz,Fi (n/256) w,Dz,List.cons_append,Nat.div_div_eq_div_mul,Nat.pow_succ,Nat.mul_comm 256]
theorem xq (n:Nat):g7 (n:Int)=UInt8.ofNat n:=by
 unfold g7
 apply UInt8.toNat_inj.1
 rw [show ((n:Int)%256).toNat=n%256 by omega,UInt8.toNat_ofNat',UInt8.toNat_ofNat']
 omega
theorem uN (n:Nat):UInt8.ofNat (n%256)=UInt8.ofNat n:=by
 apply UInt8.toNat_inj.1
 rw [UInt8.toNat_ofNat',UInt8.toNat_ofNat']
 omega
end Go.Proofs.YtlfjfoknbjcncaaGreat.K
namespace Go.Proofs.YtlfjfoknbjcncaaGreat.K
open Go Go.RowKit
set_option linter.unusedSimpArgs false
set_option linter.unusedVariables false
theorem uA {α:Type} [Inhabited α] {l:List α} {i:Nat} (h:i<l.length):idx l (i:Int)=l[i]:=by
 simp [idx,List.getD_eq_getElem?_getD,List.getElem?_eq_getElem h]
def gP (n:Nat):List UInt8:=if h:n=0 then [] else gP (n/256)++[UInt8.ofNat (n%256)]
termination_by n
decreasing_by omega
theorem qk:gP 0=[]:=by rw [gP];rfl
theorem uB {n:Nat} (h:n≠0):gP n=gP (n/256)++[UInt8.ofNat (n%256)]:=by rw [gP,dif_neg h]
theorem uC:∀ (k n:Nat),n<256 ^ k→(gP n).length≤k
 | 0,n,h=>by
  have:n=0:=by simpa using h
  subst this;rw [qk];exact Nat.le_refl _
 | k+1,n,h=>by
  by_cases hn:n=0
  ·subst hn;rw [qk];exact Nat.zero_le _
  ·have:n/256<256 ^ k:=by rw [Nat.pow_succ] at h;omega
   have:=uC k _ this
   rw [uB hn,List.length_append,List.length_singleton];omega
theorem y9 (n:Nat):g7 (n:Int)=UInt8.ofNat (n%256):=by
 unfold g7
 congr 1
theorem X5 (n:Nat):JF (n:Int) 8=((n/256:Nat):Int):=by
 unfold JF
 have:min (8:Int).toNat 64=8:=by decide
 rw [this,Int.fdiv_eq_ediv_of_nonneg _ (by decide)]
 norm_cast
def sS (l:Bool):Nat:=if l then 192 else 128
def hd (l:Bool) (k:Nat):List UInt8:=if k<56 then [UInt8.ofNat ((sS l+k)%256)] else UInt8.ofNat ((sS l+55+(gP k).length)%256)::gP k
theorem Tk (n0:Int) (l:Bool) (c:Nat) (hc:c≤200):∀ (k n:Nat) (b:List UInt8),n<256 ^ k→b.length+k≤1000→
  Comes (jm n0 l) (.L2 (n:Int) (c:Int) b) (UInt8.ofNat ((c+55+(gP n++b).length)%256)::(gP n++b)):=by
 have stop:∀ b:List UInt8,b.length≤1000→Comes (jm n0 l) (.L2 ((0:Nat):Int) (c:Int) b) (UInt8.ofNat ((c+55+(gP 0++b).length)%256)::(gP 0++b)):=by
  intro b hb
  refine Comes.stop ?_
  simp only [jm]
  have e:(c:Int)+55+(b.length:Int)=((c+55+b.length:Nat):Int):=by omega
  rw [decide_eq_false (by omega),cond_false,ah (by unfold bf;omega),ah (by unfold bf;omega),ah (by simp;omega),e,y9,qk]
  rfl
 intro k
 induction k with
 | zero=>
  intro n b hn hb
  have:n=0:=by simpa using hn
  subst this
  exact stop b (by omega)
 | succ k ih=>
  intro n b hn hb
  by_cases h0:n=0
  ·subst h0;exact stop b (by omega)
  ·have hk:n/256<256 ^ k:=by rw [Nat.pow_succ] at hn;omega
   have:=ih (n/256) ([g7 (n:Int)]++b) hk (by simp;omega)
   rw [uB h0,List.append_assoc, ← y9]
   refine Comes.next ?_ this
   simp only [jm]
   rw [decide_eq_true (by omega),cond_true,ah (by simp;omega),X5]
theorem Tl (n:Int) (l:Bool):uZ n l=some (hd l (gl (jj n 0) 4294967296).toNat):=by
 refine bZ ?_
 obtain ⟨k,hk⟩:∃ k:Nat,gl (jj n 0) 4294967296=(k:Int):=⟨(gl (jj n 0) 4294967296).toNat,by unfold gl jj;repeat' split<;>omega⟩
 have hle:k≤4294967296:=by
  have:gl (jj n 0) 4294967296≤4294967296:=by unfold gl;split<;>omega
  omega
 have hv:(bif l then some (192:Int) else some 128)=some ((sS l:Nat):Int):=by cases l<;>rfl
 have hc:sS l≤200:=by cases l<;>decide
 rw [hk,Int.toNat_natCast]
 unfold hd
 split
 ·rename_i h
  refine Comes.stop ?_
  simp only [jm,hk,hv,Option.bind_some]
  rw [decide_eq_true (by omega),cond_true,ah (by unfold bf;omega),show ((sS l:Nat):Int)+(k:Int)=((sS l+k:Nat):Int) by omega,y9]
 ·rename_i h
  have:=Tk n l (sS l) hc 5 k [] (by
                       have:(256:Nat) ^ 5=1099511627776:=by decide
                       omega) (by simp)
  rw [List.append_nil] at this
  refine Comes.next ?_ this
  simp only [jm,hk,hv,Option.bind_some]
  rw [decide_eq_false (by omega),cond_false]
theorem Tm:∀ (m k n:Nat),k<m→n<256 ^ k→n<2 ^ 62→ot m (n:Int)=some (gP n):=by
  intro m
  induction m with
  | zero=>intro k n h;omega
  | succ m ih=>
    intro k n hk hn h62
    show rz (ot m) (n:Int)=_
    unfold rz
    by_cases h0:n=0
    · subst h0
      rw [qk];rfl
    · obtain ⟨j,rfl⟩:∃ j,k=j+1:=by
        cases k with
        | zero=>
                  have:n=0:=by simpa using hn
                  exact absurd this h0
        | succ j=>exact ⟨j,rfl⟩
      have hj:n/256<256 ^ j:=by rw [Nat.pow_succ] at hn;omega
      have e:(n:Int).tdiv 256=((n/256:Nat):Int):=by
        rw [Int.tdiv_eq_ediv_of_nonneg (by omega)];omega
      have e2:(n:Int).tmod 256=((n%256:Nat):Int):=by
        rw [Int.tmod_eq_emod_of_nonneg (by omega)];omega
      have hl:=uC j _ hj
      have P8:(gP (n/256)).length≤8:=uC 8 _ (by
                                                                 have:(256:Nat) ^ 8=2 ^ 64:=by decide
                                                                 omega)
      rw [decide_eq_false (by omega),cond_false,e,e2,ah ⟨by decide,by unfold bf;omega⟩,ih j _ (by omega) hj (by omega),Option.bind_some,ah (by simp;omega),y9,Nat.mod_mod,uB h0]
theorem Wg (n:Nat) (h:n<2 ^ 62):z1 (n:Int)=some (gP n):=
  jY 9 fun m hm=>Tm m 8 n (by omega) (by
                                                     have:(256:Nat) ^ 8=2 ^ 64:=by decide
                                                     omega) h
theorem Ca (n:Nat) (l:Bool) (h:n<2 ^ 62):nO (n:Int) l=some (hd l n):=by
  have hv:(bif l then some (192:Int) else some 128)=some ((sS l:Nat):Int):=by cases l<;>rfl
  have hc:sS l≤200:=by cases l<;>decide
  unfold nO hd
  rw [hv,Option.bind_some]
  have P8:(gP n).length≤8:=uC 8 _ (by
                                                     have:(256:Nat) ^ 8=2 ^ 64:=by decide
                                                     omega)
  split
  · rename_i h
    rw [decide_eq_true (by omega),cond_true,ah (by unfold bf;omega),show ((sS l:Nat):Int)+(n:Int)=((sS l+n:Nat):Int) by omega,y9]
  · rename_i h'
    rw [decide_eq_false (by omega),cond_false,Wg n h,Option.bind_some,ah (by unfold bf;omega),ah (by unfold bf;omega),ah (by simp;omega),
      show ((sS l:Nat):Int)+55+((gP n).length:Int)=((sS l+55+(gP n).length:Nat):Int) by omega,y9]
    rfl
def Wh:Nat→Item→Prop
 | 0,_=>False
 | n+1,x=>x.fL.length≤9223372036854775807∧x.fS.length≤9223372036854775807∧∀ y∈x.fL,Wh n y
end Go.Proofs.YtlfjfoknbjcncaaGreat.K
namespace Go.Proofs.YtlfjfoknbjcncaaGreat.K
open Go Go.RowKit
set_option linter.unusedSimpArgs false
set_option linter.unusedVariables false
mutual
def bI:Item→List UInt8
 | ⟨l,s,r⟩=>if l=false then (if s.length=1∧(s.getD 0 0).toNat<128 then s else hd false s.length++s) else hd true (cu r).length++cu r
def cu:List Item→List UInt8
 | []=>[]
 | x::r=>bI x++cu r
end
mutual
def lE:Item→Nat
 | ⟨_,_,r⟩=>1+mg r
def mg:List Item→Nat
 | []=>0
 | x::r=>lE x+mg r
end
theorem nE (x:Item):bI x=if x.bQ=false then (if x.fS.length=1∧(x.fS.getD 0 0).toNat<128 then x.fS else hd false x.fS.length++x.fS) else hd true (cu x.fL).length++cu x.fL:=by
 cases x;simp only [bI]
theorem rE (x:Item):lE x=1+mg x.fL:=by cases x;simp only [lE]
theorem Cb (x:Item):1≤lE x:=by rw [rE];omega
def RT:Nat→Item→Prop
 | 0,_=>False
 | n+1,x=>(x.bQ=false→x.fL=[])∧(x.bQ=true→x.fS=[])∧∀ y∈x.fL,RT n y
theorem Ip (l:Bool) (k:Nat):hd l k≠[]:=by unfold hd;split<;>simp
theorem Cc (l:Bool) (k:Nat):(hd l k).length=if k<56 then 1 else 1+(gP k).length:=by
 unfold hd;split<;>simp;omega
theorem MT {k:Nat} (h:k≤2 ^ 32):(gP k).length≤5:=uC 5 k (by rw [show (256:Nat) ^ 5=1099511627776 from by decide];omega)
theorem DA (l:Bool) {k:Nat} (h:k≤2 ^ 32):(hd l k).length≤6:=by
 have:=MT h
 rw [Cc];split<;>omega
theorem Fj (l:Bool) {k:Nat} (h:k≤2 ^ 32):uZ (k:Int) l=some (hd l k):=by
 rw [Tl]
 have:(gl (jj (k:Int) 0) 4294967296).toNat=k:=by unfold gl jj;repeat' split<;>omega
 rw [this]
theorem Es (x:Item):bI x≠[]:=by
 rw [nE]
 split
 ·split
  ·rename_i h;intro e;rw [e] at h;simp at h
  ·intro e;exact Ip _ _ (List.append_eq_nil_iff.1 e).1
 ·intro e;exact Ip _ _ (List.append_eq_nil_iff.1 e).1
theorem Ll {d c:Nat} (hd:d≤64) (hc:c+1≤4096):fZ (d:Int) ⟨(c:Int)⟩=some (.inl (),⟨((c+1:Nat):Int)⟩):=by
 unfold fZ
 simp only
 rw [ah (by unfold bf;omega),decide_eq_true (by omega),decide_eq_true (by omega)]
 rfl
theorem fM (e:Int):gK true e=some (.inl ()):=rfl
theorem Wi (f:Item→Int→counter→Option (((List UInt8)⊕Int)×counter)) (x:Item) (d:Nat) (BA:d≤64) (c0:counter)
  (hf:∀ y∈x.fL,∀ c:Nat,(bI y).length≤2 ^ 32→c+lE y≤4096→f y ((d+1:Nat):Int) ⟨(c:Int)⟩=some (.inl (bI y),⟨((c+lE y:Nat):Int)⟩)) (hl:x.fL.length≤9223372036854775807) (k:Nat):∀ (i:Nat) (acc:List UInt8) (c:Nat),k+i=x.fL.length→
  (acc++cu (x.fL.drop i)).length≤2 ^ 32→c+mg (x.fL.drop i)≤4096→
  Comes (eY f x (d:Int) c0) (.L1 acc (i:Int) (c:Int)) (.inl (hd true (acc++cu (x.fL.drop i)).length++(acc++cu (x.fL.drop i))),⟨((c+mg (x.fL.drop i):Nat):Int)⟩):=by
 induction k with
 | zero=>
  intro i acc c hi hlen hc
  refine Comes.stop ?_
  rw [List.drop_eq_nil_of_le (by omega)] at hlen ⊢
  simp only [cu,mg,List.append_nil,Nat.add_zero] at hlen ⊢
  have:=DA true hlen
  simp only [eY]
  rw [decide_eq_false (by omega),cond_false,Fj true hlen,Option.bind_some,ah (by omega)]
 | succ k ih=>
  intro i acc c hi hlen hc
  have h1:i<x.fL.length:=by omega
  rw [List.drop_eq_getElem_cons h1] at hlen hc ⊢
  simp only [cu,mg] at hlen hc ⊢
  simp only [List.length_append] at hlen
  have e:=hf x.fL[i] (List.getElem_mem h1) c (by omega) (by omega)
  have:=ih (i+1) (acc++bI x.fL[i]) (c+lE x.fL[i]) (by omega) (by simp only [List.length_append];omega) (by omega)
  rw [List.append_assoc,Nat.add_assoc] at this
  refine Comes.next ?_ this
  simp only [eY]
  rw [decide_eq_true (by omega),cond_true,ah (by omega),ah (by unfold bf;omega),uA h1,show (d:Int)+1=((d+1:Nat):Int) by omega,e,Option.bind_some]
  simp only
  rw [ah (by omega),ah (by unfold bf;omega)]
  rfl
theorem MU:∀ (n m:Nat) (x:Item) (d c:Nat),Wh n x→RT n x→n≤m→d+n≤65→(bI x).length≤2 ^ 32→c+lE x≤4096→
  iJ m x (d:Int) ⟨(c:Int)⟩=some (.inl (bI x),⟨((c+lE x:Nat):Int)⟩)
 | 0,_,_,_,_,h,_,_,_,_,_=>h.elim
 | n+1,0,_,_,_,_,_,hm,_,_,_=>by omega
 | n+1,m+1,x,d,c,hok,hr,hm,hd,hlen,hc=>by
  show gJ (eY (iJ m) x (d:Int) ⟨(c:Int)⟩) .S=_
  refine bZ ?_
  have h1:=Ll (d:=d) (c:=c) (by omega) (by have:=Cb x;omega)
  cases hl:x.bQ with
  | false=>
   have iq:=hr.1 hl
   have e0:lE x=1:=by rw [rE,iq];rfl
   rw [nE,if_pos hl] at hlen ⊢
   rw [e0]
   refine Comes.stop ?_
   simp only [eY,h1,Option.bind_some,iq,hl]
   simp only [Bool.not_false,Bool.or_true,fM,Option.bind_some,List.length_nil,cond_true]
   rw [show (decide (((0:Nat):Int)=0)||false)=true from rfl,fM,Option.bind_some]
   simp only
   rw [ah (by intro h;have:=of_decide_eq_true h;omega)]
   by_cases h2:x.fS.length=1
   ·have e1:idx x.fS (0:Int)=x.fS.getD 0 0:=by
     show idx x.fS ((0:Nat):Int)=_
     rw [uA (by omega)]
     simp [List.getD_eq_getElem?_getD,List.getElem?_eq_getElem (show 0<x.fS.length by omega)]
    by_cases h3:(x.fS.getD 0 0).toNat<128
    ·rw [if_pos ⟨h2,h3⟩,decide_eq_true (by omega),e1,decide_eq_true (by omega)];rfl
    ·rw [if_neg (fun h=>h3 h.2)] at hlen ⊢
     rw [decide_eq_true (by omega),e1,decide_eq_false (by omega),Bool.and_false,cond_false,Fj false (by omega),Option.bind_some,ah (by rw [List.length_append] at hlen;omega)]
   ·rw [if_neg (fun h=>h2 h.1)] at hlen ⊢
    rw [List.length_append] at hlen
    rw [decide_eq_false (by omega),Bool.false_and,cond_false,Fj false (by omega),Option.bind_some,ah (by omega)]
  | true=>
   have iq:=hr.2.1 hl
   rw [nE,if_neg (by rw [hl];simp)] at hlen ⊢
   rw [List.length_append] at hlen
   have key:=Wi (iJ m) x d (by omega) ⟨(c:Int)⟩ (fun y hy c hl hc=>MU n m y (d+1) c (hok.2.2 y hy) (hr.2.2 y hy) (by omega) (by omega) hl hc) hok.1 x.fL.length 0 [] (c+1) rfl (by simp only [List.nil_append,List.drop_zero];omega) (by rw [rE] at hc;rw [List.drop_zero];omega)
   rw [List.drop_zero,List.nil_append] at key
   rw [rE, ← Nat.add_assoc]
   refine Comes.next ?_ key
   simp only [eY,h1,Option.bind_some,iq,hl]
   simp only [beq_self_eq_true,Bool.true_or,Bool.or_true,fM,Option.bind_some,Bool.not_true,cond_false]
   rfl
theorem Wj {n:Nat} (x:Item) (hok:Wh n x) (hr:RT n x) (hn:n≤65) (hlen:(bI x).length≤2 ^ 32) (hc:lE x≤4096):mP x=some (bI x,0):=by
 have:r7 x 0 ⟨0⟩=some (.inl (bI x),⟨((0+lE x:Nat):Int)⟩):=jY n fun m hm=>MU n m x 0 0 hok hr hm (by omega) hlen (by omega)
 unfold mP
 rw [this];rfl
end Go.Proofs.YtlfjfoknbjcncaaGreat.K
namespace Go.Proofs.YtlfjfoknbjcncaaGreat.K
open Go Go.RowKit
set_option linter.unusedSimpArgs false
set_option linter.unusedVariables false
def o7 (l:List UInt8):Nat:=l.foldl (fun a b=>a*256+b.toNat) 0
theorem DB (l:List UInt8) (b:UInt8):o7 (l++[b])=o7 l*256+b.toNat:=by simp [o7]
theorem Ke (n:Nat):o7 (gP n)=n:=by
 induction n using Nat.strongRecOn with
 | _ n ih=>
  by_cases h:n=0
  ·subst h;rw [qk];rfl
  ·rw [uB h,DB,ih _ (by omega)]
   have:(UInt8.ofNat (n%256)).toNat=n%256:=by rw [UInt8.toNat_ofNat'];omega
   rw [this];omega
theorem OQ (l:List UInt8):∀ z:Nat,l.foldl (fun a b=>a*256+b.toNat) z=z*256 ^ l.length+l.foldl (fun a b=>a*256+b.toNat) 0:=by
 induction l with
 | nil=>intro z;simp
 | cons b r ih=>
  intro z
  rw [List.foldl_cons,List.foldl_cons,ih,ih (0*256+b.toNat),List.length_cons,Nat.pow_succ,Nat.add_mul,Nat.zero_mul,Nat.zero_add,Nat.mul_assoc,Nat.mul_comm 256,Nat.add_assoc]
theorem QL (a b:List UInt8):o7 (a++b)=o7 a*256 ^ b.length+o7 b:=by
 unfold o7
 rw [List.foldl_append,OQ b]
theorem OR {n:Nat} (h:n≠0):∃ b r,gP n=b::r∧b.toNat≠0:=by
 induction n using Nat.strongRecOn with
 | _ n ih=>
  by_cases h2:n/256=0
  ·refine ⟨UInt8.ofNat (n%256),[],by rw [uB h,h2,qk];rfl,?_⟩
   have:(UInt8.ofNat (n%256)).toNat=n%256:=by rw [UInt8.toNat_ofNat'];omega
   rw [this];omega
  ·obtain ⟨b,r,e,hb⟩:=ih _ (by omega) h2
   exact ⟨b,r++[UInt8.ofNat (n%256)],by rw [uB h,e];rfl,hb⟩
theorem Kf (a b:Nat) (ha:a<2 ^ 40) (hb:b<256):Qi (wK (a:Int) 8) (b:Int)=((a*256+b:Nat):Int):=by
 have e1:wK (a:Int) 8=((a*256:Nat):Int):=by
  unfold wK
  rw [show min (8:Int).toNat 64=8 by decide];omega
 rw [e1]
 unfold Qi
 have h1:BitVec.ofInt 64 ((a*256:Nat):Int)=BitVec.ofNat 64 (a*256):=by rw [BitVec.ofInt_natCast]
 have h2:BitVec.ofInt 64 ((b:Nat):Int)=BitVec.ofNat 64 b:=by rw [BitVec.ofInt_natCast]
 rw [h1,h2,BitVec.toNat_or,BitVec.toNat_ofNat,BitVec.toNat_ofNat,Nat.mod_eq_of_lt (by omega),Nat.mod_eq_of_lt (by omega)]
 have:a*256||| b=a*256+b:=by
  have:=Nat.shiftLeft_add_eq_or_of_lt (i:=8) (b:=b) (by omega) a
  rw [Nat.shiftLeft_eq] at this
  exact this.symm
 rw [this]
 exact uU (by unfold bf;omega)
theorem tF {s:List UInt8} (h:0<s.length):idx s (0:Int)=s.getD 0 0:=by
 show idx s ((0:Nat):Int)=_
 rw [uA h]
 simp [List.getD_eq_getElem?_getD,List.getElem?_eq_getElem h]
theorem Kg {n:Nat} (h:n<256):(UInt8.ofNat n).toNat=n:=by rw [UInt8.toNat_ofNat'];omega
theorem Fk (l:Bool) {k:Nat} (h:k≤2 ^ 32) (t:List UInt8):((hd l k++t).getD 0 0).toNat=if k<56 then sS l+k else sS l+55+(gP k).length:=by
 have h5:=MT h
 have hc:sS l≤192:=by cases l<;>decide
 unfold hd
 split
 ·simp only [List.cons_append,List.getD_cons_zero]
  rw [Nat.mod_eq_of_lt (by omega),Kg (by omega)]
 ·simp only [List.cons_append,List.getD_cons_zero]
  rw [Nat.mod_eq_of_lt (by omega),Kg (by omega)]
theorem Iq (l:Bool) (k:Nat) (h:k≤2 ^ 32) (t:List UInt8) (ht:(hd l k++t).length≤2 ^ 40):pq (hd l k++t) ((sS l:Nat):Int)=some (.inl ((k:Int),(((hd l k).length:Nat):Int))):=by
 refine bZ ?_
 have h5:=MT h
 have hc:sS l≤192:=by cases l<;>decide
 have hpos:0<(hd l k++t).length:=by
  have:=List.length_pos_iff.2 (Ip l k)
  rw [List.length_append];omega
 have h1:=Fk l h t
 have hlen:=Cc l k
 generalize hs:hd l k++t=s at h1 hpos ht
 by_cases hk:k<56
 ·rw [if_pos hk] at h1 hlen
  refine Comes.stop ?_
  simp only [dL]
  rw [ah (by omega),tF hpos,h1,ah (by unfold bf;omega),decide_eq_true (by omega),cond_true,hlen]
  have:((sS l+k:Nat):Int)-((sS l:Nat):Int)=(k:Int):=by omega
  rw [this];rfl
 ·rw [if_neg hk] at h1 hlen
  obtain ⟨b,r,hb,hb0⟩:=OR (n:=k) (by omega)
  have W9:s.length=1+(gP k).length+t.length:=by rw [← hs,List.length_append,hlen]
  have hbl:(gP k).length=r.length+1:=by rw [hb];rfl
  have CF:∀ (i:Nat) (hi:i<(gP k).length),idx s (1+(i:Int))=(gP k)[i]:=by
   intro i hi
   rw [show (1:Int)+(i:Int)=((i+1:Nat):Int) by omega,uA (by omega)]
   subst hs
   unfold hd
   simp only [if_neg hk,List.cons_append,List.getElem_cons_succ]
   rw [List.getElem_append_left]
  have hb1:idx s (1:Int)=b:=by
   have:=CF 0 (by omega)
   simp only [hb,List.getElem_cons_zero] at this
   exact this
  have loop:∀ (j i:Nat),j+i=(gP k).length→Comes (dL s ((sS l:Nat):Int)) (.L1 ((o7 ((gP k).take i):Nat):Int) (i:Int)) (.inl ((k:Int),(((hd l k).length:Nat):Int))):=by
   intro j
   induction j with
   | zero=>
    intro i hi
    obtain rfl:i=(gP k).length:=by omega
    refine Comes.stop ?_
    rw [List.take_length,Ke]
    simp only [dL]
    rw [tF hpos,h1,decide_eq_false (by omega),cond_false,decide_eq_true (by omega),fM,Option.bind_some]
    simp only
    rw [ah (by unfold bf;omega),hlen]
    have:(1:Int)+(((sS l+55+(gP k).length:Nat):Int)-((sS l:Nat):Int)-55)=((1+(gP k).length:Nat):Int):=by omega
    rw [this]
   | succ j ih=>
    intro i hi
    have hi2:i<(gP k).length:=by omega
    have hsplit:gP k=(gP k).take i++((gP k)[i]::(gP k).drop (i+1)):=by
     rw [← List.drop_eq_getElem_cons hi2,List.take_append_drop]
    have hv:o7 ((gP k).take i)*256≤k:=by
     have h2:=Ke k
     rw [hsplit,QL,List.length_cons,Nat.pow_succ] at h2
     have:1≤256 ^ ((gP k).drop (i+1)).length:=Nat.one_le_pow _ _ (by omega)
     have:o7 ((gP k).take i)*256≤o7 ((gP k).take i)*(256 ^ ((gP k).drop (i+1)).length*256):=Nat.mul_le_mul_left _ (by omega)
     omega
    have hn:o7 ((gP k).take (i+1))=o7 ((gP k).take i)*256+((gP k)[i]).toNat:=by
     rw [List.take_succ_eq_append_getElem hi2,DB]
    have hbt:((gP k)[i]).toNat<256:=UInt8.toNat_lt _
    refine Comes.next (c':= .L1 ((o7 ((gP k).take (i+1)):Nat):Int) ((i+1:Nat):Int)) ?_ (ih (i+1) (by omega))
    simp only [dL]
    have hsh:wK ((o7 ((gP k).take i):Nat):Int) 8=((o7 ((gP k).take i)*256:Nat):Int):=by
     unfold wK
     rw [show min (8:Int).toNat 64=8 by decide];omega
    rw [tF hpos,h1,decide_eq_true (by omega),cond_true,decide_eq_true (by omega),fM,Option.bind_some]
    simp only
    rw [ah (by rw [hsh];unfold bf;omega),ah (by unfold bf;omega),ah (by omega),ah (by unfold bf;omega),CF i hi2,Kf _ _ (by omega) hbt,hn]
    rfl
  refine Comes.next (c':= .L1 ((o7 ((gP k).take 0):Nat):Int) ((0:Nat):Int)) ?_ (loop _ 0 rfl)
  simp only [dL]
  rw [ah (by omega),tF hpos,h1,ah (by unfold bf;omega),decide_eq_false (by omega),cond_false,ah (by unfold bf;omega),decide_eq_true (by omega),fM,Option.bind_some]
  simp only
  rw [ah (by omega),hb1,decide_eq_false (by omega),Bool.not_false,fM,Option.bind_some]
  rfl
theorem Fl {α:Type} (a b c:List α):sub (a++(b++c)) ((a.length:Nat):Int) (((a.length:Nat):Int)+((b.length:Nat):Int))=b:=by
 unfold sub
 rw [Int.toNat_natCast,List.drop_left',show (((a.length:Nat):Int)+((b.length:Nat):Int)-((a.length:Nat):Int)).toNat=b.length by omega,List.take_left']
 ·rfl
 ·rfl
theorem QM {α:Type} (a b:List α):sub (a++b) ((a.length:Nat):Int) (((a++b).length:Nat):Int)=b:=by
 unfold sub
 rw [Int.toNat_natCast,List.drop_left' rfl,List.take_of_length_le (by rw [List.length_append];omega)]
theorem mW {s:List UInt8} (h:s≠[]):(s==([]:List UInt8))=false:=by
 cases s with
 | nil=>exact absurd rfl h
 | cons=>rfl
theorem PF (f:List UInt8→Int→counter→Option (((Item×Int)⊕Int)×counter)) (s:List UInt8) (d:Nat) (BA:d≤64) (c0:counter) (kk n:Nat) (hkn:kk+n≤2 ^ 41):∀ (l:List Item) (acc:List Item) (c:Nat),
  (∀ y∈l,∀ (c:Nat) (t:List UInt8),(bI y++t).length≤2 ^ 40→(bI y).length≤2 ^ 32→c+lE y≤4096→f (bI y++t) ((d+1:Nat):Int) ⟨(c:Int)⟩=some (.inl (y,(((bI y).length:Nat):Int)),⟨((c+lE y:Nat):Int)⟩))→
  (cu l).length≤2 ^ 32→c+mg l≤4096→acc.length+mg l≤4096→
  Comes (bu f s (d:Int) c0) (.L2 (n:Int) (kk:Int) (cu l) (c:Int) acc) (.inl (⟨true,[],acc++l⟩,((kk+n:Nat):Int)),⟨((c+mg l:Nat):Int)⟩)
 | [],acc,c,hf,hl,hc,ha=>by
  refine Comes.stop ?_
  simp only [bu,cu,mg,Nat.add_zero,List.append_nil]
  rw [show (!(([]:List UInt8)==[]))=false from rfl,cond_false,ah (by unfold bf;omega)]
  rw [show (kk:Int)+(n:Int)=((kk+n:Nat):Int) by omega]
 | y::r,acc,c,hf,hl,hc,ha=>by
  simp only [cu,mg] at hl hc ha ⊢
  rw [List.length_append] at hl
  have e:=hf y (List.mem_cons_self ..) c (cu r) (by rw [List.length_append];omega) (by omega) (by omega)
  have hy:=Cb y
  have:=PF f s d BA c0 kk n hkn r (acc++[y]) (c+lE y) (fun z hz=>hf z (List.mem_cons_of_mem _ hz)) (by omega) (by omega) (by rw [List.length_append,List.length_singleton];omega)
  rw [List.append_assoc,List.singleton_append,Nat.add_assoc] at this
  refine Comes.next ?_ this
  simp only [bu]
  rw [mW (fun h=>Es y (List.append_eq_nil_iff.1 h).1),Bool.not_false,cond_true,ah (by unfold bf;omega),show (d:Int)+1=((d+1:Nat):Int) by omega,e,Option.bind_some]
  simp only
  rw [ah (by simp only [List.length_singleton];omega),ah (by rw [List.length_append];omega),QM]
theorem MV:∀ (n m:Nat) (x:Item) (d c:Nat) (t:List UInt8),RT n x→n≤m→d+n≤65→(bI x++t).length≤2 ^ 40→(bI x).length≤2 ^ 32→c+lE x≤4096→
  cK m (bI x++t) (d:Int) ⟨(c:Int)⟩=some (.inl (x,(((bI x).length:Nat):Int)),⟨((c+lE x:Nat):Int)⟩)
 | 0,_,_,_,_,_,h,_,_,_,_,_=>h.elim
 | n+1,0,_,_,_,_,_,hm,_,_,_,_=>by omega
 | n+1,m+1,x,d,c,t,hr,hm,hd',hlt,hlen,hc=>by
  show gJ (bu (cK m) (bI x++t) (d:Int) ⟨(c:Int)⟩) .S=_
  refine bZ ?_
  have h1:=Ll (d:=d) (c:=c) (by omega) (by have:=Cb x;omega)
  have hne:bI x++t≠[]:=fun h=>Es x (List.append_eq_nil_iff.1 h).1
  have hpos:0<(bI x++t).length:=List.length_pos_iff.2 hne
  cases hl:x.bQ with
  | false=>
   have iq:=hr.1 hl
   have hx:x=⟨false,x.fS,[]⟩:=by cases x;simp_all
   have e0:lE x=1:=by rw [rE,iq];rfl
   rw [e0]
   refine Comes.stop ?_
   by_cases h2:x.fS.length=1∧(x.fS.getD 0 0).toNat<128
   ·have he:bI x=x.fS:=by rw [nE,if_pos hl,if_pos h2]
    have hb:(bI x++t).getD 0 0=x.fS.getD 0 0:=by
     rw [he]
     cases hS:x.fS with
     | nil=>rw [hS] at h2;simp at h2
     | cons b r=>rfl
    simp only [bu,h1,Option.bind_some,mW hne,Bool.not_false,fM]
    rw [ah (by omega),tF hpos,hb,decide_eq_true (by omega),cond_true,ah (by omega)]
    have hs:sub (bI x++t) 0 1=x.fS:=by
     have:=Fl ([]:List UInt8) x.fS t
     rw [List.nil_append,h2.1] at this
     rw [he];exact this
    rw [hs]
    simp only [gL,Option.bind_some]
    rw [← hx,he,h2.1]
    rfl
   ·have he:bI x=hd false x.fS.length++x.fS:=by rw [nE,if_pos hl,if_neg h2]
    have hk:x.fS.length≤2 ^ 32:=by rw [he,List.length_append] at hlen;omega
    have Et:bI x++t=hd false x.fS.length++(x.fS++t):=by rw [he,List.append_assoc]
    have hf:=Fk false hk (x.fS++t)
    have hL:=Iq false x.fS.length hk (x.fS++t) (by rw [← Et];exact hlt)
    have hh:=DA false hk
    have h5:=MT hk
    rw [← Et] at hf hL
    have hge:128≤((bI x++t).getD 0 0).toNat∧((bI x++t).getD 0 0).toNat<192:=by
     rw [hf];split<;>simp [sS]<;>omega
    have P2:(bI x++t).length=(hd false x.fS.length).length+x.fS.length+t.length:=by rw [Et];simp only [List.length_append];omega
    simp only [bu,h1,Option.bind_some,mW hne,Bool.not_false,fM]
    rw [ah (by omega),tF hpos,decide_eq_false (by omega),cond_false,ah (by omega),decide_eq_false (by omega),cond_false,Option.bind_some]
    rw [show pq (bI x++t) 128=_ from hL,Option.bind_some]
    simp only
    rw [ah (by unfold bf;omega),decide_eq_true (by omega),fM,Option.bind_some]
    simp only
    have hs:sub (bI x++t) (((hd false x.fS.length).length:Nat):Int) ((((hd false x.fS.length).length:Nat):Int)+((x.fS.length:Nat):Int))=x.fS:=by rw [Et];exact Fl _ _ _
    rw [ah (by unfold bf;omega),ah (by omega),Bool.not_false,cond_true,hs,ah (by intro h;simp only [Bool.not_eq_false',decide_eq_true_eq] at h;omega)]
    have yP:((!decide ((x.fS.length:Int)=1))||decide (128≤(((idx x.fS 0).toNat:Nat):Int)))=true:=by
     by_cases h3:x.fS.length=1
     ·rw [tF (by omega)]
      have:¬ (x.fS.getD 0 0).toNat<128:=fun h=>h2 ⟨h3,h⟩
      rw [decide_eq_true (p:=(128:Int)≤_) (by omega),Bool.or_true]
     ·rw [decide_eq_false (by omega)];rfl
    rw [yP,fM,Option.bind_some]
    simp only [gL,Option.bind_some]
    rw [ah (by unfold bf;omega), ← hx,he,List.length_append]
    rw [show (((hd false x.fS.length).length:Nat):Int)+((x.fS.length:Nat):Int)=(((hd false x.fS.length).length+x.fS.length:Nat):Int) by omega]
  | true=>
   have iq:=hr.2.1 hl
   have hx:x=⟨true,[],x.fL⟩:=by cases x;simp_all
   have he:bI x=hd true (cu x.fL).length++cu x.fL:=by rw [nE,if_neg (by rw [hl];simp)]
   have hk:(cu x.fL).length≤2 ^ 32:=by rw [he,List.length_append] at hlen;omega
   have Et:bI x++t=hd true (cu x.fL).length++(cu x.fL++t):=by rw [he,List.append_assoc]
   have hf:=Fk true hk (cu x.fL++t)
   have hL:=Iq true (cu x.fL).length hk (cu x.fL++t) (by rw [← Et];exact hlt)
   have hh:=DA true hk
   have h5:=MT hk
   rw [← Et] at hf hL
   have hge:192≤((bI x++t).getD 0 0).toNat:=by
    rw [hf];split<;>simp [sS];omega
   have P2:(bI x++t).length=(hd true (cu x.fL).length).length+(cu x.fL).length+t.length:=by rw [Et];simp only [List.length_append];omega
   rw [rE] at hc ⊢
   have hs:sub (bI x++t) (((hd true (cu x.fL).length).length:Nat):Int) ((((hd true (cu x.fL).length).length:Nat):Int)+(((cu x.fL).length:Nat):Int))=cu x.fL:=by rw [Et];exact Fl _ _ _
   have key:=PF (cK m) (bI x++t) d (by omega) ⟨(c:Int)⟩ (hd true (cu x.fL).length).length (cu x.fL).length (by omega) x.fL [] (c+1) (fun y hy c t h1 h2 h3=>MV n m y (d+1) c t (hr.2.2 y hy) (by omega) (by omega) h1 h2 h3) hk (by omega) (by rw [List.length_nil];omega)
   rw [List.nil_append, ← hx, ← List.length_append, ← he] at key
   rw [← Nat.add_assoc]
   refine Comes.next ?_ key
   simp only [bu,h1,Option.bind_some,mW hne,Bool.not_false,fM]
   rw [ah (by omega),tF hpos,decide_eq_false (by omega),cond_false,ah (by omega),decide_eq_true (by omega),cond_true,Option.bind_some]
   rw [show pq (bI x++t) 192=_ from hL,Option.bind_some]
   simp only
   rw [ah (by unfold bf;omega),decide_eq_true (by omega),fM,Option.bind_some]
   simp only
   rw [ah (by unfold bf;omega),ah (by omega),Bool.not_true,cond_false,hs]
theorem Wl {n:Nat} (x:Item) (t:List UInt8) (hr:RT n x) (hn:n≤65) (hlt:(bI x++t).length≤2 ^ 40) (hlen:(bI x).length≤2 ^ 32) (hc:lE x≤4096):oL (bI x++t)=some (x,(((bI x).length:Nat):Int),0):=by
 have:mN (bI x++t) 0 ⟨0⟩=some (.inl (x,(((bI x).length:Nat):Int)),⟨((0+lE x:Nat):Int)⟩):=jY n fun m hm=>MV n m x 0 0 t hr hm (by omega) hlt hlen (by omega)
 unfold oL
 rw [this];rfl
theorem QN {n:Nat} (x:Item) (hr:RT n x) (hn:n≤65) (hlen:(bI x).length≤2 ^ 32) (hc:lE x≤4096):gV (bI x)=some (x,0):=by
 have:=Wl x [] hr hn (by rw [List.append_nil];omega) hlen hc
 rw [List.append_nil] at this
 unfold gV
 rw [this]
 simp
end Go.Proofs.YtlfjfoknbjcncaaGreat.K
