/- Package tree: what it reckons. -/
import Derived.Test.YtlfjfoknbjcncaaGreatHG5
import Derived.KernelRfl
namespace Go.Proofs.YtlfjfoknbjcncaaGreat.K
open Go Go.RowKit
set_option linter.unusedSimpArgs false
set_option linter.unusedVariables false
set_option maxRecDepth 20000
set_option maxHeartbeats 4000000
namespace TT
theorem kI:mw Tryz.prog 73=some (16,1,false):=by kernel_rfl
theorem ud:p8 Tryz.prog 25=some ([Value.pointer none], .inl [(0,1)]):=by kernel_rfl
theorem Md:p8 Tryz.prog 73=some ([Value.pointer none,Value.pointer none,Value.pointer none,Value.pointer none,Value.pointer none,Value.pointer none,Value.pointer none,Value.pointer none,Value.pointer none,Value.pointer none,Value.pointer none,Value.pointer none,Value.pointer none,Value.pointer none,Value.pointer none,Value.pointer none], .inr 1):=by kernel_rfl
theorem Dp:p8 Tryz.prog 75=some ([Value.int IntKind.i64 0,Value.slice none 0 0,Value.string ⟨#[]⟩,Value.pointer none,Value.pointer none,Value.pointer none,Value.pointer none,Value.pointer none,Value.pointer none,Value.pointer none,Value.pointer none,Value.pointer none,Value.pointer none,Value.pointer none,Value.pointer none,Value.pointer none,Value.pointer none,Value.pointer none,Value.pointer none,Value.string ⟨#[]⟩], .inl [(0,1),(1,1),(2,1),(3,16),(19,1)]):=by kernel_rfl
theorem G3:p8 Tryz.prog 94=some ([], .inl []):=by kernel_rfl
theorem G4:aP Tryz.prog 11=true:=by kernel_rfl
theorem G5:aP Tryz.prog 12=true:=by kernel_rfl
theorem s7:aP Tryz.prog 14=true:=by kernel_rfl
theorem G6:aP Tryz.prog 19=true:=by kernel_rfl
theorem Cm:aP Tryz.prog 25=true:=by kernel_rfl
theorem Cn:aP Tryz.prog 26=true:=by kernel_rfl
theorem Co:aP Tryz.prog 27=true:=by kernel_rfl
theorem Cp:aP Tryz.prog 28=true:=by kernel_rfl
theorem Cq:aP Tryz.prog 29=true:=by kernel_rfl
theorem G7:aP Tryz.prog 31=true:=by kernel_rfl
theorem Of:aP Tryz.prog 35=true:=by kernel_rfl
theorem G8:aP Tryz.prog 44=true:=by kernel_rfl
theorem Og:aP Tryz.prog 45=true:=by kernel_rfl
theorem Oh:aP Tryz.prog 46=true:=by kernel_rfl
theorem G9:aP Tryz.prog 47=true:=by kernel_rfl
theorem vU:aP Tryz.prog 48=true:=by kernel_rfl
theorem Oi:aP Tryz.prog 49=true:=by kernel_rfl
theorem vV:aP Tryz.prog 50=true:=by kernel_rfl
theorem jI:mu Tryz.prog 25 0=some (0,1,false):=by kernel_rfl
theorem oY:mu Tryz.prog 43 0=some (0,32,true):=by kernel_rfl
theorem vW:mu Tryz.prog 43 1=some (32,1,false):=by kernel_rfl
theorem lU:mu Tryz.prog 75 0=some (0,1,false):=by kernel_rfl
theorem jJ:mu Tryz.prog 75 1=some (1,1,false):=by kernel_rfl
theorem y5:mu Tryz.prog 75 2=some (2,1,false):=by kernel_rfl
theorem jj:mu Tryz.prog 75 3=some (3,16,true):=by kernel_rfl
theorem Oj:mu Tryz.prog 75 4=some (19,1,false):=by kernel_rfl
theorem As:vq Tryz.prog 94=true:=by kernel_rfl
theorem U4:Tryz.f11.results.toList=[.tmp 4, .cell 5 34]:=rfl
theorem U5:Tryz.f12.results.toList=[.cell 6 25, .cell 7 34]:=rfl
theorem U6:Tryz.f14.results.toList=[.tmp 2]:=rfl
theorem U7:Tryz.f18.results.toList=[.cell 2 25]:=rfl
theorem U8:Tryz.f19.results.toList=[.tmp 2]:=rfl
theorem U9:Tryz.f21.results.toList=[.cell 2 58, .tmp 3]:=rfl
theorem Va:Tryz.f25.results.toList=[]:=rfl
theorem Vc:Tryz.f26.results.toList=[.tmp 4]:=rfl
theorem Vd:Tryz.f28.results.toList=[.tmp 4, .tmp 5]:=rfl
theorem Ve:Tryz.f29.results.toList=[.tmp 6]:=rfl
theorem Vf:Tryz.f31.results.toList=[.cell 2 58]:=rfl
theorem Vg:Tryz.f44.results.toList=[.tmp 4]:=rfl
theorem Vh:Tryz.f45.results.toList=[.tmp 2]:=rfl
theorem Vi:Tryz.f46.results.toList=[.tmp 4]:=rfl
theorem Vj:Tryz.f48.results.toList=[.tmp 4]:=rfl
theorem Vk:Tryz.f49.results.toList=[.tmp 8]:=rfl
theorem Vl:Tryz.f50.results.toList=[.tmp 4]:=rfl
theorem Xq:Tryz.f8.results.toList=[.cell 4 25, .cell 5 34]:=rfl
theorem Xr:Tryz.f9.results.toList=[.tmp 2]:=rfl
theorem Me:oH Tryz.prog 59=some (1,8):=by kernel_rfl
theorem rY:mz Tryz.prog 26=some (33,48,true):=by kernel_rfl
theorem mM:mz Tryz.prog 73=none:=by kernel_rfl
theorem ic:jS Tryz.prog 23=some (false,1):=by kernel_rfl
theorem fo:jS Tryz.prog 25=some (true,1):=by kernel_rfl
theorem xh:jS Tryz.prog 43=some (true,33):=by kernel_rfl
theorem y6:jS Tryz.prog 73=some (true,16):=by kernel_rfl
theorem Pk:jS Tryz.prog 75=some (true,20):=by kernel_rfl
theorem rD:Program.underlying Tryz.prog 23=some (.pointer 75):=by kernel_rfl
theorem pH:Program.underlying Tryz.prog 26=some (.slice 43):=by kernel_rfl
theorem Jm:Program.underlying Tryz.prog 59=some (.slice 25):=by kernel_rfl
theorem nk:mb Tryz.prog 25=some [Value.pointer none]:=by kernel_rfl
theorem Jn:mb Tryz.prog 43=some [Value.int IntKind.u8 0,Value.int IntKind.u8 0,Value.int IntKind.u8 0,Value.int IntKind.u8 0,Value.int IntKind.u8 0,Value.int IntKind.u8 0,Value.int IntKind.u8 0,Value.int IntKind.u8 0,Value.int IntKind.u8 0,Value.int IntKind.u8 0,Value.int IntKind.u8 0,Value.int IntKind.u8 0,Value.int IntKind.u8 0,Value.int IntKind.u8 0,Value.int IntKind.u8 0,Value.int IntKind.u8 0,Value.int IntKind.u8 0,Value.int IntKind.u8 0,Value.int IntKind.u8 0,Value.int IntKind.u8 0,Value.int IntKind.u8 0,Value.int IntKind.u8 0,Value.int IntKind.u8 0,Value.int IntKind.u8 0,Value.int IntKind.u8 0,Value.int IntKind.u8 0,Value.int IntKind.u8 0,Value.int IntKind.u8 0,Value.int IntKind.u8 0,Value.int IntKind.u8 0,Value.int IntKind.u8 0,Value.int IntKind.u8 0,Value.string ⟨#[]⟩]:=by kernel_rfl
theorem Qo:mb Tryz.prog 73=some [Value.pointer none,Value.pointer none,Value.pointer none,Value.pointer none,Value.pointer none,Value.pointer none,Value.pointer none,Value.pointer none,Value.pointer none,Value.pointer none,Value.pointer none,Value.pointer none,Value.pointer none,Value.pointer none,Value.pointer none,Value.pointer none]:=by kernel_rfl
theorem Qp:mb Tryz.prog 75=some [Value.int IntKind.i64 0,Value.slice none 0 0,Value.string ⟨#[]⟩,Value.pointer none,Value.pointer none,Value.pointer none,Value.pointer none,Value.pointer none,Value.pointer none,Value.pointer none,Value.pointer none,Value.pointer none,Value.pointer none,Value.pointer none,Value.pointer none,Value.pointer none,Value.pointer none,Value.pointer none,Value.pointer none,Value.string ⟨#[]⟩]:=by kernel_rfl
end TT
set_option maxRecDepth 20000 in
theorem kz (e0:Int):x6 Tryz.prog 25 [.aF 0 0] [.var [pI e0]] none [.var [pI e0]]:=by
 refine x6.Qf (r:= .tuple []) none Tryz.func25 rfl rfl rfl rfl rfl (by simp [Tryz.ntmps25]) (by simp [Tryz.ntmps25]) ?_
 rw [Tryz.ntmps25,TT.Va]
 refine QW.view (s':=⟨aG [(0, .aF 0 0),(2, .d (.val .nilIface))],aj [.var [pI e0]],1,[]⟩) (View.mk 1 [0] _ _ _ rfl rfl (by decide) (iC (iC trivial)) (And.intro rfl trivial) rfl bL rfl) bL ?_
 refine QW.block ?_
 refine lN ?_
 refine XK.pr (v:=pB true) (some 5) rfl rfl (Gz rfl TT.Eb rfl) ?_
 refine XK.nz ?_
 refine QW.Gj rfl ?_
 refine QW.skip bL (g6 ?_)
 exact Ca.none (s':=⟨aG [],aj [.var [pI e0]],1,[]⟩) (.inl rfl) (View.mk 1 [0] _ _ _ rfl rfl (by decide) trivial (And.intro rfl trivial) rfl bL rfl) rfl rfl rfl
noncomputable def lA (eM:(List UInt8)) (iE:(List UInt8)):Option aa:=
  ((cW eM).bind fun (x_1:(List UInt8))=>
  some (aa.of (⟨1,x_1,iE,(aE.rep 16 aa.nil),([]:List UInt8)⟩:part)))
theorem oZ (eM:(List UInt8)) (iE:(List UInt8)) (r:aa) (h:lA eM iE=some r):bI Tryz.prog 48 [.slice (eM.map U), .val (sV iE)] (af r):=by
 refine bI.aU Tryz.func48 rfl (by simp [Tryz.ntmps48]) ?_
 rw [Tryz.ntmps48,TT.Vj]
 refine QW.view (s':=⟨aG [(0, .d (.slice (eM.map U))),(1,pS iE)],aj [],0,[]⟩) (View.init (by rfl)) zL ?_
 unfold lA at h
 refine sR ?_
 refine xz 4 (.d (af (aa.nil))) ?_
 refine sR ?_
 refine xm 5 (.d (.slice (eM.map U))) ?_
 obtain ⟨x_1,fB,h⟩:=bO h
 refine xs 6 rfl (aA rfl rfl TT.vK rfl (gW eM _ fB) ?_)
 refine xm 7 (pS iE) ?_
 refine xs 8 rfl (eT (v:= .agg (([pI (1), .d (.slice (x_1.map U)),pS iE])++((((aE.rep 16 aa.nil).1.map af).map PV.d)++([pS ([]:List UInt8)])))) rfl TT.Dp (dG rfl (cw (p:=pI (1)) (cells:=(([pI (0), .full (([]:(List UInt8)).map U),pS ([]:List UInt8)])++((((aE.rep 16 aa.nil).1.map af).map PV.d)++([pS ([]:List UInt8)])))) (cells':=(([pI (1), .full (([]:(List UInt8)).map U),pS ([]:List UInt8)])++((((aE.rep 16 aa.nil).1.map af).map PV.d)++([pS ([]:List UInt8)])))) rfl rfl rfl (bW (aD (A:=[pI (0), .full (([]:(List UInt8)).map U),pS ([]:List UInt8)]) (b:=17) rfl (aD (A:=((aE.rep 16 aa.nil).1.map af).map PV.d) (b:=1) (aq _) rfl rfl) rfl) bL) (fy 0 (by first | exact Nat.le_of_ble_eq_true rfl | simp) rfl) (cw (p:= .d (.slice (x_1.map U))) (cells:=(([pI (1), .full (([]:(List UInt8)).map U),pS ([]:List UInt8)])++((((aE.rep 16 aa.nil).1.map af).map PV.d)++([pS ([]:List UInt8)])))) (cells':=(([pI (1), .d (.slice (x_1.map U)),pS ([]:List UInt8)])++((((aE.rep 16 aa.nil).1.map af).map PV.d)++([pS ([]:List UInt8)])))) rfl rfl rfl (bW (aD (A:=[pI (1), .full (([]:(List UInt8)).map U),pS ([]:List UInt8)]) (b:=17) rfl (aD (A:=((aE.rep 16 aa.nil).1.map af).map PV.d) (b:=1) (aq _) rfl rfl) rfl) bL) (fy 1 (by first | exact Nat.le_of_ble_eq_true rfl | simp) rfl) (cw (p:=pS iE) (cells:=(([pI (1), .d (.slice (x_1.map U)),pS ([]:List UInt8)])++((((aE.rep 16 aa.nil).1.map af).map PV.d)++([pS ([]:List UInt8)])))) (cells':=(([pI (1), .d (.slice (x_1.map U)),pS iE])++((((aE.rep 16 aa.nil).1.map af).map PV.d)++([pS ([]:List UInt8)])))) rfl rfl rfl (bW (aD (A:=[pI (1), .d (.slice (x_1.map U)),pS ([]:List UInt8)]) (b:=17) rfl (aD (A:=((aE.rep 16 aa.nil).1.map af).map PV.d) (b:=1) (aq _) rfl rfl) rfl) bL) (fy 2 (by first | exact Nat.le_of_ble_eq_true rfl | simp) rfl) dF)))) ?_)
 refine XK.fx (some 9) rfl rfl (fl (ds:=ja (⟨1,x_1,iE,(aE.rep 16 aa.nil),([]:List UInt8)⟩:part)) rfl rfl rfl rfl (mh rfl (mh cH rfl)) ⟨_,iH.l7 (tO (⟨1,x_1,iE,(aE.rep 16 aa.nil),([]:List UInt8)⟩:part)) rfl,?_⟩)
 refine xz 4 (.d (af (aa.of (⟨1,x_1,iE,(aE.rep 16 aa.nil),([]:List UInt8)⟩:part)))) ?_
 refine QW.ret zL ?_
 obtain rfl:=sO h
 exact Ends.one (.inr rfl) rfl (aI.tmp rfl) rfl rfl
noncomputable def lC (eM:(List UInt8)) (p1:aa):Option aa:=
  (bif (decide ((eM.length:Int)=(0:Int))) then
  some p1
  else
  ((cW eM).bind fun (x_2:(List UInt8))=>
  some (aa.of (⟨2,x_2,([]:List UInt8),(⟨[p1,aa.nil,aa.nil,aa.nil,aa.nil,aa.nil,aa.nil,aa.nil,aa.nil,aa.nil,aa.nil,aa.nil,aa.nil,aa.nil,aa.nil,aa.nil],rfl⟩:(aE 16 aa)),([]:List UInt8)⟩:part))))
theorem qg (eM:(List UInt8)) (p1:aa) (r:aa) (h:lC eM p1=some r):bI Tryz.prog 50 [.slice (eM.map U),af p1] (af r):=by
 refine bI.aU Tryz.func50 rfl (by simp [Tryz.ntmps50]) ?_
 rw [Tryz.ntmps50,TT.Vl]
 refine QW.view (s':=⟨aG [(0, .d (.slice (eM.map U))),(1, .d (af p1))],aj [],0,[]⟩) (View.init (by rfl)) zL ?_
 unfold lC at h
 refine sR ?_
 refine xz 4 (.d (af (aa.nil))) ?_
 refine QW.seq ?_
 refine sR ?_
 refine xm 5 (.d (.slice (eM.map U))) ?_
 refine xs 6 rfl (cM (en:=U) (l:=eM) rfl TT.bA rfl ?_)
 refine xs 7 rfl (eF (a:=(eM.length:Int)) (b:=(0:Int)) rfl rfl rfl ?_)
 refine XK.nz ?_
 refine QW.cond (t:=(decide ((eM.length:Int)=(0:Int)))) rfl zL (fun dh=>?_) (fun dh=>?_)
 ·replace h:=bT h dh
  refine sR ?_
  refine xm 8 (.d (af p1)) ?_
  refine xz 4 (.d (af p1)) ?_
  refine QW.ret zL (gm ?_)
  obtain rfl:=sO h
  exact Ends.one (.inr rfl) rfl (aI.tmp rfl) rfl rfl
 ·replace h:=bF h dh
  refine QW.skip zL (aX ?_)
  refine sR ?_
  refine xm 9 (.d (.slice (eM.map U))) ?_
  obtain ⟨x_2,nI,h⟩:=bO h
  refine xs 10 rfl (aA rfl rfl TT.vK rfl (gW eM _ nI) ?_)
  refine xm 11 (.d (af p1)) ?_
  refine XK.as (some 12) rfl rfl (vb (v:= .agg [.d (af p1), .d (af (aa.nil)), .d (af (aa.nil)), .d (af (aa.nil)), .d (af (aa.nil)), .d (af (aa.nil)), .d (af (aa.nil)), .d (af (aa.nil)), .d (af (aa.nil)), .d (af (aa.nil)), .d (af (aa.nil)), .d (af (aa.nil)), .d (af (aa.nil)), .d (af (aa.nil)), .d (af (aa.nil)), .d (af (aa.nil))]) rfl (by rw [TT.Md];simp [k9,k8,placeOf,ot,aB,PV.cz,PV.hY,Value.oneCell',l6,nM,dQ,List.all,cx,aG,jA,iU,bU,jX,af]) (by rw [TT.Md];rfl) ⟨.d (.agg ((⟨[p1,aa.nil,aa.nil,aa.nil,aa.nil,aa.nil,aa.nil,aa.nil,aa.nil,aa.nil,aa.nil,aa.nil,aa.nil,aa.nil,aa.nil,aa.nil],rfl⟩:(aE 16 aa)).1.map af)),(iH.dj rfl),?_⟩)
  refine xs 13 rfl (eT (v:= .agg (([pI (2), .d (.slice (x_2.map U)),pS ([]:List UInt8)])++((((⟨[p1,aa.nil,aa.nil,aa.nil,aa.nil,aa.nil,aa.nil,aa.nil,aa.nil,aa.nil,aa.nil,aa.nil,aa.nil,aa.nil,aa.nil,aa.nil],rfl⟩:(aE 16 aa)).1.map af).map PV.d)++([pS ([]:List UInt8)])))) rfl TT.Dp (dG rfl (cw (p:=pI (2)) (cells:=(([pI (0), .full (([]:(List UInt8)).map U),pS ([]:List UInt8)])++((((aE.rep 16 aa.nil).1.map af).map PV.d)++([pS ([]:List UInt8)])))) (cells':=(([pI (2), .full (([]:(List UInt8)).map U),pS ([]:List UInt8)])++((((aE.rep 16 aa.nil).1.map af).map PV.d)++([pS ([]:List UInt8)])))) rfl rfl rfl (bW (aD (A:=[pI (0), .full (([]:(List UInt8)).map U),pS ([]:List UInt8)]) (b:=17) rfl (aD (A:=((aE.rep 16 aa.nil).1.map af).map PV.d) (b:=1) (aq _) rfl rfl) rfl) bL) (fy 0 (by first | exact Nat.le_of_ble_eq_true rfl | simp) rfl) (cw (p:= .d (.slice (x_2.map U))) (cells:=(([pI (2), .full (([]:(List UInt8)).map U),pS ([]:List UInt8)])++((((aE.rep 16 aa.nil).1.map af).map PV.d)++([pS ([]:List UInt8)])))) (cells':=(([pI (2), .d (.slice (x_2.map U)),pS ([]:List UInt8)])++((((aE.rep 16 aa.nil).1.map af).map PV.d)++([pS ([]:List UInt8)])))) rfl rfl rfl (bW (aD (A:=[pI (2), .full (([]:(List UInt8)).map U),pS ([]:List UInt8)]) (b:=17) rfl (aD (A:=((aE.rep 16 aa.nil).1.map af).map PV.d) (b:=1) (aq _) rfl rfl) rfl) bL) (fy 1 (by first | exact Nat.le_of_ble_eq_true rfl | simp) rfl) (cw (p:= .d (.agg ((⟨[p1,aa.nil,aa.nil,aa.nil,aa.nil,aa.nil,aa.nil,aa.nil,aa.nil,aa.nil,aa.nil,aa.nil,aa.nil,aa.nil,aa.nil,aa.nil],rfl⟩:(aE 16 aa)).1.map af))) (cells:=(([pI (2), .d (.slice (x_2.map U)),pS ([]:List UInt8)])++((((aE.rep 16 aa.nil).1.map af).map PV.d)++([pS ([]:List UInt8)])))) (cells':=(([pI (2), .d (.slice (x_2.map U)),pS ([]:List UInt8)])++((((⟨[p1,aa.nil,aa.nil,aa.nil,aa.nil,aa.nil,aa.nil,aa.nil,aa.nil,aa.nil,aa.nil,aa.nil,aa.nil,aa.nil,aa.nil,aa.nil],rfl⟩:(aE 16 aa)).1.map af).map PV.d)++([pS ([]:List UInt8)])))) rfl rfl (show (((⟨[p1,aa.nil,aa.nil,aa.nil,aa.nil,aa.nil,aa.nil,aa.nil,aa.nil,aa.nil,aa.nil,aa.nil,aa.nil,aa.nil,aa.nil,aa.nil],rfl⟩:(aE 16 aa)).1.map af).map PV.d).length=_ from aq _) (bW (aD (A:=[pI (2), .d (.slice (x_2.map U)),pS ([]:List UInt8)]) (b:=17) rfl (aD (A:=((aE.rep 16 aa.nil).1.map af).map PV.d) (b:=1) (aq _) rfl rfl) rfl) bL) (qo 3 0 rfl (GA (aq _) (aq _))) dF)))) ?_)
  refine XK.fx (some 14) rfl rfl (fl (ds:=ja (⟨2,x_2,([]:List UInt8),(⟨[p1,aa.nil,aa.nil,aa.nil,aa.nil,aa.nil,aa.nil,aa.nil,aa.nil,aa.nil,aa.nil,aa.nil,aa.nil,aa.nil,aa.nil,aa.nil],rfl⟩:(aE 16 aa)),([]:List UInt8)⟩:part)) rfl rfl rfl rfl (mh rfl (mh cH rfl)) ⟨_,iH.l7 (tO (⟨2,x_2,([]:List UInt8),(⟨[p1,aa.nil,aa.nil,aa.nil,aa.nil,aa.nil,aa.nil,aa.nil,aa.nil,aa.nil,aa.nil,aa.nil,aa.nil,aa.nil,aa.nil,aa.nil],rfl⟩:(aE 16 aa)),([]:List UInt8)⟩:part)) rfl,?_⟩)
  refine xz 4 (.d (af (aa.of (⟨2,x_2,([]:List UInt8),(⟨[p1,aa.nil,aa.nil,aa.nil,aa.nil,aa.nil,aa.nil,aa.nil,aa.nil,aa.nil,aa.nil,aa.nil,aa.nil,aa.nil,aa.nil,aa.nil],rfl⟩:(aE 16 aa)),([]:List UInt8)⟩:part)))) ?_
  refine QW.ret zL ?_
  obtain rfl:=sO h
  exact Ends.one (.inr rfl) rfl (aI.tmp rfl) rfl rfl
noncomputable def mN (p0:aa) (aL:(List UInt8)) (iF:(List UInt8)) (n3:Int):Option aa:=
  gO (0≤n3∧n3<(aL.length:Int)) (
  gO (bw (n3+(1:Int))) (
  gO (0≤(n3+(1:Int))∧(n3+(1:Int))≤(aL.length:Int)∧(aL.length:Int)≤(aL.length:Int)) (
  ((lA (sub aL (n3+(1:Int)) (aL.length:Int)) iF).bind fun (x_4:aa)=>
  gO (0≤((idx aL n3).toNat:Int)∧((idx aL n3).toNat:Int)<((16:Nat):Int)) (
  gO (p0.isNil=false) (
  gO (0≤n3∧n3<(((p0.at).bE).length:Int)) (
  ((gO (p0.isNil=false) (
  (bif (decide (((p0.at).aZ)=(1:Int))) then
  gO (p0.isNil=false) (
  gO (bw (n3+(1:Int))) (
  gO (0≤(n3+(1:Int))∧(n3+(1:Int))≤(((p0.at).bE).length:Int)∧(((p0.at).bE).length:Int)≤(((p0.at).bE).length:Int)) (
  gO (p0.isNil=false) (
  ((lA (sub ((p0.at).bE) (n3+(1:Int)) (((p0.at).bE).length:Int)) ((p0.at).dK)).bind fun (x_15:aa)=>
  gO (0≤((idx ((p0.at).bE) n3).toNat:Int)∧((idx ((p0.at).bE) n3).toNat:Int)<((16:Nat):Int)) (
  some (((aE.rep 16 aa.nil).put ((idx aL n3).toNat:Int) x_4).put ((idx ((p0.at).bE) n3).toNat:Int) x_15)))))))
  else
  gO (p0.isNil=false) (
  gO (bw (n3+(1:Int))) (
  gO (0≤(n3+(1:Int))∧(n3+(1:Int))≤(((p0.at).bE).length:Int)∧(((p0.at).bE).length:Int)≤(((p0.at).bE).length:Int)) (
  gO (p0.isNil=false) (
  ((lC (sub ((p0.at).bE) (n3+(1:Int)) (((p0.at).bE).length:Int)) (idx ((p0.at).bZ).1 (0:Int))).bind fun (x_22:aa)=>
  gO (0≤((idx ((p0.at).bE) n3).toNat:Int)∧((idx ((p0.at).bE) n3).toNat:Int)<((16:Nat):Int)) (
  some (((aE.rep 16 aa.nil).put ((idx aL n3).toNat:Int) x_4).put ((idx ((p0.at).bE) n3).toNat:Int) x_22))))))))):Option (aE 16 aa)).bind fun (E5:(aE 16 aa))=>
  gO (0≤(0:Int)∧(0:Int)≤n3∧n3≤(aL.length:Int)) (
  ((lC (sub aL (0:Int) n3) (aa.of (⟨3,([]:(List UInt8)),([]:List UInt8),E5,([]:List UInt8)⟩:part))).bind fun (ym:aa)=>
  some ym))))))))))
theorem Bt (p0:aa) (aL:(List UInt8)) (iF:(List UInt8)) (n3:Int) (r:aa) (h:mN p0 aL iF n3=some r):bI Tryz.prog 49 [af p0, .slice (aL.map U), .val (sV iF), .val (.int .i64 n3)] (af r):=by
 refine bI.aU Tryz.func49 rfl (by simp [Tryz.ntmps49]) ?_
 rw [Tryz.ntmps49,TT.Vk]
 refine QW.view (s':=⟨aG [(0, .d (af p0)),(1, .d (.slice (aL.map U))),(2,pS iF),(3,pI n3)],aj [],0,[]⟩) (View.init (by rfl)) zL ?_
 unfold mN at h
 refine sR ?_
 refine xz 8 (.d (af (aa.nil))) ?_
 refine sR ?_
 refine xs 11 rfl (eT (v:= .agg (([pI (3), .full (([]:(List UInt8)).map U),pS ([]:List UInt8)])++((((aE.rep 16 aa.nil).1.map af).map PV.d)++([pS ([]:List UInt8)])))) rfl TT.Dp (dG rfl (cw (p:=pI (3)) (cells:=(([pI (0), .full (([]:(List UInt8)).map U),pS ([]:List UInt8)])++((((aE.rep 16 aa.nil).1.map af).map PV.d)++([pS ([]:List UInt8)])))) (cells':=(([pI (3), .full (([]:(List UInt8)).map U),pS ([]:List UInt8)])++((((aE.rep 16 aa.nil).1.map af).map PV.d)++([pS ([]:List UInt8)])))) rfl rfl rfl (bW (aD (A:=[pI (0), .full (([]:(List UInt8)).map U),pS ([]:List UInt8)]) (b:=17) rfl (aD (A:=((aE.rep 16 aa.nil).1.map af).map PV.d) (b:=1) (aq _) rfl rfl) rfl) bL) (fy 0 (by first | exact Nat.le_of_ble_eq_true rfl | simp) rfl) dF)) ?_)
 refine xs 12 rfl (Ln (c:=(([pI (3), .full (([]:(List UInt8)).map U),pS ([]:List UInt8)])++((((aE.rep 16 aa.nil).1.map af).map PV.d)++([pS ([]:List UInt8)])))) rfl rfl rfl rfl rfl ?_)
 refine xz 9 (.aF 0 0) ?_
 refine QW.seq ?_
 refine QW.region zL (PW.rL (id:=2) dc (M:=_) rfl (by kernel_rfl) ?_)
 refine RK.st (some 13) rfl rfl (au (v:= .aF 0 0) rfl rfl ?_)
 refine RK.st (some 14) rfl rfl (au (v:= .d (.slice (aL.map U))) rfl rfl ?_)
 refine RK.st (some 15) rfl rfl (au (v:=pI n3) rfl rfl ?_)
 obtain ⟨nV,h⟩:=bk h
 refine RK.st (some 16) rfl rfl (bC (l:=aL) (i:=n3) rfl TT.ek bx rfl rfl nV ?_)
 refine RK.st (some 17) rfl rfl (aC (d:= .val (.int .u8 ((idx aL n3).toNat:Int))) rfl TT.jx rfl (c8.one) ?_)
 refine RK.st (some 18) rfl rfl (au (v:= .d (.slice (aL.map U))) rfl rfl ?_)
 refine RK.st (some 19) rfl rfl (au (v:=pI n3) rfl rfl ?_)
 obtain ⟨xE,h⟩:=bk h
 refine RK.st (some 20) rfl rfl (bX (a:=n3) (b:=(1:Int)) rfl rfl rfl xE ?_)
 obtain ⟨dS,h⟩:=bk h
 refine RK.st (some 21) rfl rfl (n7 (l:=aL) (a:=(n3+(1:Int))) (b:=(aL.length:Int)) rfl TT.bA TT.ek bx rfl rfl rfl dS ?_)
 refine RK.st (some 22) rfl rfl (au (v:=pS iF) rfl rfl ?_)
 obtain ⟨x_4,kZ,h⟩:=bO h
 refine RK.st (some 23) rfl rfl (aA rfl rfl TT.vU rfl (oZ (sub aL (n3+(1:Int)) (aL.length:Int)) iF _ kZ) ?_)
 refine RK.st (some 24) rfl rfl (mD (v:= .aF 0 0) rfl rfl rfl ?_)
 refine RK.st (some 25) rfl rfl (gF rfl TT.jj (by decide) rfl ?_)
 obtain ⟨mJ,h⟩:=bk h
 refine RK.st (some 26) rfl rfl (cV (i:=((idx aL n3).toNat:Int)) rfl TT.mM TT.kI rfl rfl mJ ?_)
 refine RK.st none rfl rfl (bh (l':=(([pI (3), .full (([]:(List UInt8)).map U),pS ([]:List UInt8)])++(((((aE.rep 16 aa.nil).put ((idx aL n3).toNat:Int) x_4).1.map af).map PV.d)++([pS ([]:List UInt8)])))) rfl TT.ic rfl rfl rfl rfl rfl rfl (yQ (n:=16) mJ (aD (A:=[pI (3), .full (([]:(List UInt8)).map U),pS ([]:List UInt8)]) (b:=17) rfl (aD (A:=((aE.rep 16 aa.nil).1.map af).map PV.d) (b:=1) (aq _) rfl rfl) rfl) bL) (qo 3 _ rfl (fy _ (Dc mJ) (s4 mJ))) ?_)
 refine RK.nil ⟨fT.last 14 (by simp) (by simp) (by rfl),(aX ?_)⟩
 refine QW.seq ?_
 refine QW.view (s':=⟨aG [(0, .d (af p0)),(1, .d (.slice (aL.map U))),(3,pI n3),(9, .aF 0 0)],aj [.var (([pI (3), .full (([]:(List UInt8)).map U),pS ([]:List UInt8)])++(((((aE.rep 16 aa.nil).put ((idx aL n3).toNat:Int) x_4).1.map af).map PV.d)++([pS ([]:List UInt8)])))],1,[]⟩) (View.mk 1 [0] _ _ _ rfl rfl (by decide) (iC (iC (iC (iC trivial)))) (And.intro (by simp only [cv,eZ,PV.bK];rfl) trivial) rfl zL rfl) zL ?_
 refine rG ?_
 refine xm 27 (.d (af p0)) ?_
 obtain ⟨lQ,h⟩:=bk h
 refine xs 28 rfl (dH rfl (dI lQ) rfl ?_)
 refine xs 29 rfl (aO rfl TT.jJ (by decide) rfl ?_)
 refine xs 30 rfl (aC (d:= .slice (((p0.at).bE).map U)) rfl TT.fh rfl (iP _) ?_)
 refine xm 31 (pI n3) ?_
 obtain ⟨p5,h⟩:=bk h
 refine xs 32 rfl (bC (l:=(p0.at).bE) (i:=n3) rfl TT.ek bx rfl rfl p5 ?_)
 refine xs 33 rfl (aC (d:= .val (.int .u8 ((idx ((p0.at).bE) n3).toNat:Int))) rfl TT.jx rfl (c8.one) ?_)
 refine xz 10 (.d (.val (.int .u8 ((idx ((p0.at).bE) n3).toNat:Int)))) ?_
 obtain ⟨E5,hq,h⟩:=bO h
 refine QW.qY (fun s'=>s'=⟨aG [(1, .d (.slice (aL.map U))),(3,pI n3),(9, .aF 0 0)],aj [.var (([pI (3), .full (([]:(List UInt8)).map U),pS ([]:List UInt8)])++(((E5.1.map af).map PV.d)++([pS ([]:List UInt8)])))],1,[]⟩) ?_ ?_
 ·replace h:=hq;clear hq
  refine sR ?_
  refine xm 34 (.d (af p0)) ?_
  obtain ⟨qG,h⟩:=bk h
  refine xs 35 rfl (dH rfl (dI qG) rfl ?_)
  refine xs 36 rfl (aO rfl TT.lU (by decide) rfl ?_)
  refine xs 37 rfl (aC (d:= .val (.int .i64 ((p0.at).aZ))) rfl TT.mW rfl (kD _) ?_)
  refine xs 38 rfl (eF (a:=((p0.at).aZ)) (b:=(1:Int)) rfl rfl rfl ?_)
  refine XK.nz ?_
  refine QW.cond (t:=(decide (((p0.at).aZ)=(1:Int)))) rfl zL (fun qM=>?_) (fun qM=>?_)
  ·replace h:=bT h qM
   refine QW.region zL (PW.rL (id:=5) dc (M:=_) rfl (by kernel_rfl) ?_)
   refine RK.st (some 39) rfl rfl (au (v:= .aF 0 0) rfl rfl ?_)
   refine RK.st (some 40) rfl rfl (au (v:= .d (.val (.int .u8 ((idx ((p0.at).bE) n3).toNat:Int)))) rfl rfl ?_)
   refine RK.st (some 41) rfl rfl (au (v:= .d (af p0)) rfl rfl ?_)
   obtain ⟨vH,h⟩:=bk h
   refine RK.st (some 42) rfl rfl (dH rfl (dI vH) rfl ?_)
   refine RK.st (some 43) rfl rfl (aO rfl TT.jJ (by decide) rfl ?_)
   refine RK.st (some 44) rfl rfl (aC (d:= .slice (((p0.at).bE).map U)) rfl TT.fh rfl (iP _) ?_)
   refine RK.st (some 45) rfl rfl (au (v:=pI n3) rfl rfl ?_)
   obtain ⟨m5,h⟩:=bk h
   refine RK.st (some 46) rfl rfl (bX (a:=n3) (b:=(1:Int)) rfl rfl rfl m5 ?_)
   obtain ⟨nJ,h⟩:=bk h
   refine RK.st (some 47) rfl rfl (n7 (l:=(p0.at).bE) (a:=(n3+(1:Int))) (b:=(((p0.at).bE).length:Int)) rfl TT.bA TT.ek bx rfl rfl rfl nJ ?_)
   refine RK.st (some 48) rfl rfl (au (v:= .d (af p0)) rfl rfl ?_)
   obtain ⟨rQ,h⟩:=bk h
   refine RK.st (some 49) rfl rfl (dH rfl (dI rQ) rfl ?_)
   refine RK.st (some 50) rfl rfl (aO rfl TT.y5 (by decide) rfl ?_)
   refine RK.st (some 51) rfl rfl (aC (d:= .val (sV ((p0.at).dK))) rfl TT.fJ rfl (w4 _) ?_)
   obtain ⟨x_15,vF,h⟩:=bO h
   refine RK.st (some 52) rfl rfl (aA rfl rfl TT.vU rfl (oZ (sub ((p0.at).bE) (n3+(1:Int)) (((p0.at).bE).length:Int)) ((p0.at).dK) _ vF) ?_)
   refine RK.st (some 53) rfl rfl (mD (v:= .aF 0 0) rfl rfl rfl ?_)
   refine RK.st (some 54) rfl rfl (gF rfl TT.jj (by decide) rfl ?_)
   obtain ⟨pT,h⟩:=bk h
   refine RK.st (some 55) rfl rfl (cV (i:=((idx ((p0.at).bE) n3).toNat:Int)) rfl TT.mM TT.kI rfl rfl pT ?_)
   refine RK.st none rfl rfl (bh (l':=(([pI (3), .full (([]:(List UInt8)).map U),pS ([]:List UInt8)])++((((((aE.rep 16 aa.nil).put ((idx aL n3).toNat:Int) x_4).put ((idx ((p0.at).bE) n3).toNat:Int) x_15).1.map af).map PV.d)++([pS ([]:List UInt8)])))) rfl TT.ic rfl rfl rfl rfl rfl rfl (yQ (n:=16) pT (aD (A:=[pI (3), .full (([]:(List UInt8)).map U),pS ([]:List UInt8)]) (b:=17) rfl (aD (A:=(((aE.rep 16 aa.nil).put ((idx aL n3).toNat:Int) x_4).1.map af).map PV.d) (b:=1) (aq _) rfl rfl) rfl) bL) (qo 3 _ rfl (fy _ (Dc pT) (s4 pT))) ?_)
   refine RK.nil ⟨fT.last 17 (by simp) (by simp) (by rfl),(aX ?_)⟩
   obtain rfl:=sO h
   exact ⟨⟨aG [(1, .d (.slice (aL.map U))),(3,pI n3),(9, .aF 0 0)],aj [.var (([pI (3), .full (([]:(List UInt8)).map U),pS ([]:List UInt8)])++((((((aE.rep 16 aa.nil).put ((idx aL n3).toNat:Int) x_4).put ((idx ((p0.at).bE) n3).toNat:Int) x_15).1.map af).map PV.d)++([pS ([]:List UInt8)])))],1,[]⟩,View.mk 1 [0] _ _ _ rfl rfl (by decide) (iC (iC (iC trivial))) (And.intro (by simp only [cv,eZ,PV.bK];rfl) trivial) rfl zL rfl,rfl⟩
  ·replace h:=bF h qM
   refine QW.region zL (PW.rL (id:=6) dc (M:=_) rfl (by kernel_rfl) ?_)
   refine RK.st (some 56) rfl rfl (au (v:= .aF 0 0) rfl rfl ?_)
   refine RK.st (some 57) rfl rfl (au (v:= .d (.val (.int .u8 ((idx ((p0.at).bE) n3).toNat:Int)))) rfl rfl ?_)
   refine RK.st (some 58) rfl rfl (au (v:= .d (af p0)) rfl rfl ?_)
   obtain ⟨rA,h⟩:=bk h
   refine RK.st (some 59) rfl rfl (dH rfl (dI rA) rfl ?_)
   refine RK.st (some 60) rfl rfl (aO rfl TT.jJ (by decide) rfl ?_)
   refine RK.st (some 61) rfl rfl (aC (d:= .slice (((p0.at).bE).map U)) rfl TT.fh rfl (iP _) ?_)
   refine RK.st (some 62) rfl rfl (au (v:=pI n3) rfl rfl ?_)
   obtain ⟨yj,h⟩:=bk h
   refine RK.st (some 63) rfl rfl (bX (a:=n3) (b:=(1:Int)) rfl rfl rfl yj ?_)
   obtain ⟨vS,h⟩:=bk h
   refine RK.st (some 64) rfl rfl (n7 (l:=(p0.at).bE) (a:=(n3+(1:Int))) (b:=(((p0.at).bE).length:Int)) rfl TT.bA TT.ek bx rfl rfl rfl vS ?_)
   refine RK.st (some 65) rfl rfl (au (v:= .d (af p0)) rfl rfl ?_)
   obtain ⟨Jo,h⟩:=bk h
   refine RK.st (some 66) rfl rfl (dH rfl (dI Jo) rfl ?_)
   refine RK.st (some 67) rfl rfl (aO rfl TT.jj (by decide) rfl ?_)
   refine RK.st (some 68) rfl rfl (mF (i:=(0:Int)) rfl TT.mM TT.kI rfl rfl (by decide) ?_)
   refine RK.st (some 69) rfl rfl (aC (d:=af (idx ((p0.at).bZ).1 (0:Int))) rfl TT.ic rfl (ov (nG _) (by decide)) ?_)
   obtain ⟨x_22,yX,h⟩:=bO h
   refine RK.st (some 70) rfl rfl (aA rfl rfl TT.vV rfl (qg (sub ((p0.at).bE) (n3+(1:Int)) (((p0.at).bE).length:Int)) (idx ((p0.at).bZ).1 (0:Int)) _ yX) ?_)
   refine RK.st (some 71) rfl rfl (mD (v:= .aF 0 0) rfl rfl rfl ?_)
   refine RK.st (some 72) rfl rfl (gF rfl TT.jj (by decide) rfl ?_)
   obtain ⟨w5,h⟩:=bk h
   refine RK.st (some 73) rfl rfl (cV (i:=((idx ((p0.at).bE) n3).toNat:Int)) rfl TT.mM TT.kI rfl rfl w5 ?_)
   refine RK.st none rfl rfl (bh (l':=(([pI (3), .full (([]:(List UInt8)).map U),pS ([]:List UInt8)])++((((((aE.rep 16 aa.nil).put ((idx aL n3).toNat:Int) x_4).put ((idx ((p0.at).bE) n3).toNat:Int) x_22).1.map af).map PV.d)++([pS ([]:List UInt8)])))) rfl TT.ic rfl rfl rfl rfl rfl rfl (yQ (n:=16) w5 (aD (A:=[pI (3), .full (([]:(List UInt8)).map U),pS ([]:List UInt8)]) (b:=17) rfl (aD (A:=(((aE.rep 16 aa.nil).put ((idx aL n3).toNat:Int) x_4).1.map af).map PV.d) (b:=1) (aq _) rfl rfl) rfl) bL) (qo 3 _ rfl (fy _ (Dc w5) (s4 w5))) ?_)
   refine RK.nil ⟨fT.last 18 (by simp) (by simp) (by rfl),(aX ?_)⟩
   obtain rfl:=sO h
   exact ⟨⟨aG [(1, .d (.slice (aL.map U))),(3,pI n3),(9, .aF 0 0)],aj [.var (([pI (3), .full (([]:(List UInt8)).map U),pS ([]:List UInt8)])++((((((aE.rep 16 aa.nil).put ((idx aL n3).toNat:Int) x_4).put ((idx ((p0.at).bE) n3).toNat:Int) x_22).1.map af).map PV.d)++([pS ([]:List UInt8)])))],1,[]⟩,View.mk 1 [0] _ _ _ rfl rfl (by decide) (iC (iC (iC trivial))) (And.intro (by simp only [cv,eZ,PV.bK];rfl) trivial) rfl zL rfl,rfl⟩
 ·rintro _ rfl
  refine QW.seq ?_
  refine QW.view (s':=⟨aG [(1, .d (.slice (aL.map U))),(3,pI n3),(9, .d (af (aa.of (⟨3,([]:(List UInt8)),([]:List UInt8),E5,([]:List UInt8)⟩:part))))],aj [],0,[]⟩) (View.trans (View.R8 0 1 rfl (I8 rfl) rfl (I9 bL rfl) zL) (View.trans (View.LF (ds:=ja (⟨3,([]:(List UInt8)),([]:List UInt8),E5,([]:List UInt8)⟩:part)) 0 9 rfl (show (ja (⟨3,([]:(List UInt8)),([]:List UInt8),E5,([]:List UInt8)⟩:part)).map PV.d=_ by simp only [ja,List.map_append];rfl) (tO _) rfl rfl zL) (View.mk 0 [] _ _ _ rfl rfl (by decide) (iC (iC (iC trivial))) trivial rfl zL rfl))) zL ?_
  refine rG ?_
  refine xm 74 (.d (.slice (aL.map U))) ?_
  refine xm 75 (pI n3) ?_
  obtain ⟨Di,h⟩:=bk h
  refine xs 76 rfl (n7 (l:=aL) (a:=(0:Int)) (b:=n3) rfl TT.bA TT.ek bx rfl rfl rfl Di ?_)
  refine xm 77 (.d (af (aa.of (⟨3,([]:(List UInt8)),([]:List UInt8),E5,([]:List UInt8)⟩:part)))) ?_
  obtain ⟨ym,Ok,h⟩:=bO h
  refine xs 78 rfl (aA rfl rfl TT.vV rfl (qg (sub aL (0:Int) n3) (aa.of (⟨3,([]:(List UInt8)),([]:List UInt8),E5,([]:List UInt8)⟩:part)) _ Ok) ?_)
  refine xz 8 (.d (af ym)) ?_
  refine QW.ret zL ?_
  obtain rfl:=sO h
  exact Ends.one (.inr rfl) rfl (aI.tmp rfl) rfl rfl
noncomputable def gn (self:aa→(List UInt8)→(List UInt8)→Option aa) (p0:aa) (aL:(List UInt8)) (iF:(List UInt8)):Option aa:=
  (bif p0.isNil then
  ((lA aL iF).bind fun (x_2:aa)=>
  some x_2)
  else
  gO (p0.isNil=false) (
  ((tw ((p0.at).bE) aL).bind fun (x_5:Int)=>
  gO (p0.isNil=false) (
  (bif (decide (((p0.at).aZ)=(-1:Int))) then
  none
  else
  gO (p0.isNil=false) (
  (bif (decide (x_5<(((p0.at).bE).length:Int))) then
  ((mN p0 aL iF x_5).bind fun (x_11:aa)=>
  some x_11)
  else
  gO (p0.isNil=false) (
  (bif (decide (((p0.at).aZ)=(1:Int))) then
  ((lA aL iF).bind fun (x_15:aa)=>
  some x_15)
  else
  gO (p0.isNil=false) (
  (bif (decide (((p0.at).aZ)=(2:Int))) then
  gO (p0.isNil=false) (
  gO (p0.isNil=false) (
  gO (0≤x_5∧x_5≤(aL.length:Int)∧(aL.length:Int)≤(aL.length:Int)) (
  ((self (idx ((p0.at).bZ).1 (0:Int)) (sub aL x_5 (aL.length:Int)) iF).bind fun (x_22:aa)=>
  ((lC ((p0.at).bE) x_22).bind fun (x_24:aa)=>
  some x_24)))))
  else
  gO (p0.isNil=false) (
  gO (0≤(0:Int)∧(0:Int)<(aL.length:Int)) (
  gO (0≤(0:Int)∧(0:Int)<(aL.length:Int)) (
  gO (p0.isNil=false) (
  gO (0≤((idx aL (0:Int)).toNat:Int)∧((idx aL (0:Int)).toNat:Int)<((16:Nat):Int)) (
  gO (0≤(1:Int)∧(1:Int)≤(aL.length:Int)∧(aL.length:Int)≤(aL.length:Int)) (
  ((self (idx ((p0.at).bZ).1 ((idx aL (0:Int)).toNat:Int)) (sub aL (1:Int) (aL.length:Int)) iF).bind fun (sN:aa)=>
  gO (0≤((idx aL (0:Int)).toNat:Int)∧((idx aL (0:Int)).toNat:Int)<((16:Nat):Int)) (
  some (aa.of (⟨(p0.at).aZ,(p0.at).bE,(p0.at).dK,(((p0.at).bZ).put ((idx aL (0:Int)).toNat:Int) sN),(p0.at).vC⟩:part)))))))))))))))))))))
theorem Bu (self:aa→(List UInt8)→(List UInt8)→Option aa) (fQ:∀ (y0:aa) (y1:(List UInt8)) (y2:(List UInt8)) (rr:aa),self y0 y1 y2=some rr→bI Tryz.prog 29 [af y0, .slice (y1.map U), .val (sV y2)] (af rr)) (p0:aa) (aL:(List UInt8)) (iF:(List UInt8)) (r:aa) (h:gn self p0 aL iF=some r):bI Tryz.prog 29 [af p0, .slice (aL.map U), .val (sV iF)] (af r):=by
 refine bI.aU Tryz.func29 rfl (by simp [Tryz.ntmps29]) ?_
 rw [Tryz.ntmps29,TT.Ve]
 refine QW.view (s':=⟨aG [(0, .d (af p0)),(1, .d (.slice (aL.map U))),(2,pS iF)],aj [],0,[]⟩) (View.init (by rfl)) zL ?_
 unfold gn at h
 refine sR ?_
 refine xz 6 (.d (af (aa.nil))) ?_
 refine QW.seq ?_
 refine sR ?_
 refine xm 9 (.d (af p0)) ?_
 refine xs 10 rfl (z9 rfl TT.rD rfl rfl ?_)
 refine XK.nz ?_
 refine QW.cond (t:=p0.isNil) rfl zL (fun dh=>?_) (fun dh=>?_)
 ·replace h:=bT h dh
  refine sR ?_
  refine xm 11 (.d (.slice (aL.map U))) ?_
  refine xm 12 (pS iF) ?_
  obtain ⟨x_2,nI,h⟩:=bO h
  refine xs 13 rfl (aA rfl rfl TT.vU rfl (oZ aL iF _ nI) ?_)
  refine xz 6 (.d (af x_2)) ?_
  refine QW.ret zL (gm ?_)
  obtain rfl:=sO h
  exact Ends.one (.inr rfl) rfl (aI.tmp rfl) rfl rfl
 ·replace h:=bF h dh
  refine QW.skip zL (aX ?_)
  refine sR ?_
  refine xm 14 (.d (af p0)) ?_
  obtain ⟨mH,h⟩:=bk h
  refine xs 15 rfl (dH rfl (dI mH) rfl ?_)
  refine xs 16 rfl (aO rfl TT.jJ (by decide) rfl ?_)
  refine xs 17 rfl (aC (d:= .slice (((p0.at).bE).map U)) rfl TT.fh rfl (iP _) ?_)
  refine xm 18 (.d (.slice (aL.map U))) ?_
  obtain ⟨x_5,sJ,h⟩:=bO h
  refine xs 19 rfl (aA rfl rfl TT.G9 rfl (zC ((p0.at).bE) aL _ sJ) ?_)
  refine xz 7 (pI x_5) ?_
  refine QW.seq ?_
  refine QW.block ?_
  refine sR ?_
  refine xm 21 (.d (af p0)) ?_
  obtain ⟨lQ,h⟩:=bk h
  refine xs 22 rfl (dH rfl (dI lQ) rfl ?_)
  refine xs 23 rfl (aO rfl TT.lU (by decide) rfl ?_)
  refine xs 24 rfl (aC (d:= .val (.int .i64 ((p0.at).aZ))) rfl TT.mW rfl (kD _) ?_)
  refine xs 25 rfl (eF (a:=((p0.at).aZ)) (b:=(-1:Int)) rfl rfl rfl ?_)
  refine xz 20 (pB (decide (((p0.at).aZ)=(-1:Int)))) ?_
  refine QW.cond (t:=(decide (((p0.at).aZ)=(-1:Int)))) rfl zL (fun rZ=>?_) (fun rZ=>?_)
  ·replace h:=bT h rZ
   refine rG ?_
   refine xs 26 rfl (eT (v:= .agg []) rfl TT.G3 (dG rfl dF) ?_)
   refine xs 27 rfl (AY (y:= .agg []) rfl rfl TT.As ?_)
   refine XK.panic rfl rfl rfl (Kh (sD ?_))
   cases h
  ·replace h:=bF h rZ
   refine sR ?_
   refine xm 29 (pI x_5) ?_
   refine xm 30 (.d (af p0)) ?_
   obtain ⟨qG,h⟩:=bk h
   refine xs 31 rfl (dH rfl (dI qG) rfl ?_)
   refine xs 32 rfl (aO rfl TT.jJ (by decide) rfl ?_)
   refine xs 33 rfl (aC (d:= .slice (((p0.at).bE).map U)) rfl TT.fh rfl (iP _) ?_)
   refine xs 34 rfl (cM (en:=U) (l:=(p0.at).bE) rfl TT.bA rfl ?_)
   refine xs 35 rfl (cJ (a:=x_5) (b:=(((p0.at).bE).length:Int)) rfl rfl rfl ?_)
   refine xz 28 (pB (decide (x_5<(((p0.at).bE).length:Int)))) ?_
   refine QW.cond (t:=(decide (x_5<(((p0.at).bE).length:Int)))) rfl zL (fun qM=>?_) (fun qM=>?_)
   ·replace h:=bT h qM
    refine sR ?_
    refine xm 36 (.d (af p0)) ?_
    refine xm 37 (.d (.slice (aL.map U))) ?_
    refine xm 38 (pS iF) ?_
    refine xm 39 (pI x_5) ?_
    obtain ⟨x_11,pY,h⟩:=bO h
    refine xs 40 rfl (aA rfl rfl TT.Oi rfl (Bt p0 aL iF x_5 _ pY) ?_)
    refine xz 6 (.d (af x_11)) ?_
    refine QW.ret zL (sZ (gm ?_))
    obtain rfl:=sO h
    exact Ends.one (.inr rfl) rfl (aI.tmp rfl) rfl rfl
   ·replace h:=bF h qM
    refine sR ?_
    refine xm 42 (.d (af p0)) ?_
    obtain ⟨nJ,h⟩:=bk h
    refine xs 43 rfl (dH rfl (dI nJ) rfl ?_)
    refine xs 44 rfl (aO rfl TT.lU (by decide) rfl ?_)
    refine xs 45 rfl (aC (d:= .val (.int .i64 ((p0.at).aZ))) rfl TT.mW rfl (kD _) ?_)
    refine xs 46 rfl (eF (a:=((p0.at).aZ)) (b:=(1:Int)) rfl rfl rfl ?_)
    refine xz 41 (pB (decide (((p0.at).aZ)=(1:Int)))) ?_
    refine QW.cond (t:=(decide (((p0.at).aZ)=(1:Int)))) rfl zL (fun vI=>?_) (fun vI=>?_)
    ·replace h:=bT h vI
     refine sR ?_
     refine xm 47 (.d (.slice (aL.map U))) ?_
     refine xm 48 (pS iF) ?_
     obtain ⟨x_15,vF,h⟩:=bO h
     refine xs 49 rfl (aA rfl rfl TT.vU rfl (oZ aL iF _ vF) ?_)
     refine xz 6 (.d (af x_15)) ?_
     refine QW.ret zL (sZ (gm ?_))
     obtain rfl:=sO h
     exact Ends.one (.inr rfl) rfl (aI.tmp rfl) rfl rfl
    ·replace h:=bF h vI
     refine sR ?_
     refine xm 51 (.d (af p0)) ?_
     obtain ⟨pT,h⟩:=bk h
     refine xs 52 rfl (dH rfl (dI pT) rfl ?_)
     refine xs 53 rfl (aO rfl TT.lU (by decide) rfl ?_)
     refine xs 54 rfl (aC (d:= .val (.int .i64 ((p0.at).aZ))) rfl TT.mW rfl (kD _) ?_)
     refine xs 55 rfl (eF (a:=((p0.at).aZ)) (b:=(2:Int)) rfl rfl rfl ?_)
     refine xz 50 (pB (decide (((p0.at).aZ)=(2:Int)))) ?_
     refine QW.cond (t:=(decide (((p0.at).aZ)=(2:Int)))) rfl zL (fun Cd=>?_) (fun Cd=>?_)
     ·replace h:=bT h Cd
      refine QW.seq ?_
      refine QW.region zL (PW.kX (id:=11) dc (M:=_) rfl (by kernel_rfl) ?_)
      refine RQ.st (some 56) rfl rfl (au (v:= .d (af p0)) rfl rfl ⟨⟨rfl,rfl⟩,?_⟩)
      obtain ⟨yj,h⟩:=bk h
      refine RQ.st (some 57) rfl rfl (dH rfl (dI yj) rfl ⟨⟨rfl,rfl⟩,?_⟩)
      refine RQ.st (some 58) rfl rfl (aO rfl TT.jJ (by decide) rfl ⟨⟨rfl,rfl⟩,?_⟩)
      refine RQ.st (some 59) rfl rfl (aC (d:= .slice (((p0.at).bE).map U)) rfl TT.fh rfl (iP _) ⟨⟨rfl,rfl⟩,?_⟩)
      refine RQ.st (some 60) rfl rfl (au (v:= .d (af p0)) rfl rfl ⟨⟨rfl,rfl⟩,?_⟩)
      obtain ⟨vS,h⟩:=bk h
      refine RQ.st (some 61) rfl rfl (dH rfl (dI vS) rfl ⟨⟨rfl,rfl⟩,?_⟩)
      refine RQ.st (some 62) rfl rfl (aO rfl TT.jj (by decide) rfl ⟨⟨rfl,rfl⟩,?_⟩)
      refine RQ.st (some 63) rfl rfl (mF (i:=(0:Int)) rfl TT.mM TT.kI rfl rfl (by decide) ⟨⟨rfl,rfl⟩,?_⟩)
      refine RQ.st (some 64) rfl rfl (aC (d:=af (idx ((p0.at).bZ).1 (0:Int))) rfl TT.ic rfl (ov (nG _) (by decide)) ⟨⟨rfl,rfl⟩,?_⟩)
      refine RQ.st (some 65) rfl rfl (au (v:= .d (.slice (aL.map U))) rfl rfl ⟨⟨rfl,rfl⟩,?_⟩)
      refine RQ.st (some 66) rfl rfl (au (v:=pI x_5) rfl rfl ⟨⟨rfl,rfl⟩,?_⟩)
      obtain ⟨Jo,h⟩:=bk h
      refine RQ.st (some 67) rfl rfl (n7 (l:=aL) (a:=x_5) (b:=(aL.length:Int)) rfl TT.bA TT.ek bx rfl rfl rfl Jo ⟨⟨rfl,rfl⟩,?_⟩)
      refine RQ.st (some 68) rfl rfl (au (v:=pS iF) rfl rfl ⟨⟨rfl,rfl⟩,?_⟩)
      obtain ⟨x_22,yX,h⟩:=bO h
      refine RQ.st (some 69) rfl rfl (aA rfl rfl TT.Cq rfl (fQ (idx ((p0.at).bZ).1 (0:Int)) (sub aL x_5 (aL.length:Int)) iF _ yX) ⟨⟨rfl,rfl⟩,?_⟩)
      obtain ⟨x_24,He,h⟩:=bO h
      refine RQ.st (some 70) rfl rfl (aA rfl rfl TT.vV rfl (qg ((p0.at).bE) x_22 _ He) ⟨⟨rfl,rfl⟩,?_⟩)
      refine RQ.st (some 6) rfl rfl (cq (v:= .d (af x_24)) rfl rfl ⟨⟨rfl,rfl⟩,?_⟩)
      refine RQ.nil (aX ?_)
      refine QW.ret zL (sZ (gm ?_))
      obtain rfl:=sO h
      exact Ends.one (.inr rfl) rfl (aI.tmp rfl) rfl rfl
     ·replace h:=bF h Cd
      refine QW.skip zL (g6 (aX ?_))
      refine sR ?_
      refine xm 71 (.d (af p0)) ?_
      obtain ⟨ye,h⟩:=bk h
      refine xs 72 rfl (dH rfl (dI ye) rfl ?_)
      refine xs 73 rfl (aC (d:= .agg (ja (p0.at))) rfl TT.Pk rfl (⟨by rw [Jd.len];decide,congrArg D.agg (List.take_of_length_le (by rw [Jd.len];decide))⟩) ?_)
      refine xs 8 rfl (bB (l:=(([pI (0), .full (([]:(List UInt8)).map U),pS ([]:List UInt8)])++((((aE.rep 16 aa.nil).1.map af).map PV.d)++([pS ([]:List UInt8)])))) rfl TT.Qp rfl rfl ?_)
      refine XK.st none rfl rfl (bh (c:=(([pI ((p0.at).aZ), .d (.slice (((p0.at).bE).map U)),pS ((p0.at).dK)])++(((((p0.at).bZ).1.map af).map PV.d)++([pS ((p0.at).vC)])))) (l':=(([pI ((p0.at).aZ), .d (.slice (((p0.at).bE).map U)),pS ((p0.at).dK)])++(((((p0.at).bZ).1.map af).map PV.d)++([pS ((p0.at).vC)])))) rfl TT.Pk rfl rfl rfl rfl (show (ja (p0.at)).map PV.d=_ by simp only [ja,List.map_append];rfl) (aD (A:=[pI ((p0.at).aZ), .d (.slice (((p0.at).bE).map U)),pS ((p0.at).dK)]) (b:=17) rfl (aD (A:=(((p0.at).bZ).1.map af).map PV.d) (b:=1) (aq _) rfl rfl) rfl) (bW (aD (A:=[pI (0), .full (([]:(List UInt8)).map U),pS ([]:List UInt8)]) (b:=17) rfl (aD (A:=((aE.rep 16 aa.nil).1.map af).map PV.d) (b:=1) (aq _) rfl rfl) rfl) bL) (cQ ((aD (A:=[pI (0), .full (([]:(List UInt8)).map U),pS ([]:List UInt8)]) (b:=17) rfl (aD (A:=((aE.rep 16 aa.nil).1.map af).map PV.d) (b:=1) (aq _) rfl rfl) rfl).trans (aD (A:=[pI ((p0.at).aZ), .d (.slice (((p0.at).bE).map U)),pS ((p0.at).dK)]) (b:=17) rfl (aD (A:=(((p0.at).bZ).1.map af).map PV.d) (b:=1) (aq _) rfl rfl) rfl).symm)) ?_)
      refine XK.nz ?_
      refine QW.seq ?_
      refine QW.region zL (PW.rL (id:=13) dc (M:=_) rfl (by kernel_rfl) ?_)
      refine RK.st (some 74) rfl rfl (au (v:= .d (.slice (aL.map U))) rfl rfl ?_)
      obtain ⟨Mf,h⟩:=bk h
      refine RK.st (some 75) rfl rfl (bC (l:=aL) (i:=(0:Int)) rfl TT.ek bx rfl rfl Mf ?_)
      refine RK.st (some 76) rfl rfl (aC (d:= .val (.int .u8 ((idx aL (0:Int)).toNat:Int))) rfl TT.jx rfl (c8.one) ?_)
      refine RK.st (some 77) rfl rfl (au (v:= .d (af p0)) rfl rfl ?_)
      refine RK.st (some 78) rfl rfl (au (v:= .d (.slice (aL.map U))) rfl rfl ?_)
      obtain ⟨Mg,h⟩:=bk h
      refine RK.st (some 79) rfl rfl (bC (l:=aL) (i:=(0:Int)) rfl TT.ek bx rfl rfl Mg ?_)
      refine RK.st (some 80) rfl rfl (aC (d:= .val (.int .u8 ((idx aL (0:Int)).toNat:Int))) rfl TT.jx rfl (c8.one) ?_)
      obtain ⟨rz,h⟩:=bk h
      refine RK.st (some 81) rfl rfl (dH rfl (dI rz) rfl ?_)
      refine RK.st (some 82) rfl rfl (aO rfl TT.jj (by decide) rfl ?_)
      obtain ⟨zE,h⟩:=bk h
      refine RK.st (some 83) rfl rfl (mF (i:=((idx aL (0:Int)).toNat:Int)) rfl TT.mM TT.kI rfl rfl zE ?_)
      refine RK.st (some 84) rfl rfl (aC (d:=af (idx ((p0.at).bZ).1 ((idx aL (0:Int)).toNat:Int))) rfl TT.ic rfl (ov (nG _) zE) ?_)
      refine RK.st (some 85) rfl rfl (au (v:= .d (.slice (aL.map U))) rfl rfl ?_)
      obtain ⟨GL,h⟩:=bk h
      refine RK.st (some 86) rfl rfl (n7 (l:=aL) (a:=(1:Int)) (b:=(aL.length:Int)) rfl TT.bA TT.ek bx rfl rfl rfl GL ?_)
      refine RK.st (some 87) rfl rfl (au (v:=pS iF) rfl rfl ?_)
      obtain ⟨sN,Ol,h⟩:=bO h
      refine RK.st (some 88) rfl rfl (aA rfl rfl TT.Cq rfl (fQ (idx ((p0.at).bZ).1 ((idx aL (0:Int)).toNat:Int)) (sub aL (1:Int) (aL.length:Int)) iF _ Ol) ?_)
      refine RK.st (some 89) rfl rfl (gF rfl TT.jj (by decide) rfl ?_)
      obtain ⟨EZ,h⟩:=bk h
      refine RK.st (some 90) rfl rfl (cV (i:=((idx aL (0:Int)).toNat:Int)) rfl TT.mM TT.kI rfl rfl EZ ?_)
      refine RK.st none rfl rfl (bh (l':=(([pI ((p0.at).aZ), .d (.slice (((p0.at).bE).map U)),pS ((p0.at).dK)])++((((((p0.at).bZ).put ((idx aL (0:Int)).toNat:Int) sN).1.map af).map PV.d)++([pS ((p0.at).vC)])))) rfl TT.ic rfl rfl rfl rfl rfl rfl (yQ (n:=16) EZ (aD (A:=[pI ((p0.at).aZ), .d (.slice (((p0.at).bE).map U)),pS ((p0.at).dK)]) (b:=17) rfl (aD (A:=(((p0.at).bZ).1.map af).map PV.d) (b:=1) (aq _) rfl rfl) rfl) bL) (qo 3 _ rfl (fy _ (Dc EZ) (s4 EZ))) ?_)
      refine RK.nil ⟨fT.last 17 (by simp) (by simp) (by rfl),(aX ?_)⟩
      refine QW.seq ?_
      refine QW.view (s':=⟨aG [(8, .aF 0 0)],aj [.var (([pI ((p0.at).aZ), .d (.slice (((p0.at).bE).map U)),pS ((p0.at).dK)])++((((((p0.at).bZ).put ((idx aL (0:Int)).toNat:Int) sN).1.map af).map PV.d)++([pS ((p0.at).vC)])))],1,[]⟩) (View.mk 1 [0] _ _ _ rfl rfl (by decide) (iC trivial) (And.intro (by simp only [cv,eZ,PV.bK];rfl) trivial) rfl zL rfl) zL ?_
      refine QW.view (s':=⟨aG [(8, .d (af (aa.of (⟨(p0.at).aZ,(p0.at).bE,(p0.at).dK,(((p0.at).bZ).put ((idx aL (0:Int)).toNat:Int) sN),(p0.at).vC⟩:part))))],aj [],0,[]⟩) (View.trans (View.LF (ds:=ja (⟨(p0.at).aZ,(p0.at).bE,(p0.at).dK,(((p0.at).bZ).put ((idx aL (0:Int)).toNat:Int) sN),(p0.at).vC⟩:part)) 0 8 rfl (show (ja (⟨(p0.at).aZ,(p0.at).bE,(p0.at).dK,(((p0.at).bZ).put ((idx aL (0:Int)).toNat:Int) sN),(p0.at).vC⟩:part)).map PV.d=_ by simp only [ja,List.map_append];rfl) (tO _) rfl rfl zL) (View.mk 0 [] _ _ _ rfl rfl (by decide) (iC trivial) trivial rfl zL rfl)) zL ?_
      refine rG ?_
      refine xz 6 (.d (af (aa.of (⟨(p0.at).aZ,(p0.at).bE,(p0.at).dK,(((p0.at).bZ).put ((idx aL (0:Int)).toNat:Int) sN),(p0.at).vC⟩:part)))) ?_
      refine QW.ret zL ?_
      obtain rfl:=sO h
      exact Ends.one (.inr rfl) rfl (aI.tmp rfl) rfl rfl
noncomputable def jk:Nat→aa→(List UInt8)→(List UInt8)→Option aa
 | 0=>fun _ _ _=>none
 | n+1=>fun y0 y1 y2=>gn (jk n) y0 y1 y2
theorem uH:∀ (n:Nat) (y0:aa) (y1:(List UInt8)) (y2:(List UInt8)) (rr:aa),jk n y0 y1 y2=some rr→bI Tryz.prog 29 [af y0, .slice (y1.map U), .val (sV y2)] (af rr)
 | 0,_,_,_,_,h=>by cases h
 | n+1,y0,y1,y2,rr,h=>Bu (jk n) (uH n) y0 y1 y2 rr h
noncomputable def pJ (y0:aa) (y1:(List UInt8)) (y2:(List UInt8)):Option aa:=wX (fun n=>jk n y0 y1 y2)
theorem Cr (y0:aa) (y1:(List UInt8)) (y2:(List UInt8)) (rr:aa) (h:pJ y0 y1 y2=some rr):bI Tryz.prog 29 [af y0, .slice (y1.map U), .val (sV y2)] (af rr):=by
 obtain ⟨n,hn⟩:=oe h
 exact uH n y0 y1 y2 rr hn
noncomputable def jv (t0:Tree) (k1:(aE 32 UInt8)) (v2:(List UInt8)):Option (Tree×Int):=
  (bif ((v2==([]:List UInt8))||(decide ((65552:Int)<(v2.length:Int)))) then
  some ((⟨aa.nil⟩:Tree),2)
  else
  ((rj k1).bind fun (x_2:(List UInt8))=>
  ((pJ (t0.fp) x_2 v2).bind fun (x_4:aa)=>
  some ((⟨x_4⟩:Tree),0))))
theorem vX (t0:Tree) (k1:(aE 32 UInt8)) (v2:(List UInt8)) (r:(Tree×Int)) (h:jv t0 k1 v2=some r):bI Tryz.prog 12 [.agg (dz t0), .agg (k1.1.map U), .val (sV v2)] (.tuple [.agg (dz (r.1)), .val (.int .i64 (r.2))]):=by
 refine bI.x8 Tryz.func12 rfl (by simp [Tryz.ntmps12]) TT.Cm ?_
 rw [Tryz.ntmps12,TT.U5]
 refine QW.view (s':=⟨aG [(0, .d (.agg (dz t0))),(1, .d (.agg (k1.1.map U))),(2,pS v2)],aj [],0,[]⟩) (View.init (by rfl)) zL ?_
 unfold jv at h
 refine sR ?_
 refine XK.fz (some 3) rfl rfl (fl (ds:=dz t0) rfl rfl rfl rfl rfl ?_)
 refine XK.fz (some 4) rfl rfl (fl (ds:=k1.1.map U) rfl rfl rfl rfl cH ?_)
 refine xs 6 rfl (bB (l:=[.d (af (aa.nil))]) rfl TT.nk rfl rfl ?_)
 refine xs 7 rfl (bB (l:=[pI (0)]) rfl TT.ya rfl rfl ?_)
 refine XK.nz ?_
 refine QW.seq ?_
 refine sR ?_
 refine xm 9 (pS v2) ?_
 refine xs 10 rfl (nR (a:=v2) (b:=([]:List UInt8)) rfl rfl rfl ?_)
 refine xm 11 (pB (v2==([]:List UInt8))) ?_
 refine xg 12 (pS v2) rfl rfl (fun hg=>au (v:=pS v2) rfl rfl g3) ?_
 refine xg 13 (pI (v2.length:Int)) rfl rfl (fun hg=>gE (l:=v2) rfl TT.bY rfl g3) ?_
 refine xg 14 (pB (decide ((65552:Int)<(v2.length:Int)))) rfl rfl (fun hg=>nQ (a:=(v2.length:Int)) (b:=(65552:Int)) rfl rfl rfl g3) ?_
 refine xs 15 rfl (jt rfl rfl rfl rfl (fun _=>rfl) (fun hb=>by rw [hb];rfl) ?_)
 refine XK.nz ?_
 refine QW.cond (t:=((v2==([]:List UInt8))||(decide ((65552:Int)<(v2.length:Int))))) rfl zL (fun dh=>?_) (fun dh=>?_)
 ·replace h:=bT h dh
  refine sR ?_
  refine xs 16 rfl (eT (v:= .agg [.d (af (aa.nil))]) rfl TT.ud (dG rfl dF) ?_)
  refine XK.st none rfl rfl (bh (l':=[.d (af (aa.nil))]) rfl TT.fo rfl rfl rfl rfl rfl rfl (by simp) rfl ?_)
  refine XK.st none rfl rfl (bh (l':=[pI (2)]) rfl TT.kr rfl rfl rfl rfl rfl rfl (by simp) rfl ?_)
  refine XK.nz ?_
  refine QW.ret zL (gm ?_)
  obtain rfl:=sO h
  exact .inr (Ends.more (.inr rfl) rfl (ps:=[.agg [.d (af (aa.nil))],pI (2)]) (And.intro (aI.cell rfl rfl TT.fo ⟨⟨by simp,by simp⟩,rfl⟩) (And.intro (aI.cell rfl rfl TT.kr ⟨⟨by simp,by simp⟩,rfl⟩) trivial)) rfl rfl)
 ·replace h:=bF h dh
  refine QW.skip zL (aX ?_)
  refine sR ?_
  refine XK.df (L:=[.aF 1 0]) none rfl rfl rfl rfl rfl ?_
  refine XK.nz ?_
  refine QW.seq ?_
  refine QW.region zL (PW.kX (id:=4) dc (M:=_) rfl (by kernel_rfl) ?_)
  refine RQ.st (some 17) rfl rfl (aO rfl TT.jI (by decide) rfl ⟨⟨rfl,rfl⟩,?_⟩)
  refine RQ.st (some 18) rfl rfl (aC (d:=af (t0.fp)) rfl TT.ic rfl (c8.one) ⟨⟨rfl,rfl⟩,?_⟩)
  refine RQ.st (some 19) rfl rfl (aC (d:= .agg (k1.1.map U)) rfl TT.jE rfl (qa (by rw [List.length_map,k1.2])) ⟨⟨rfl,rfl⟩,?_⟩)
  obtain ⟨x_2,nI,h⟩:=bO h
  refine RQ.st (some 20) rfl rfl (aA rfl rfl TT.Co rfl (xD k1 _ nI) ⟨⟨rfl,rfl⟩,?_⟩)
  refine RQ.st (some 21) rfl rfl (au (v:=pS v2) rfl rfl ⟨⟨rfl,rfl⟩,?_⟩)
  obtain ⟨x_4,kZ,h⟩:=bO h
  refine RQ.st (some 22) rfl rfl (aA rfl rfl TT.Cq rfl (Cr (t0.fp) x_2 v2 _ kZ) ⟨⟨rfl,rfl⟩,?_⟩)
  refine RQ.st (some 8) rfl rfl (cq (v:= .d (af x_4)) rfl rfl ⟨⟨rfl,rfl⟩,?_⟩)
  refine RQ.nil (aX ?_)
  refine sR ?_
  refine xm 23 (.d (af x_4)) ?_
  refine xs 24 rfl (eT (v:= .agg [.d (af x_4)]) rfl TT.ud (dG rfl (cw (cells':=[.d (af x_4)]) rfl rfl rfl bL rfl dF)) ?_)
  refine XK.st none rfl rfl (bh (l':=[.d (af x_4)]) rfl TT.fo rfl rfl rfl rfl rfl rfl (by simp) rfl ?_)
  refine XK.st none rfl rfl (bh (l':=[pI (0)]) rfl TT.kr rfl rfl rfl rfl rfl rfl (by simp) rfl ?_)
  refine XK.nz ?_
  refine QW.ret zL ?_
  obtain rfl:=sO h
  exact .inl (vw.more [.agg [.d (af x_4)],pI (0)] 1 (pI (0)) (pI (0)) none rfl rfl (kz 0) rfl rfl rfl (And.intro (aI.cell rfl rfl TT.fo ⟨⟨by simp,by simp⟩,rfl⟩) (And.intro (aI.cell rfl rfl TT.kr ⟨⟨by simp,by simp⟩,rfl⟩) trivial)) rfl)
inductive Hf where
 | S
 | L1 (v10:Int) (qq:aa) (mO:aa)
noncomputable def lD (l0:(List bt)):Hf→Option (Hf⊕Tree)
 | .S=>
  some (.inl (.L1 (0) (aa.nil) (aa.nil)))
 | .L1 v10 qq mO=>
  (bif (decide (v10<(l0.length:Int))) then
  gO (0≤v10∧v10<(l0.length:Int)) (
  ((jv (⟨mO⟩:Tree) ((idx l0 v10).ct) ((idx l0 v10).az)).bind fun (x_4:(Tree×Int))=>
  (bif (decide ((x_4.2)=(0:Int))) then
  gO (bw (v10+(1:Int))) (
  some (.inl (.L1 (v10+(1:Int)) qq ((x_4.1).fp))))
  else
  gO (bw (v10+(1:Int))) (
  some (.inl (.L1 (v10+(1:Int)) qq mO))))))
  else
  some (.inr (⟨mO⟩:Tree)))
noncomputable def qN (l0:(List bt)):Option Tree:=g9 (lD l0) .S
theorem y7 (l0:(List bt)) (r:Tree) (h:qN l0=some r):bI Tryz.prog 18 [.slice (l0.map bp)] (.agg (dz r)):=by
 refine bI.aU Tryz.func18 rfl (by simp [Tryz.ntmps18]) ?_
 rw [Tryz.ntmps18,TT.U7]
 refine QW.view (s':=⟨aG [(0, .d (.slice (l0.map bp)))],aj [],0,[]⟩) (View.init (by rfl)) zL ?_
 replace h:=cL h
 obtain ⟨_,h⟩:=h
 obtain ⟨dm,rfl,h9⟩:=aQ h;replace h:=h9;clear h9;rw [lD] at h
 refine sR ?_
 refine xs 2 rfl (bB (l:=[.d (af (aa.nil))]) rfl TT.nk rfl rfl ?_)
 refine XK.nz ?_
 refine sR ?_
 refine xs 3 rfl (bB (l:=[.d (af (aa.nil))]) rfl TT.nk rfl rfl ?_)
 refine XK.nz ?_
 refine QW.seq ?_
 refine sR ?_
 refine xm 8 (.d (.slice (l0.map bp))) ?_
 refine xs 9 rfl (cM (en:=bp) (l:=l0) rfl TT.pH rfl ?_)
 refine xm 10 (pI (0)) ?_
 refine XK.nz ?_
 refine QW.block ?_
 refine QW.loop (fun k σ=>∃ v10:Int,∃ qq:aa,∃ mO:aa,k≤dm∧run (lD l0) k (.L1 v10 qq mO)=some r∧σ=⟨aG [(2, .aF 0 0),(3, .aF 1 0),(8, .d (.slice (l0.map bp))),(9,pI (l0.length:Int)),(10,pI v10)],aj [.var [.d (af qq)], .var [.d (af mO)]],2,[]⟩) dm zL ⟨⟨aG [(2, .aF 0 0),(3, .aF 1 0),(8, .d (.slice (l0.map bp))),(9,pI (l0.length:Int)),(10,pI (0))],aj [.var [.d (af (aa.nil))], .var [.d (af (aa.nil))]],2,[]⟩,View.mk 2 [0,1] _ _ _ rfl rfl (by decide) (iC (iC (iC (iC (iC trivial))))) (And.intro rfl (And.intro rfl trivial)) rfl zL rfl,0,aa.nil,aa.nil,Nat.le_refl _,jG h,rfl⟩ ?_
 rintro rO _ ⟨v10,qq,mO,rP,h,rfl⟩
 obtain ⟨k_1,rfl,h9⟩:=aQ h;replace h:=h9;clear h9;rw [lD] at h
 refine sR ?_
 refine xs 11 rfl (cJ (a:=v10) (b:=(l0.length:Int)) rfl rfl rfl ?_)
 refine XK.nz ?_
 refine QW.seq ?_
 refine QW.cond (t:=(decide (v10<(l0.length:Int)))) rfl zL (fun cB=>?_) (fun cB=>?_)
 ·replace h:=fF h cB
  refine QW.skip zL (aX ?_)
  refine QW.seq ?_
  refine QW.block ?_
  refine sR ?_
  obtain ⟨dS,h⟩:=gG h
  refine xs 12 rfl (bC (l:=l0) (i:=v10) rfl TT.rY cy rfl rfl dS ?_)
  refine xs 13 rfl (aC (d:= .agg (fm (idx l0 v10))) rfl TT.xh rfl (⟨by rw [cy.len];decide,congrArg D.agg (List.take_of_length_le (by rw [cy.len];decide))⟩) ?_)
  refine xs 5 rfl (bB (l:=((fm (⟨(aE.rep 32 (0:UInt8)),([]:(List UInt8))⟩:bt)).map .d)) rfl TT.Jn rfl rfl ?_)
  refine XK.st none rfl rfl (bh (l':=((fm (idx l0 v10)).map .d)) rfl TT.xh rfl rfl rfl rfl rfl (FK (cy.len _)) (Ki (cy.len _)) (FJ ((cy.len _).trans (cy.len _).symm)) ?_)
  refine XK.nz ?_
  refine sR ?_
  refine XK.as (some 15) rfl rfl (bD (v:= .agg [.d (af mO)]) rfl TT.fo rfl rfl ⟨⟨by simp,by simp⟩,rfl⟩ ⟨.d (.agg (dz (⟨mO⟩:Tree))),(iH.dj rfl),?_⟩)
  refine xs 16 rfl (gF rfl TT.oY (by decide) rfl ?_)
  refine XK.as (some 17) rfl rfl (bD rfl TT.jE rfl rfl (D7 (nH _) (by rw [cy.len];decide) (by decide)) ⟨.d (.agg (((idx l0 v10).ct).1.map U)),gV,?_⟩)
  refine xs 18 rfl (gF rfl TT.vW (by decide) rfl ?_)
  refine xs 19 rfl (bD (v:=pS ((idx l0 v10).az)) rfl TT.fJ rfl rfl (C9 (tP _) (by rw [cy.len];decide) (by decide)) ?_)
  obtain ⟨x_4,kZ,h⟩:=bG h
  refine xs 20 rfl (aA rfl rfl TT.G5 rfl (vX (⟨mO⟩:Tree) ((idx l0 v10).ct) ((idx l0 v10).az) _ kZ) ?_)
  refine xm 14 (.d (.tuple [.agg (dz (x_4.1)), .val (.int .i64 (x_4.2))])) ?_
  refine xs 21 rfl (bM rfl rfl rfl ?_)
  refine xs 22 rfl (bM rfl rfl rfl ?_)
  refine xs 6 rfl (bB (l:=[.d (af (aa.nil))]) rfl TT.nk rfl rfl ?_)
  refine XK.st none rfl rfl (bh (l':=[.d (af ((x_4.1).fp))]) rfl TT.fo rfl rfl rfl rfl rfl rfl (by simp) rfl ?_)
  refine xz 7 (pI (x_4.2)) ?_
  refine QW.seq ?_
  refine QW.view (s':=⟨aG [(2, .aF 0 0),(3, .aF 1 0),(6, .aF 2 0),(7,pI (x_4.2)),(8, .d (.slice (l0.map bp))),(9,pI (l0.length:Int)),(10,pI v10)],aj [.var [.d (af qq)], .var [.d (af mO)], .var [.d (af ((x_4.1).fp))]],3,[]⟩) (View.mk 3 [0,1,3] _ _ _ rfl rfl (by decide) (iC (iC (iC (iC (iC (iC (iC trivial))))))) (And.intro rfl (And.intro rfl (And.intro rfl trivial))) rfl zL rfl) zL ?_
  refine rG ?_
  refine xm 23 (pI (x_4.2)) ?_
  refine xs 24 rfl (eF (a:=(x_4.2)) (b:=(0:Int)) rfl rfl rfl ?_)
  refine XK.nz ?_
  refine QW.cond (t:=(decide ((x_4.2)=(0:Int)))) rfl zL (fun kF=>?_) (fun kF=>?_)
  ·replace h:=fF h kF
   refine rG ?_
   refine XK.as (some 25) rfl rfl (bD (v:= .agg [.d (af ((x_4.1).fp))]) rfl TT.fo rfl rfl ⟨⟨by simp,by simp⟩,rfl⟩ ⟨.d (.agg (dz (x_4.1))),(iH.dj rfl),?_⟩)
   refine XK.st none rfl rfl (bh (l':=[.d (af ((x_4.1).fp))]) rfl TT.fo rfl rfl rfl rfl rfl rfl (by simp) rfl ?_)
   refine XK.nil (g6 (aX ?_))
   refine rG ?_
   obtain ⟨lQ,h⟩:=gG h
   refine xs 26 rfl (bX (a:=v10) (b:=(1:Int)) rfl rfl rfl lQ ?_)
   refine xm 10 (pI (v10+(1:Int))) ?_
   refine XK.nz ?_
   exact ⟨k_1,by omega,⟨aG [(2, .aF 0 0),(3, .aF 1 0),(8, .d (.slice (l0.map bp))),(9,pI (l0.length:Int)),(10,pI (v10+(1:Int)))],aj [.var [.d (af qq)], .var [.d (af ((x_4.1).fp))]],2,[]⟩,View.mk 2 [0,1] _ _ _ rfl rfl (by decide) (iC (iC (iC (iC (iC trivial))))) (And.intro rfl (And.intro rfl trivial)) rfl zL rfl,(v10+(1:Int)),qq,(x_4.1).fp,by omega,jG h,rfl⟩
  ·replace h:=fG h kF
   refine QW.skip zL (g6 (aX ?_))
   refine rG ?_
   obtain ⟨p5,h⟩:=gG h
   refine xs 26 rfl (bX (a:=v10) (b:=(1:Int)) rfl rfl rfl p5 ?_)
   refine xm 10 (pI (v10+(1:Int))) ?_
   refine XK.nz ?_
   exact ⟨k_1,by omega,⟨aG [(2, .aF 0 0),(3, .aF 1 0),(8, .d (.slice (l0.map bp))),(9,pI (l0.length:Int)),(10,pI (v10+(1:Int)))],aj [.var [.d (af qq)], .var [.d (af mO)]],2,[]⟩,View.mk 2 [0,1] _ _ _ rfl rfl (by decide) (iC (iC (iC (iC (iC trivial))))) (And.intro rfl (And.intro rfl trivial)) rfl zL rfl,(v10+(1:Int)),qq,mO,by omega,jG h,rfl⟩
 ·replace h:=fG h cB
  refine QW.exit zL (eD (eD (j3 (aX ?_))))
  refine sR ?_
  refine XK.as (some 27) rfl rfl (bD (v:= .agg [.d (af mO)]) rfl TT.fo rfl rfl ⟨⟨by simp,by simp⟩,rfl⟩ ⟨.d (.agg (dz (⟨mO⟩:Tree))),(iH.dj rfl),?_⟩)
  refine XK.st none rfl rfl (bh (l':=[.d (af mO)]) rfl TT.fo rfl rfl rfl rfl rfl rfl (by simp) rfl ?_)
  refine XK.nz ?_
  refine QW.ret zL ?_
  obtain rfl:=sG h
  exact Ends.one (.inr rfl) rfl (aI.cell rfl rfl TT.fo ⟨⟨by simp,by simp⟩,rfl⟩) rfl rfl
inductive pU where
 | S
 | L1 (qh:Int)
noncomputable def cR (v0:(List UInt8)) (v1:(List UInt8)):pU→Option (pU⊕Bool)
 | .S=>
  (bif (!decide ((v0.length:Int)=(v1.length:Int))) then
  some (.inr false)
  else
  some (.inl (.L1 (0))))
 | .L1 qh=>
  (bif (decide (qh<(v0.length:Int))) then
  gO (0≤qh∧qh<(v0.length:Int)) (
  gO (0≤qh∧qh<(v1.length:Int)) (
  (bif (!decide (((idx v0 qh).toNat:Int)=((idx v1 qh).toNat:Int))) then
  some (.inr false)
  else
  gO (bw (qh+(1:Int))) (
  some (.inl (.L1 (qh+(1:Int))))))))
  else
  some (.inr true))
noncomputable def mg (v0:(List UInt8)) (v1:(List UInt8)):Option Bool:=g9 (cR v0 v1) .S
theorem u6 (v0:(List UInt8)) (v1:(List UInt8)) (r:Bool) (h:mg v0 v1=some r):bI Tryz.prog 46 [.slice (v0.map U), .slice (v1.map U)] (.val (.bool r)):=by
 refine bI.aU Tryz.func46 rfl (by simp [Tryz.ntmps46]) ?_
 rw [Tryz.ntmps46,TT.Vi]
 refine QW.view (s':=⟨aG [(0, .d (.slice (v0.map U))),(1, .d (.slice (v1.map U)))],aj [],0,[]⟩) (View.init (by rfl)) zL ?_
 replace h:=cL h
 obtain ⟨_,h⟩:=h
 obtain ⟨dm,rfl,h9⟩:=aQ h;replace h:=h9;clear h9;rw [cR] at h
 refine sR ?_
 refine xz 4 (pB false) ?_
 refine QW.seq ?_
 refine sR ?_
 refine xm 6 (.d (.slice (v0.map U))) ?_
 refine xs 7 rfl (cM (en:=U) (l:=v0) rfl TT.bA rfl ?_)
 refine xm 8 (.d (.slice (v1.map U))) ?_
 refine xs 9 rfl (cM (en:=U) (l:=v1) rfl TT.bA rfl ?_)
 refine xs 10 rfl (qA (a:=(v0.length:Int)) (b:=(v1.length:Int)) rfl rfl rfl ?_)
 refine XK.nz ?_
 refine QW.cond (t:=(!decide ((v0.length:Int)=(v1.length:Int)))) rfl zL (fun dh=>?_) (fun dh=>?_)
 ·replace h:=fF h dh
  refine sR ?_
  refine xz 4 (pB false) ?_
  refine QW.ret zL (gm ?_)
  obtain rfl:=sG h
  exact Ends.one (.inr rfl) rfl (aI.tmp rfl) rfl rfl
 ·replace h:=fG h dh
  refine QW.skip zL (aX ?_)
  refine QW.seq ?_
  refine sR ?_
  refine xm 11 (.d (.slice (v0.map U))) ?_
  refine xs 12 rfl (cM (en:=U) (l:=v0) rfl TT.bA rfl ?_)
  refine xm 13 (pI (0)) ?_
  refine XK.nz ?_
  refine QW.block ?_
  refine QW.loop (fun k σ=>∃ qh:Int,k≤dm∧run (cR v0 v1) k (.L1 qh)=some r∧σ=⟨aG [(0, .d (.slice (v0.map U))),(1, .d (.slice (v1.map U))),(12,pI (v0.length:Int)),(13,pI qh)],aj [],0,[]⟩) dm zL ⟨⟨aG [(0, .d (.slice (v0.map U))),(1, .d (.slice (v1.map U))),(12,pI (v0.length:Int)),(13,pI (0))],aj [],0,[]⟩,View.mk 0 [] _ _ _ rfl rfl (by decide) (iC (iC (iC (iC trivial)))) trivial rfl zL rfl,0,Nat.le_refl _,jG h,rfl⟩ ?_
  rintro SG _ ⟨qh,SH,h,rfl⟩
  obtain ⟨k_2,rfl,h9⟩:=aQ h;replace h:=h9;clear h9;rw [cR] at h
  refine sR ?_
  refine xs 14 rfl (cJ (a:=qh) (b:=(v0.length:Int)) rfl rfl rfl ?_)
  refine XK.nz ?_
  refine QW.seq ?_
  refine QW.cond (t:=(decide (qh<(v0.length:Int)))) rfl zL (fun dU=>?_) (fun dU=>?_)
  ·replace h:=fF h dU
   refine QW.skip zL (aX ?_)
   refine QW.seq ?_
   refine QW.block ?_
   refine sR ?_
   refine xm 15 (pI qh) ?_
   refine xz 5 (pI qh) ?_
   refine QW.seq ?_
   refine QW.region zL (PW.kX (id:=6) dc (M:=_) rfl (by kernel_rfl) ?_)
   refine RQ.st (some 16) rfl rfl (au (v:= .d (.slice (v0.map U))) rfl rfl ⟨⟨rfl,rfl⟩,?_⟩)
   refine RQ.st (some 17) rfl rfl (au (v:=pI qh) rfl rfl ⟨⟨rfl,rfl⟩,?_⟩)
   obtain ⟨mH,h⟩:=gG h
   refine RQ.st (some 18) rfl rfl (bC (l:=v0) (i:=qh) rfl TT.ek bx rfl rfl mH ⟨⟨rfl,rfl⟩,?_⟩)
   refine RQ.st (some 19) rfl rfl (aC (d:= .val (.int .u8 ((idx v0 qh).toNat:Int))) rfl TT.jx rfl (c8.one) ⟨⟨rfl,rfl⟩,?_⟩)
   refine RQ.st (some 20) rfl rfl (au (v:= .d (.slice (v1.map U))) rfl rfl ⟨⟨rfl,rfl⟩,?_⟩)
   refine RQ.st (some 21) rfl rfl (au (v:=pI qh) rfl rfl ⟨⟨rfl,rfl⟩,?_⟩)
   obtain ⟨nU,h⟩:=gG h
   refine RQ.st (some 22) rfl rfl (bC (l:=v1) (i:=qh) rfl TT.ek bx rfl rfl nU ⟨⟨rfl,rfl⟩,?_⟩)
   refine RQ.st (some 23) rfl rfl (aC (d:= .val (.int .u8 ((idx v1 qh).toNat:Int))) rfl TT.jx rfl (c8.one) ⟨⟨rfl,rfl⟩,?_⟩)
   refine RQ.st (some 24) rfl rfl (qA (a:=((idx v0 qh).toNat:Int)) (b:=((idx v1 qh).toNat:Int)) rfl rfl rfl ⟨⟨rfl,rfl⟩,?_⟩)
   refine RQ.nil (aX ?_)
   refine QW.cond (t:=(!decide (((idx v0 qh).toNat:Int)=((idx v1 qh).toNat:Int)))) rfl zL (fun kF=>?_) (fun kF=>?_)
   ·replace h:=fF h kF
    refine sR ?_
    refine xz 4 (pB false) ?_
    refine QW.ret zL (sZ (gm (gm (sZ (gm ?_)))))
    obtain rfl:=sG h
    exact Ends.one (.inr rfl) rfl (aI.tmp rfl) rfl rfl
   ·replace h:=fG h kF
    refine QW.skip zL (g6 (aX ?_))
    refine rG ?_
    obtain ⟨lQ,h⟩:=gG h
    refine xs 25 rfl (bX (a:=qh) (b:=(1:Int)) rfl rfl rfl lQ ?_)
    refine xm 13 (pI (qh+(1:Int))) ?_
    refine XK.nz ?_
    exact ⟨k_2,by omega,⟨aG [(0, .d (.slice (v0.map U))),(1, .d (.slice (v1.map U))),(12,pI (v0.length:Int)),(13,pI (qh+(1:Int)))],aj [],0,[]⟩,View.mk 0 [] _ _ _ rfl rfl (by decide) (iC (iC (iC (iC trivial)))) trivial rfl zL rfl,(qh+(1:Int)),by omega,jG h,rfl⟩
  ·replace h:=fG h dU
   refine QW.exit zL (eD (eD (j3 (aX ?_))))
   refine sR ?_
   refine xz 4 (pB true) ?_
   refine QW.ret zL ?_
   obtain rfl:=sG h
   exact Ends.one (.inr rfl) rfl (aI.tmp rfl) rfl rfl
noncomputable def gY (self:aa→(List UInt8)→Option ((List UInt8)×Bool)) (p0:aa) (aL:(List UInt8)):Option ((List UInt8)×Bool):=
  (bif p0.isNil then
  some (([]:List UInt8),false)
  else
  gO (p0.isNil=false) (
  (bif (decide (((p0.at).aZ)=(-1:Int))) then
  none
  else
  (bif (decide (((p0.at).aZ)=(1:Int))) then
  gO (p0.isNil=false) (
  gO (p0.isNil=false) (
  ((mg ((p0.at).bE) aL).bind fun (x_7:Bool)=>
  some ((p0.at).dK,x_7))))
  else
  (bif (decide (((p0.at).aZ)=(2:Int))) then
  gO (p0.isNil=false) (
  gO (p0.isNil=false) (
  ((tw ((p0.at).bE) aL).bind fun (x_12:Int)=>
  (bif (decide (x_12<(((p0.at).bE).length:Int))) then
  some (([]:List UInt8),false)
  else
  gO (p0.isNil=false) (
  gO (0≤(((p0.at).bE).length:Int)∧(((p0.at).bE).length:Int)≤(aL.length:Int)∧(aL.length:Int)≤(aL.length:Int)) (
  ((self (idx ((p0.at).bZ).1 (0:Int)) (sub aL (((p0.at).bE).length:Int) (aL.length:Int))).bind fun (x_17:((List UInt8)×Bool))=>
  some (x_17.1,x_17.2))))))))
  else
  gO (0≤(0:Int)∧(0:Int)<(aL.length:Int)) (
  gO (p0.isNil=false) (
  gO (0≤((idx aL (0:Int)).toNat:Int)∧((idx aL (0:Int)).toNat:Int)<((16:Nat):Int)) (
  gO (0≤(1:Int)∧(1:Int)≤(aL.length:Int)∧(aL.length:Int)≤(aL.length:Int)) (
  ((self (idx ((p0.at).bZ).1 ((idx aL (0:Int)).toNat:Int)) (sub aL (1:Int) (aL.length:Int))).bind fun (x_23:((List UInt8)×Bool))=>
  some (x_23.1,x_23.2)))))))))))
theorem Bv (self:aa→(List UInt8)→Option ((List UInt8)×Bool)) (fQ:∀ (y0:aa) (y1:(List UInt8)) (rr:((List UInt8)×Bool)),self y0 y1=some rr→bI Tryz.prog 28 [af y0, .slice (y1.map U)] (.tuple [.val (sV (rr.1)), .val (.bool (rr.2))])) (p0:aa) (aL:(List UInt8)) (r:((List UInt8)×Bool)) (h:gY self p0 aL=some r):bI Tryz.prog 28 [af p0, .slice (aL.map U)] (.tuple [.val (sV (r.1)), .val (.bool (r.2))]):=by
 refine bI.aU Tryz.func28 rfl (by simp [Tryz.ntmps28]) ?_
 rw [Tryz.ntmps28,TT.Vd]
 refine QW.view (s':=⟨aG [(0, .d (af p0)),(1, .d (.slice (aL.map U)))],aj [],0,[]⟩) (View.init (by rfl)) zL ?_
 unfold gY at h
 refine sR ?_
 refine xa 4 (pS ([]:List UInt8)) ?_
 refine xz 5 (pB false) ?_
 refine QW.seq ?_
 refine sR ?_
 refine xm 7 (.d (af p0)) ?_
 refine xs 8 rfl (z9 rfl TT.rD rfl rfl ?_)
 refine XK.nz ?_
 refine QW.cond (t:=p0.isNil) rfl zL (fun dh=>?_) (fun dh=>?_)
 ·replace h:=bT h dh
  refine sR ?_
  refine xa 4 (pS ([]:List UInt8)) ?_
  refine xz 5 (pB false) ?_
  refine QW.ret zL (gm ?_)
  obtain rfl:=sO h
  exact Ends.more (.inr rfl) rfl (ps:=[pS ([]:List UInt8),pB false]) (And.intro (aI.tmp rfl) (And.intro (aI.tmp rfl) trivial)) rfl rfl
 ·replace h:=bF h dh
  refine QW.skip zL (aX ?_)
  refine QW.seq ?_
  refine sR ?_
  refine xm 9 (.d (af p0)) ?_
  obtain ⟨xE,h⟩:=bk h
  refine xs 10 rfl (dH rfl (dI xE) rfl ?_)
  refine xs 11 rfl (aO rfl TT.lU (by decide) rfl ?_)
  refine xs 12 rfl (aC (d:= .val (.int .i64 ((p0.at).aZ))) rfl TT.mW rfl (kD _) ?_)
  refine XK.nz ?_
  refine QW.block ?_
  refine sR ?_
  refine xs 14 rfl (eF (a:=((p0.at).aZ)) (b:=(-1:Int)) rfl rfl rfl ?_)
  refine xz 13 (pB (decide (((p0.at).aZ)=(-1:Int)))) ?_
  refine QW.cond (t:=(decide (((p0.at).aZ)=(-1:Int)))) rfl zL (fun dU=>?_) (fun dU=>?_)
  ·replace h:=bT h dU
   refine rG ?_
   refine xs 15 rfl (eT (v:= .agg []) rfl TT.G3 (dG rfl dF) ?_)
   refine xs 16 rfl (AY (y:= .agg []) rfl rfl TT.As ?_)
   refine XK.panic rfl rfl rfl (Kh (sD ?_))
   cases h
  ·replace h:=bF h dU
   refine sR ?_
   refine xs 18 rfl (eF (a:=((p0.at).aZ)) (b:=(1:Int)) rfl rfl rfl ?_)
   refine xz 17 (pB (decide (((p0.at).aZ)=(1:Int)))) ?_
   refine QW.cond (t:=(decide (((p0.at).aZ)=(1:Int)))) rfl zL (fun jb=>?_) (fun jb=>?_)
   ·replace h:=bT h jb
    refine QW.seq ?_
    refine QW.region zL (PW.kX (id:=7) dc (M:=_) rfl (by kernel_rfl) ?_)
    refine RQ.st (some 19) rfl rfl (au (v:= .d (af p0)) rfl rfl ⟨⟨rfl,rfl⟩,?_⟩)
    obtain ⟨nU,h⟩:=bk h
    refine RQ.st (some 20) rfl rfl (dH rfl (dI nU) rfl ⟨⟨rfl,rfl⟩,?_⟩)
    refine RQ.st (some 21) rfl rfl (aO rfl TT.y5 (by decide) rfl ⟨⟨rfl,rfl⟩,?_⟩)
    refine RQ.st (some 22) rfl rfl (aC (d:= .val (sV ((p0.at).dK))) rfl TT.fJ rfl (w4 _) ⟨⟨rfl,rfl⟩,?_⟩)
    refine RQ.st (some 23) rfl rfl (au (v:= .d (af p0)) rfl rfl ⟨⟨rfl,rfl⟩,?_⟩)
    obtain ⟨mJ,h⟩:=bk h
    refine RQ.st (some 24) rfl rfl (dH rfl (dI mJ) rfl ⟨⟨rfl,rfl⟩,?_⟩)
    refine RQ.st (some 25) rfl rfl (aO rfl TT.jJ (by decide) rfl ⟨⟨rfl,rfl⟩,?_⟩)
    refine RQ.st (some 26) rfl rfl (aC (d:= .slice (((p0.at).bE).map U)) rfl TT.fh rfl (iP _) ⟨⟨rfl,rfl⟩,?_⟩)
    refine RQ.st (some 27) rfl rfl (au (v:= .d (.slice (aL.map U))) rfl rfl ⟨⟨rfl,rfl⟩,?_⟩)
    obtain ⟨x_7,pR,h⟩:=bO h
    refine RQ.st (some 28) rfl rfl (aA rfl rfl TT.Oh rfl (u6 ((p0.at).bE) aL _ pR) ⟨⟨rfl,rfl⟩,?_⟩)
    refine RQ.st (some 4) rfl rfl (cq (v:=pS ((p0.at).dK)) rfl rfl ⟨⟨rfl,rfl⟩,?_⟩)
    refine RQ.st (some 5) rfl rfl (cq (v:=pB x_7) rfl rfl ⟨⟨rfl,rfl⟩,?_⟩)
    refine RQ.nil (aX ?_)
    refine QW.ret zL (sZ (gm ?_))
    obtain rfl:=sO h
    exact Ends.more (.inr rfl) rfl (ps:=[pS ((p0.at).dK),pB x_7]) (And.intro (aI.tmp rfl) (And.intro (aI.tmp rfl) trivial)) rfl rfl
   ·replace h:=bF h jb
    refine sR ?_
    refine xs 30 rfl (eF (a:=((p0.at).aZ)) (b:=(2:Int)) rfl rfl rfl ?_)
    refine xz 29 (pB (decide (((p0.at).aZ)=(2:Int)))) ?_
    refine QW.cond (t:=(decide (((p0.at).aZ)=(2:Int)))) rfl zL (fun rX=>?_) (fun rX=>?_)
    ·replace h:=bT h rX
     refine sR ?_
     refine xm 31 (.d (af p0)) ?_
     obtain ⟨ow,h⟩:=bk h
     refine xs 32 rfl (dH rfl (dI ow) rfl ?_)
     refine xs 33 rfl (aO rfl TT.jJ (by decide) rfl ?_)
     refine xs 34 rfl (aC (d:= .slice (((p0.at).bE).map U)) rfl TT.fh rfl (iP _) ?_)
     refine xs 35 rfl (cM (en:=U) (l:=(p0.at).bE) rfl TT.bA rfl ?_)
     refine xz 6 (pI (((p0.at).bE).length:Int)) ?_
     refine QW.seq ?_
     refine sR ?_
     refine xm 36 (.d (af p0)) ?_
     obtain ⟨vH,h⟩:=bk h
     refine xs 37 rfl (dH rfl (dI vH) rfl ?_)
     refine xs 38 rfl (aO rfl TT.jJ (by decide) rfl ?_)
     refine xs 39 rfl (aC (d:= .slice (((p0.at).bE).map U)) rfl TT.fh rfl (iP _) ?_)
     refine xm 40 (.d (.slice (aL.map U))) ?_
     obtain ⟨x_12,uq,h⟩:=bO h
     refine xs 41 rfl (aA rfl rfl TT.G9 rfl (zC ((p0.at).bE) aL _ uq) ?_)
     refine xm 42 (pI (((p0.at).bE).length:Int)) ?_
     refine xs 43 rfl (cJ (a:=x_12) (b:=(((p0.at).bE).length:Int)) rfl rfl rfl ?_)
     refine XK.nz ?_
     refine QW.cond (t:=(decide (x_12<(((p0.at).bE).length:Int)))) rfl zL (fun vI=>?_) (fun vI=>?_)
     ·replace h:=bT h vI
      refine sR ?_
      refine xa 4 (pS ([]:List UInt8)) ?_
      refine xz 5 (pB false) ?_
      refine QW.ret zL (gm (sZ (gm ?_)))
      obtain rfl:=sO h
      exact Ends.more (.inr rfl) rfl (ps:=[pS ([]:List UInt8),pB false]) (And.intro (aI.tmp rfl) (And.intro (aI.tmp rfl) trivial)) rfl rfl
     ·replace h:=bF h vI
      refine QW.skip zL (aX ?_)
      refine QW.seq ?_
      refine QW.region zL (PW.kX (id:=12) dc (M:=_) rfl (by kernel_rfl) ?_)
      refine RQ.st (some 44) rfl rfl (au (v:= .d (af p0)) rfl rfl ⟨⟨rfl,rfl⟩,?_⟩)
      obtain ⟨tR,h⟩:=bk h
      refine RQ.st (some 45) rfl rfl (dH rfl (dI tR) rfl ⟨⟨rfl,rfl⟩,?_⟩)
      refine RQ.st (some 46) rfl rfl (aO rfl TT.jj (by decide) rfl ⟨⟨rfl,rfl⟩,?_⟩)
      refine RQ.st (some 47) rfl rfl (mF (i:=(0:Int)) rfl TT.mM TT.kI rfl rfl (by decide) ⟨⟨rfl,rfl⟩,?_⟩)
      refine RQ.st (some 48) rfl rfl (aC (d:=af (idx ((p0.at).bZ).1 (0:Int))) rfl TT.ic rfl (ov (nG _) (by decide)) ⟨⟨rfl,rfl⟩,?_⟩)
      refine RQ.st (some 49) rfl rfl (au (v:= .d (.slice (aL.map U))) rfl rfl ⟨⟨rfl,rfl⟩,?_⟩)
      refine RQ.st (some 50) rfl rfl (au (v:=pI (((p0.at).bE).length:Int)) rfl rfl ⟨⟨rfl,rfl⟩,?_⟩)
      obtain ⟨oR,h⟩:=bk h
      refine RQ.st (some 51) rfl rfl (n7 (l:=aL) (a:=(((p0.at).bE).length:Int)) (b:=(aL.length:Int)) rfl TT.bA TT.ek bx rfl rfl rfl oR ⟨⟨rfl,rfl⟩,?_⟩)
      obtain ⟨x_17,Cj,h⟩:=bO h
      refine RQ.st (some 52) rfl rfl (aA rfl rfl TT.Cp rfl (fQ (idx ((p0.at).bZ).1 (0:Int)) (sub aL (((p0.at).bE).length:Int) (aL.length:Int)) _ Cj) ⟨⟨rfl,rfl⟩,?_⟩)
      refine RQ.st (some 53) rfl rfl (bM rfl rfl rfl ⟨⟨rfl,rfl⟩,?_⟩)
      refine RQ.st (some 54) rfl rfl (bM rfl rfl rfl ⟨⟨rfl,rfl⟩,?_⟩)
      refine RQ.st (some 4) rfl rfl (cq (v:=pS (x_17.1)) rfl rfl ⟨⟨rfl,rfl⟩,?_⟩)
      refine RQ.st (some 5) rfl rfl (cq (v:=pB (x_17.2)) rfl rfl ⟨⟨rfl,rfl⟩,?_⟩)
      refine RQ.nil (aX ?_)
      refine QW.ret zL (sZ (gm ?_))
      obtain rfl:=sO h
      exact Ends.more (.inr rfl) rfl (ps:=[pS (x_17.1),pB (x_17.2)]) (And.intro (aI.tmp rfl) (And.intro (aI.tmp rfl) trivial)) rfl rfl
    ·replace h:=bF h rX
     refine QW.skip zL (g6 (aX ?_))
     refine QW.seq ?_
     refine QW.region zL (PW.kX (id:=13) dc (M:=_) rfl (by kernel_rfl) ?_)
     refine RQ.st (some 55) rfl rfl (au (v:= .d (af p0)) rfl rfl ⟨⟨rfl,rfl⟩,?_⟩)
     refine RQ.st (some 56) rfl rfl (au (v:= .d (.slice (aL.map U))) rfl rfl ⟨⟨rfl,rfl⟩,?_⟩)
     obtain ⟨yj,h⟩:=bk h
     refine RQ.st (some 57) rfl rfl (bC (l:=aL) (i:=(0:Int)) rfl TT.ek bx rfl rfl yj ⟨⟨rfl,rfl⟩,?_⟩)
     refine RQ.st (some 58) rfl rfl (aC (d:= .val (.int .u8 ((idx aL (0:Int)).toNat:Int))) rfl TT.jx rfl (c8.one) ⟨⟨rfl,rfl⟩,?_⟩)
     obtain ⟨vS,h⟩:=bk h
     refine RQ.st (some 59) rfl rfl (dH rfl (dI vS) rfl ⟨⟨rfl,rfl⟩,?_⟩)
     refine RQ.st (some 60) rfl rfl (aO rfl TT.jj (by decide) rfl ⟨⟨rfl,rfl⟩,?_⟩)
     obtain ⟨Jo,h⟩:=bk h
     refine RQ.st (some 61) rfl rfl (mF (i:=((idx aL (0:Int)).toNat:Int)) rfl TT.mM TT.kI rfl rfl Jo ⟨⟨rfl,rfl⟩,?_⟩)
     refine RQ.st (some 62) rfl rfl (aC (d:=af (idx ((p0.at).bZ).1 ((idx aL (0:Int)).toNat:Int))) rfl TT.ic rfl (ov (nG _) Jo) ⟨⟨rfl,rfl⟩,?_⟩)
     refine RQ.st (some 63) rfl rfl (au (v:= .d (.slice (aL.map U))) rfl rfl ⟨⟨rfl,rfl⟩,?_⟩)
     obtain ⟨SK,h⟩:=bk h
     refine RQ.st (some 64) rfl rfl (n7 (l:=aL) (a:=(1:Int)) (b:=(aL.length:Int)) rfl TT.bA TT.ek bx rfl rfl rfl SK ⟨⟨rfl,rfl⟩,?_⟩)
     obtain ⟨x_23,Xs,h⟩:=bO h
     refine RQ.st (some 65) rfl rfl (aA rfl rfl TT.Cp rfl (fQ (idx ((p0.at).bZ).1 ((idx aL (0:Int)).toNat:Int)) (sub aL (1:Int) (aL.length:Int)) _ Xs) ⟨⟨rfl,rfl⟩,?_⟩)
     refine RQ.st (some 66) rfl rfl (bM rfl rfl rfl ⟨⟨rfl,rfl⟩,?_⟩)
     refine RQ.st (some 67) rfl rfl (bM rfl rfl rfl ⟨⟨rfl,rfl⟩,?_⟩)
     refine RQ.st (some 4) rfl rfl (cq (v:=pS (x_23.1)) rfl rfl ⟨⟨rfl,rfl⟩,?_⟩)
     refine RQ.st (some 5) rfl rfl (cq (v:=pB (x_23.2)) rfl rfl ⟨⟨rfl,rfl⟩,?_⟩)
     refine RQ.nil (aX ?_)
     refine QW.ret zL ?_
     obtain rfl:=sO h
     exact Ends.more (.inr rfl) rfl (ps:=[pS (x_23.1),pB (x_23.2)]) (And.intro (aI.tmp rfl) (And.intro (aI.tmp rfl) trivial)) rfl rfl
noncomputable def jl:Nat→aa→(List UInt8)→Option ((List UInt8)×Bool)
 | 0=>fun _ _=>none
 | n+1=>fun y0 y1=>gY (jl n) y0 y1
theorem uI:∀ (n:Nat) (y0:aa) (y1:(List UInt8)) (rr:((List UInt8)×Bool)),jl n y0 y1=some rr→bI Tryz.prog 28 [af y0, .slice (y1.map U)] (.tuple [.val (sV (rr.1)), .val (.bool (rr.2))])
 | 0,_,_,_,h=>by cases h
 | n+1,y0,y1,rr,h=>Bv (jl n) (uI n) y0 y1 rr h
noncomputable def s9 (y0:aa) (y1:(List UInt8)):Option ((List UInt8)×Bool):=wX (fun n=>jl n y0 y1)
theorem Cs (y0:aa) (y1:(List UInt8)) (rr:((List UInt8)×Bool)) (h:s9 y0 y1=some rr):bI Tryz.prog 28 [af y0, .slice (y1.map U)] (.tuple [.val (sV (rr.1)), .val (.bool (rr.2))]):=by
 obtain ⟨n,hn⟩:=oe h
 exact uI n y0 y1 rr hn
noncomputable def kf (t0:Tree) (k1:(aE 32 UInt8)):Option ((List UInt8)×Int):=
  ((rj k1).bind fun (x_1:(List UInt8))=>
  ((s9 (t0.fp) x_1).bind fun (x_3:((List UInt8)×Bool))=>
  (bif (!(x_3).2) then
  some (([]:List UInt8),7)
  else
  some (x_3.1,0))))
theorem vY (t0:Tree) (k1:(aE 32 UInt8)) (r:((List UInt8)×Int)) (h:kf t0 k1=some r):bI Tryz.prog 11 [.agg (dz t0), .agg (k1.1.map U)] (.tuple [.val (sV (r.1)), .val (.int .i64 (r.2))]):=by
 refine bI.x8 Tryz.func11 rfl (by simp [Tryz.ntmps11]) TT.Cm ?_
 rw [Tryz.ntmps11,TT.U4]
 refine QW.view (s':=⟨aG [(0, .d (.agg (dz t0))),(1, .d (.agg (k1.1.map U)))],aj [],0,[]⟩) (View.init (by rfl)) zL ?_
 unfold kf at h
 refine sR ?_
 refine XK.fz (some 2) rfl rfl (fl (ds:=dz t0) rfl rfl rfl rfl rfl ?_)
 refine XK.fz (some 3) rfl rfl (fl (ds:=k1.1.map U) rfl rfl rfl rfl cH ?_)
 refine xa 4 (pS ([]:List UInt8)) ?_
 refine xs 5 rfl (bB (l:=[pI (0)]) rfl TT.ya rfl rfl ?_)
 refine XK.nz ?_
 refine sR ?_
 refine XK.df (L:=[.aF 0 0]) none rfl rfl rfl rfl rfl ?_
 refine XK.nz ?_
 refine QW.seq ?_
 refine QW.region zL (PW.kX (id:=2) dc (M:=_) rfl (by kernel_rfl) ?_)
 refine RQ.st (some 8) rfl rfl (aO rfl TT.jI (by decide) rfl ⟨⟨rfl,rfl⟩,?_⟩)
 refine RQ.st (some 9) rfl rfl (aC (d:=af (t0.fp)) rfl TT.ic rfl (c8.one) ⟨⟨rfl,rfl⟩,?_⟩)
 refine RQ.st (some 10) rfl rfl (aC (d:= .agg (k1.1.map U)) rfl TT.jE rfl (qa (by rw [List.length_map,k1.2])) ⟨⟨rfl,rfl⟩,?_⟩)
 obtain ⟨x_1,fB,h⟩:=bO h
 refine RQ.st (some 11) rfl rfl (aA rfl rfl TT.Co rfl (xD k1 _ fB) ⟨⟨rfl,rfl⟩,?_⟩)
 obtain ⟨x_3,tX,h⟩:=bO h
 refine RQ.st (some 12) rfl rfl (aA rfl rfl TT.Cp rfl (Cs (t0.fp) x_1 _ tX) ⟨⟨rfl,rfl⟩,?_⟩)
 refine RQ.st (some 7) rfl rfl (au (v:= .d (.tuple [.val (sV (x_3.1)), .val (.bool (x_3.2))])) rfl rfl ⟨⟨rfl,rfl⟩,?_⟩)
 refine RQ.st (some 13) rfl rfl (bM rfl rfl rfl ⟨⟨rfl,rfl⟩,?_⟩)
 refine RQ.st (some 14) rfl rfl (bM rfl rfl rfl ⟨⟨rfl,rfl⟩,?_⟩)
 refine RQ.st (some 4) rfl rfl (cq (v:=pS (x_3.1)) rfl rfl ⟨⟨rfl,rfl⟩,?_⟩)
 refine RQ.st (some 6) rfl rfl (cq (v:=pB (x_3.2)) rfl rfl ⟨⟨rfl,rfl⟩,?_⟩)
 refine RQ.nil (aX ?_)
 refine QW.seq ?_
 refine QW.seq ?_
 refine QW.view (s':=⟨aG [(4,pS (x_3.1)),(5, .aF 0 0),(6,pB (x_3.2))],aj [.var [pI (0)]],1,[(25,[.aF 0 0])]⟩) (View.mk 1 [0] _ _ _ rfl rfl (by decide) (iC (iC (iC trivial))) (And.intro rfl trivial) rfl zL rfl) zL ?_
 refine rG ?_
 refine xm 15 (pB (x_3.2)) ?_
 refine xs 16 rfl (ou rfl rfl ?_)
 refine XK.nz ?_
 refine QW.cond (t:=(!(x_3).2)) rfl zL (fun jH=>?_) (fun jH=>?_)
 ·replace h:=bT h jH
  refine sR ?_
  refine xa 4 (pS ([]:List UInt8)) ?_
  refine XK.st none rfl rfl (bh (l':=[pI (7)]) rfl TT.kr rfl rfl rfl rfl rfl rfl (by simp) rfl ?_)
  refine XK.nz ?_
  refine QW.ret zL (gm ?_)
  obtain rfl:=sO h
  exact .inl (vw.more [pS ([]:List UInt8),pI (7)] 0 (pI (7)) (pI (7)) none rfl rfl (kz 7) rfl rfl rfl (And.intro (aI.tmp rfl) (And.intro (aI.cell rfl rfl TT.kr ⟨⟨by simp,by simp⟩,rfl⟩) trivial)) rfl)
 ·replace h:=bF h jH
  refine QW.skip zL (aX ?_)
  refine sR ?_
  refine xm 17 (pS (x_3.1)) ?_
  refine xa 4 (pS (x_3.1)) ?_
  refine XK.st none rfl rfl (bh (l':=[pI (0)]) rfl TT.kr rfl rfl rfl rfl rfl rfl (by simp) rfl ?_)
  refine XK.nz ?_
  refine QW.ret zL ?_
  obtain rfl:=sO h
  exact .inl (vw.more [pS (x_3.1),pI (0)] 0 (pI (0)) (pI (0)) none rfl rfl (kz 0) rfl rfl rfl (And.intro (aI.tmp rfl) (And.intro (aI.cell rfl rfl TT.kr ⟨⟨by simp,by simp⟩,rfl⟩) trivial)) rfl)
noncomputable def lE (eM:(List UInt8)) (p1:aa):Option aa:=
  gO (p1.isNil=false) (
  (bif (decide (((p1.at).aZ)=(-1:Int))) then
  none
  else
  (bif (decide (((p1.at).aZ)=(1:Int))) then
  gO (p1.isNil=false) (
  ((rm ([eM,(p1.at).bE]:List (List UInt8))).bind fun (x_5:(List UInt8))=>
  gO (p1.isNil=false) (
  ((lA x_5 ((p1.at).dK)).bind fun (x_8:aa)=>
  some x_8))))
  else
  (bif (decide (((p1.at).aZ)=(2:Int))) then
  gO (p1.isNil=false) (
  ((rm ([eM,(p1.at).bE]:List (List UInt8))).bind fun (x_12:(List UInt8))=>
  gO (p1.isNil=false) (
  ((lC x_12 (idx ((p1.at).bZ).1 (0:Int))).bind fun (x_15:aa)=>
  some x_15))))
  else
  ((lC eM p1).bind fun (x_17:aa)=>
  some x_17)))))
theorem zF (eM:(List UInt8)) (p1:aa) (r:aa) (h:lE eM p1=some r):bI Tryz.prog 44 [.slice (eM.map U),af p1] (af r):=by
 refine bI.aU Tryz.func44 rfl (by simp [Tryz.ntmps44]) ?_
 rw [Tryz.ntmps44,TT.Vg]
 refine QW.view (s':=⟨aG [(0, .d (.slice (eM.map U))),(1, .d (af p1))],aj [],0,[]⟩) (View.init (by rfl)) zL ?_
 unfold lE at h
 refine sR ?_
 refine xz 4 (.d (af (aa.nil))) ?_
 refine QW.seq ?_
 refine sR ?_
 refine xm 5 (.d (af p1)) ?_
 obtain ⟨nV,h⟩:=bk h
 refine xs 6 rfl (dH rfl (dI nV) rfl ?_)
 refine xs 7 rfl (aO rfl TT.lU (by decide) rfl ?_)
 refine xs 8 rfl (aC (d:= .val (.int .i64 ((p1.at).aZ))) rfl TT.mW rfl (kD _) ?_)
 refine XK.nz ?_
 refine QW.block ?_
 refine sR ?_
 refine xs 10 rfl (eF (a:=((p1.at).aZ)) (b:=(-1:Int)) rfl rfl rfl ?_)
 refine xz 9 (pB (decide (((p1.at).aZ)=(-1:Int)))) ?_
 refine QW.cond (t:=(decide (((p1.at).aZ)=(-1:Int)))) rfl zL (fun cB=>?_) (fun cB=>?_)
 ·replace h:=bT h cB
  refine rG ?_
  refine xs 11 rfl (eT (v:= .agg []) rfl TT.G3 (dG rfl dF) ?_)
  refine xs 12 rfl (AY (y:= .agg []) rfl rfl TT.As ?_)
  refine XK.panic rfl rfl rfl (Kh (sD ?_))
  cases h
 ·replace h:=bF h cB
  refine sR ?_
  refine xs 14 rfl (eF (a:=((p1.at).aZ)) (b:=(1:Int)) rfl rfl rfl ?_)
  refine xz 13 (pB (decide (((p1.at).aZ)=(1:Int)))) ?_
  refine QW.cond (t:=(decide (((p1.at).aZ)=(1:Int)))) rfl zL (fun dU=>?_) (fun dU=>?_)
  ·replace h:=bT h dU
   refine QW.seq ?_
   refine QW.region zL (PW.kX (id:=5) dc (M:=_) rfl (by kernel_rfl) ?_)
   refine RQ.st (some 15) rfl rfl (au (v:= .d (.slice (eM.map U))) rfl rfl ⟨⟨rfl,rfl⟩,?_⟩)
   refine RQ.st (some 16) rfl rfl (au (v:= .d (af p1)) rfl rfl ⟨⟨rfl,rfl⟩,?_⟩)
   obtain ⟨mH,h⟩:=bk h
   refine RQ.st (some 17) rfl rfl (dH rfl (dI mH) rfl ⟨⟨rfl,rfl⟩,?_⟩)
   refine RQ.st (some 18) rfl rfl (aO rfl TT.jJ (by decide) rfl ⟨⟨rfl,rfl⟩,?_⟩)
   refine RQ.st (some 19) rfl rfl (aC (d:= .slice (((p1.at).bE).map U)) rfl TT.fh rfl (iP _) ⟨⟨rfl,rfl⟩,?_⟩)
   refine RQ.st (some 20) rfl rfl (ef (en:=(eL U)) (l:=([eM,(p1.at).bE]:List (List UInt8))) rfl TT.A5 Gp rfl rfl (by decide) (by simp [dw,cU,aB,dQ,PV.cz,cx,aG,jA,iU,jX,bU,Value.oneCell']) ⟨⟨rfl,rfl⟩,?_⟩)
   obtain ⟨x_5,sJ,h⟩:=bO h
   refine RQ.st (some 21) rfl rfl (aA rfl rfl TT.yR rfl (tA ([eM,(p1.at).bE]:List (List UInt8)) _ sJ) ⟨⟨rfl,rfl⟩,?_⟩)
   refine RQ.st (some 22) rfl rfl (au (v:= .d (af p1)) rfl rfl ⟨⟨rfl,rfl⟩,?_⟩)
   obtain ⟨lQ,h⟩:=bk h
   refine RQ.st (some 23) rfl rfl (dH rfl (dI lQ) rfl ⟨⟨rfl,rfl⟩,?_⟩)
   refine RQ.st (some 24) rfl rfl (aO rfl TT.y5 (by decide) rfl ⟨⟨rfl,rfl⟩,?_⟩)
   refine RQ.st (some 25) rfl rfl (aC (d:= .val (sV ((p1.at).dK))) rfl TT.fJ rfl (w4 _) ⟨⟨rfl,rfl⟩,?_⟩)
   obtain ⟨x_8,Ak,h⟩:=bO h
   refine RQ.st (some 26) rfl rfl (aA rfl rfl TT.vU rfl (oZ x_5 ((p1.at).dK) _ Ak) ⟨⟨rfl,rfl⟩,?_⟩)
   refine RQ.st (some 4) rfl rfl (cq (v:= .d (af x_8)) rfl rfl ⟨⟨rfl,rfl⟩,?_⟩)
   refine RQ.nil (aX ?_)
   refine QW.ret zL (sZ (gm ?_))
   obtain rfl:=sO h
   exact Ends.one (.inr rfl) rfl (aI.tmp rfl) rfl rfl
  ·replace h:=bF h dU
   refine sR ?_
   refine xs 28 rfl (eF (a:=((p1.at).aZ)) (b:=(2:Int)) rfl rfl rfl ?_)
   refine xz 27 (pB (decide (((p1.at).aZ)=(2:Int)))) ?_
   refine QW.cond (t:=(decide (((p1.at).aZ)=(2:Int)))) rfl zL (fun qM=>?_) (fun qM=>?_)
   ·replace h:=bT h qM
    refine QW.seq ?_
    refine QW.region zL (PW.kX (id:=7) dc (M:=_) rfl (by kernel_rfl) ?_)
    refine RQ.st (some 29) rfl rfl (au (v:= .d (.slice (eM.map U))) rfl rfl ⟨⟨rfl,rfl⟩,?_⟩)
    refine RQ.st (some 30) rfl rfl (au (v:= .d (af p1)) rfl rfl ⟨⟨rfl,rfl⟩,?_⟩)
    obtain ⟨vH,h⟩:=bk h
    refine RQ.st (some 31) rfl rfl (dH rfl (dI vH) rfl ⟨⟨rfl,rfl⟩,?_⟩)
    refine RQ.st (some 32) rfl rfl (aO rfl TT.jJ (by decide) rfl ⟨⟨rfl,rfl⟩,?_⟩)
    refine RQ.st (some 33) rfl rfl (aC (d:= .slice (((p1.at).bE).map U)) rfl TT.fh rfl (iP _) ⟨⟨rfl,rfl⟩,?_⟩)
    refine RQ.st (some 34) rfl rfl (ef (en:=(eL U)) (l:=([eM,(p1.at).bE]:List (List UInt8))) rfl TT.A5 Gp rfl rfl (by decide) (by simp [dw,cU,aB,dQ,PV.cz,cx,aG,jA,iU,jX,bU,Value.oneCell']) ⟨⟨rfl,rfl⟩,?_⟩)
    obtain ⟨x_12,uq,h⟩:=bO h
    refine RQ.st (some 35) rfl rfl (aA rfl rfl TT.yR rfl (tA ([eM,(p1.at).bE]:List (List UInt8)) _ uq) ⟨⟨rfl,rfl⟩,?_⟩)
    refine RQ.st (some 36) rfl rfl (au (v:= .d (af p1)) rfl rfl ⟨⟨rfl,rfl⟩,?_⟩)
    obtain ⟨rQ,h⟩:=bk h
    refine RQ.st (some 37) rfl rfl (dH rfl (dI rQ) rfl ⟨⟨rfl,rfl⟩,?_⟩)
    refine RQ.st (some 38) rfl rfl (aO rfl TT.jj (by decide) rfl ⟨⟨rfl,rfl⟩,?_⟩)
    refine RQ.st (some 39) rfl rfl (mF (i:=(0:Int)) rfl TT.mM TT.kI rfl rfl (by decide) ⟨⟨rfl,rfl⟩,?_⟩)
    refine RQ.st (some 40) rfl rfl (aC (d:=af (idx ((p1.at).bZ).1 (0:Int))) rfl TT.ic rfl (ov (nG _) (by decide)) ⟨⟨rfl,rfl⟩,?_⟩)
    obtain ⟨x_15,vF,h⟩:=bO h
    refine RQ.st (some 41) rfl rfl (aA rfl rfl TT.vV rfl (qg x_12 (idx ((p1.at).bZ).1 (0:Int)) _ vF) ⟨⟨rfl,rfl⟩,?_⟩)
    refine RQ.st (some 4) rfl rfl (cq (v:= .d (af x_15)) rfl rfl ⟨⟨rfl,rfl⟩,?_⟩)
    refine RQ.nil (aX ?_)
    refine QW.ret zL (sZ (gm ?_))
    obtain rfl:=sO h
    exact Ends.one (.inr rfl) rfl (aI.tmp rfl) rfl rfl
   ·replace h:=bF h qM
    refine QW.skip zL (g6 (aX ?_))
    refine sR ?_
    refine xm 42 (.d (.slice (eM.map U))) ?_
    refine xm 43 (.d (af p1)) ?_
    obtain ⟨x_17,Cj,h⟩:=bO h
    refine xs 44 rfl (aA rfl rfl TT.vV rfl (qg eM p1 _ Cj) ?_)
    refine xz 4 (.d (af x_17)) ?_
    refine QW.ret zL ?_
    obtain rfl:=sO h
    exact Ends.one (.inr rfl) rfl (aI.tmp rfl) rfl rfl
inductive vZ where
 | S
 | L1 (oy:(aE 16 aa)) (kJ:Int) (cZ:Int) (kS:Int)
noncomputable def gZ (gS:(aE 16 aa)):vZ→Option (vZ⊕aa)
 | .S=>
  some (.inl (.L1 gS (0) (0) (0)))
 | .L1 oy kJ cZ kS=>
  (bif (decide (kS<(16:Int))) then
  gO (0≤kS∧kS<((16:Nat):Int)) (
  (bif (!(idx gS.1 kS).isNil) then
  gO (bw (kJ+(1:Int))) (
  gO (bw (kS+(1:Int))) (
  some (.inl (.L1 oy (kJ+(1:Int)) kS (kS+(1:Int))))))
  else
  gO (bw (kS+(1:Int))) (
  some (.inl (.L1 oy kJ cZ (kS+(1:Int)))))))
  else
  (bif (decide ((1:Int)<kJ)) then
  some (.inr (aa.of (⟨3,([]:(List UInt8)),([]:List UInt8),oy,([]:List UInt8)⟩:part)))
  else
  gO (0≤cZ∧cZ<((16:Nat):Int)) (
  ((lE ([(gf cZ)]:List UInt8) (idx oy.1 cZ)).bind fun (x_10:aa)=>
  some (.inr x_10)))))
noncomputable def r4 (gS:(aE 16 aa)):Option aa:=g9 (gZ gS) .S
theorem Ei (gS:(aE 16 aa)) (r:aa) (h:r4 gS=some r):bI Tryz.prog 45 [.agg (gS.1.map af)] (af r):=by
 refine bI.aU Tryz.func45 rfl (by simp [Tryz.ntmps45]) ?_
 rw [Tryz.ntmps45,TT.Vh]
 refine QW.view (s':=⟨aG [(0, .d (.agg (gS.1.map af)))],aj [],0,[]⟩) (View.init (by rfl)) zL ?_
 replace h:=cL h
 obtain ⟨_,h⟩:=h
 obtain ⟨dm,rfl,h9⟩:=aQ h;replace h:=h9;clear h9;rw [gZ] at h
 refine sR ?_
 refine XK.fz (some 1) rfl rfl (fl (ds:=gS.1.map af) rfl rfl rfl rfl cH ?_)
 refine xz 2 (.d (af (aa.nil))) ?_
 refine sR ?_
 refine xa 3 (pI (0)) ?_
 refine xz 4 (pI (0)) ?_
 refine QW.seq ?_
 refine sR ?_
 refine xs 7 rfl (aC (d:= .agg (gS.1.map af)) rfl TT.y6 rfl (qa (by rw [List.length_map,gS.2])) ?_)
 refine xm 8 (pI (0)) ?_
 refine XK.nz ?_
 refine QW.block ?_
 refine QW.loop (fun k σ=>∃ oy:(aE 16 aa),∃ kJ:Int,∃ cZ:Int,∃ kS:Int,k≤dm∧run (gZ gS) k (.L1 oy kJ cZ kS)=some r∧σ=⟨aG [(1, .d (.cA (oy.1.map af))),(3,pI kJ),(4,pI cZ),(7, .d (.agg (gS.1.map af))),(8,pI kS)],aj [],0,[]⟩) dm zL ⟨⟨aG [(1, .d (.cA (gS.1.map af))),(3,pI (0)),(4,pI (0)),(7, .d (.agg (gS.1.map af))),(8,pI (0))],aj [],0,[]⟩,View.mk 0 [] _ _ _ rfl rfl (by decide) (iC (iC (iC (iC (iC trivial))))) trivial rfl zL rfl,gS,0,0,0,Nat.le_refl _,jG h,rfl⟩ ?_
 rintro rO _ ⟨oy,kJ,cZ,kS,rP,h,rfl⟩
 obtain ⟨k_1,rfl,h9⟩:=aQ h;replace h:=h9;clear h9;rw [gZ] at h
 refine sR ?_
 refine xs 9 rfl (cJ (a:=kS) (b:=(16:Int)) rfl rfl rfl ?_)
 refine XK.nz ?_
 refine QW.seq ?_
 refine QW.cond (t:=(decide (kS<(16:Int)))) rfl zL (fun cB=>?_) (fun cB=>?_)
 ·replace h:=fF h cB
  refine QW.skip zL (aX ?_)
  refine QW.seq ?_
  refine QW.block ?_
  refine sR ?_
  refine xm 10 (pI kS) ?_
  obtain ⟨dS,h⟩:=gG h
  refine xs 11 rfl (x5 (a:=gS) (i:=kS) rfl TT.kI rfl rfl dS ?_)
  refine xa 5 (pI kS) ?_
  refine xz 6 (.d (af (idx gS.1 kS))) ?_
  refine sR ?_
  refine xm 12 (.d (af (idx gS.1 kS))) ?_
  refine xs 13 rfl (GB rfl TT.rD rfl rfl ?_)
  refine XK.nz ?_
  refine QW.cond (t:=(!(idx gS.1 kS).isNil)) rfl zL (fun jb=>?_) (fun jb=>?_)
  ·replace h:=fF h jb
   refine sR ?_
   refine xm 14 (pI kJ) ?_
   obtain ⟨nU,h⟩:=gG h
   refine xs 15 rfl (bX (a:=kJ) (b:=(1:Int)) rfl rfl rfl nU ?_)
   refine xz 3 (pI (kJ+(1:Int))) ?_
   refine rG ?_
   refine xm 16 (pI kS) ?_
   refine xa 4 (pI kS) ?_
   refine XK.nil (g6 (aX ?_))
   refine rG ?_
   obtain ⟨mJ,h⟩:=gG h
   refine xs 17 rfl (bX (a:=kS) (b:=(1:Int)) rfl rfl rfl mJ ?_)
   refine xm 8 (pI (kS+(1:Int))) ?_
   refine XK.nz ?_
   exact ⟨k_1,by omega,⟨aG [(1, .d (.cA (oy.1.map af))),(3,pI (kJ+(1:Int))),(4,pI kS),(7, .d (.agg (gS.1.map af))),(8,pI (kS+(1:Int)))],aj [],0,[]⟩,View.mk 0 [] _ _ _ rfl rfl (by decide) (iC (iC (iC (iC (iC trivial))))) trivial rfl zL rfl,oy,(kJ+(1:Int)),kS,(kS+(1:Int)),by omega,jG h,rfl⟩
  ·replace h:=fG h jb
   refine QW.skip zL (g6 (aX ?_))
   refine rG ?_
   obtain ⟨lQ,h⟩:=gG h
   refine xs 17 rfl (bX (a:=kS) (b:=(1:Int)) rfl rfl rfl lQ ?_)
   refine xm 8 (pI (kS+(1:Int))) ?_
   refine XK.nz ?_
   exact ⟨k_1,by omega,⟨aG [(1, .d (.cA (oy.1.map af))),(3,pI kJ),(4,pI cZ),(7, .d (.agg (gS.1.map af))),(8,pI (kS+(1:Int)))],aj [],0,[]⟩,View.mk 0 [] _ _ _ rfl rfl (by decide) (iC (iC (iC (iC (iC trivial))))) trivial rfl zL rfl,oy,kJ,cZ,(kS+(1:Int)),by omega,jG h,rfl⟩
 ·replace h:=fG h cB
  refine QW.exit zL (eD (eD (j3 (aX ?_))))
  refine QW.seq ?_
  refine sR ?_
  refine xm 18 (pI kJ) ?_
  refine xs 19 rfl (nQ (a:=kJ) (b:=(1:Int)) rfl rfl rfl ?_)
  refine XK.nz ?_
  refine QW.cond (t:=(decide ((1:Int)<kJ))) rfl zL (fun rZ=>?_) (fun rZ=>?_)
  ·replace h:=fF h rZ
   refine sR ?_
   refine xs 20 rfl (aC (d:= .agg (oy.1.map af)) rfl TT.y6 rfl (qa (by rw [List.length_map,oy.2])) ?_)
   refine xs 21 rfl (eT (v:= .agg (([pI (3), .full (([]:(List UInt8)).map U),pS ([]:List UInt8)])++(((oy.1.map af).map PV.d)++([pS ([]:List UInt8)])))) rfl TT.Dp (dG rfl (cw (p:=pI (3)) (cells:=(([pI (0), .full (([]:(List UInt8)).map U),pS ([]:List UInt8)])++((((aE.rep 16 aa.nil).1.map af).map PV.d)++([pS ([]:List UInt8)])))) (cells':=(([pI (3), .full (([]:(List UInt8)).map U),pS ([]:List UInt8)])++((((aE.rep 16 aa.nil).1.map af).map PV.d)++([pS ([]:List UInt8)])))) rfl rfl rfl (bW (aD (A:=[pI (0), .full (([]:(List UInt8)).map U),pS ([]:List UInt8)]) (b:=17) rfl (aD (A:=((aE.rep 16 aa.nil).1.map af).map PV.d) (b:=1) (aq _) rfl rfl) rfl) bL) (fy 0 (by first | exact Nat.le_of_ble_eq_true rfl | simp) rfl) (cw (p:= .d (.agg (oy.1.map af))) (cells:=(([pI (3), .full (([]:(List UInt8)).map U),pS ([]:List UInt8)])++((((aE.rep 16 aa.nil).1.map af).map PV.d)++([pS ([]:List UInt8)])))) (cells':=(([pI (3), .full (([]:(List UInt8)).map U),pS ([]:List UInt8)])++(((oy.1.map af).map PV.d)++([pS ([]:List UInt8)])))) rfl rfl (show ((oy.1.map af).map PV.d).length=_ from aq _) (bW (aD (A:=[pI (3), .full (([]:(List UInt8)).map U),pS ([]:List UInt8)]) (b:=17) rfl (aD (A:=((aE.rep 16 aa.nil).1.map af).map PV.d) (b:=1) (aq _) rfl rfl) rfl) bL) (qo 3 0 rfl (GA (aq _) (aq _))) dF))) ?_)
   refine XK.fx (some 22) rfl rfl (fl (ds:=ja (⟨3,([]:(List UInt8)),([]:List UInt8),oy,([]:List UInt8)⟩:part)) rfl rfl rfl rfl (mh rfl (mh cH rfl)) ⟨_,iH.l7 (tO (⟨3,([]:(List UInt8)),([]:List UInt8),oy,([]:List UInt8)⟩:part)) rfl,?_⟩)
   refine xz 2 (.d (af (aa.of (⟨3,([]:(List UInt8)),([]:List UInt8),oy,([]:List UInt8)⟩:part)))) ?_
   refine QW.ret zL (gm ?_)
   obtain rfl:=sG h
   exact Ends.one (.inr rfl) rfl (aI.tmp rfl) rfl rfl
  ·replace h:=fG h rZ
   refine QW.skip zL (aX ?_)
   refine sR ?_
   refine xm 23 (pI cZ) ?_
   refine xs 24 rfl (n6 (n:=cZ) rfl TT.kC TT.dR rfl ?_)
   refine xs 25 rfl (ef (en:=U) (l:=([(gf cZ)]:List UInt8)) rfl TT.e8 bx rfl rfl (by decide) (by simp [dw,cU,aB,dQ,PV.cz,cx,aG,jA,iU,jX,bU,Value.oneCell']) ?_)
   refine xm 26 (pI cZ) ?_
   obtain ⟨qG,h⟩:=gG h
   refine xs 27 rfl (mF (i:=cZ) rfl TT.mM TT.kI rfl rfl qG ?_)
   refine xs 28 rfl (aC (d:=af (idx oy.1 cZ)) rfl TT.ic rfl (ov (Pre.all _) qG) ?_)
   obtain ⟨x_10,qJ,h⟩:=bG h
   refine xs 29 rfl (aA rfl rfl TT.G8 rfl (zF ([(gf cZ)]:List UInt8) (idx oy.1 cZ) _ qJ) ?_)
   refine xz 2 (.d (af x_10)) ?_
   refine QW.ret zL ?_
   obtain rfl:=sG h
   exact Ends.one (.inr rfl) rfl (aI.tmp rfl) rfl rfl
noncomputable def jK (self:aa→(List UInt8)→Option aa) (p0:aa) (aL:(List UInt8)):Option aa:=
  gO (p0.isNil=false) (
  (bif (decide (((p0.at).aZ)=(1:Int))) then
  some (aa.nil)
  else
  (bif (decide (((p0.at).aZ)=(2:Int))) then
  gO (p0.isNil=false) (
  gO (p0.isNil=false) (
  gO (p0.isNil=false) (
  gO (0≤(((p0.at).bE).length:Int)∧(((p0.at).bE).length:Int)≤(aL.length:Int)∧(aL.length:Int)≤(aL.length:Int)) (
  ((self (idx ((p0.at).bZ).1 (0:Int)) (sub aL (((p0.at).bE).length:Int) (aL.length:Int))).bind fun (x_8:aa)=>
  ((lE ((p0.at).bE) x_8).bind fun (x_10:aa)=>
  some x_10))))))
  else
  gO (p0.isNil=false) (
  gO (0≤(0:Int)∧(0:Int)<(aL.length:Int)) (
  gO (0≤(0:Int)∧(0:Int)<(aL.length:Int)) (
  gO (p0.isNil=false) (
  gO (0≤((idx aL (0:Int)).toNat:Int)∧((idx aL (0:Int)).toNat:Int)<((16:Nat):Int)) (
  gO (0≤(1:Int)∧(1:Int)≤(aL.length:Int)∧(aL.length:Int)≤(aL.length:Int)) (
  ((self (idx ((p0.at).bZ).1 ((idx aL (0:Int)).toNat:Int)) (sub aL (1:Int) (aL.length:Int))).bind fun (x_18:aa)=>
  gO (0≤((idx aL (0:Int)).toNat:Int)∧((idx aL (0:Int)).toNat:Int)<((16:Nat):Int)) (
  ((r4 (((p0.at).bZ).put ((idx aL (0:Int)).toNat:Int) x_18)).bind fun (x_21:aa)=>
  some x_21))))))))))))
theorem Bw (self:aa→(List UInt8)→Option aa) (fQ:∀ (y0:aa) (y1:(List UInt8)) (rr:aa),self y0 y1=some rr→bI Tryz.prog 26 [af y0, .slice (y1.map U)] (af rr)) (p0:aa) (aL:(List UInt8)) (r:aa) (h:jK self p0 aL=some r):bI Tryz.prog 26 [af p0, .slice (aL.map U)] (af r):=by
 refine bI.aU Tryz.func26 rfl (by simp [Tryz.ntmps26]) ?_
 rw [Tryz.ntmps26,TT.Vc]
 refine QW.view (s':=⟨aG [(0, .d (af p0)),(1, .d (.slice (aL.map U)))],aj [],0,[]⟩) (View.init (by rfl)) zL ?_
 unfold jK at h
 refine sR ?_
 refine xz 4 (.d (af (aa.nil))) ?_
 refine QW.seq ?_
 refine sR ?_
 refine xm 6 (.d (af p0)) ?_
 obtain ⟨nV,h⟩:=bk h
 refine xs 7 rfl (dH rfl (dI nV) rfl ?_)
 refine xs 8 rfl (aO rfl TT.lU (by decide) rfl ?_)
 refine xs 9 rfl (aC (d:= .val (.int .i64 ((p0.at).aZ))) rfl TT.mW rfl (kD _) ?_)
 refine XK.nz ?_
 refine QW.block ?_
 refine sR ?_
 refine xs 11 rfl (eF (a:=((p0.at).aZ)) (b:=(1:Int)) rfl rfl rfl ?_)
 refine xz 10 (pB (decide (((p0.at).aZ)=(1:Int)))) ?_
 refine QW.cond (t:=(decide (((p0.at).aZ)=(1:Int)))) rfl zL (fun cB=>?_) (fun cB=>?_)
 ·replace h:=bT h cB
  refine sR ?_
  refine xz 4 (.d (af (aa.nil))) ?_
  refine QW.ret zL (sZ (gm ?_))
  obtain rfl:=sO h
  exact Ends.one (.inr rfl) rfl (aI.tmp rfl) rfl rfl
 ·replace h:=bF h cB
  refine sR ?_
  refine xs 13 rfl (eF (a:=((p0.at).aZ)) (b:=(2:Int)) rfl rfl rfl ?_)
  refine xz 12 (pB (decide (((p0.at).aZ)=(2:Int)))) ?_
  refine QW.cond (t:=(decide (((p0.at).aZ)=(2:Int)))) rfl zL (fun dU=>?_) (fun dU=>?_)
  ·replace h:=bT h dU
   refine QW.seq ?_
   refine QW.region zL (PW.kX (id:=5) dc (M:=_) rfl (by kernel_rfl) ?_)
   refine RQ.st (some 14) rfl rfl (au (v:= .d (af p0)) rfl rfl ⟨⟨rfl,rfl⟩,?_⟩)
   obtain ⟨mH,h⟩:=bk h
   refine RQ.st (some 15) rfl rfl (dH rfl (dI mH) rfl ⟨⟨rfl,rfl⟩,?_⟩)
   refine RQ.st (some 16) rfl rfl (aO rfl TT.jJ (by decide) rfl ⟨⟨rfl,rfl⟩,?_⟩)
   refine RQ.st (some 17) rfl rfl (aC (d:= .slice (((p0.at).bE).map U)) rfl TT.fh rfl (iP _) ⟨⟨rfl,rfl⟩,?_⟩)
   refine RQ.st (some 18) rfl rfl (au (v:= .d (af p0)) rfl rfl ⟨⟨rfl,rfl⟩,?_⟩)
   obtain ⟨nU,h⟩:=bk h
   refine RQ.st (some 19) rfl rfl (dH rfl (dI nU) rfl ⟨⟨rfl,rfl⟩,?_⟩)
   refine RQ.st (some 20) rfl rfl (aO rfl TT.jj (by decide) rfl ⟨⟨rfl,rfl⟩,?_⟩)
   refine RQ.st (some 21) rfl rfl (mF (i:=(0:Int)) rfl TT.mM TT.kI rfl rfl (by decide) ⟨⟨rfl,rfl⟩,?_⟩)
   refine RQ.st (some 22) rfl rfl (aC (d:=af (idx ((p0.at).bZ).1 (0:Int))) rfl TT.ic rfl (ov (nG _) (by decide)) ⟨⟨rfl,rfl⟩,?_⟩)
   refine RQ.st (some 23) rfl rfl (au (v:= .d (.slice (aL.map U))) rfl rfl ⟨⟨rfl,rfl⟩,?_⟩)
   refine RQ.st (some 24) rfl rfl (au (v:= .d (af p0)) rfl rfl ⟨⟨rfl,rfl⟩,?_⟩)
   obtain ⟨mJ,h⟩:=bk h
   refine RQ.st (some 25) rfl rfl (dH rfl (dI mJ) rfl ⟨⟨rfl,rfl⟩,?_⟩)
   refine RQ.st (some 26) rfl rfl (aO rfl TT.jJ (by decide) rfl ⟨⟨rfl,rfl⟩,?_⟩)
   refine RQ.st (some 27) rfl rfl (aC (d:= .slice (((p0.at).bE).map U)) rfl TT.fh rfl (iP _) ⟨⟨rfl,rfl⟩,?_⟩)
   refine RQ.st (some 28) rfl rfl (cM (en:=U) (l:=(p0.at).bE) rfl TT.bA rfl ⟨⟨rfl,rfl⟩,?_⟩)
   obtain ⟨lQ,h⟩:=bk h
   refine RQ.st (some 29) rfl rfl (n7 (l:=aL) (a:=(((p0.at).bE).length:Int)) (b:=(aL.length:Int)) rfl TT.bA TT.ek bx rfl rfl rfl lQ ⟨⟨rfl,rfl⟩,?_⟩)
   obtain ⟨x_8,Ak,h⟩:=bO h
   refine RQ.st (some 30) rfl rfl (aA rfl rfl TT.Cn rfl (fQ (idx ((p0.at).bZ).1 (0:Int)) (sub aL (((p0.at).bE).length:Int) (aL.length:Int)) _ Ak) ⟨⟨rfl,rfl⟩,?_⟩)
   obtain ⟨x_10,qJ,h⟩:=bO h
   refine RQ.st (some 31) rfl rfl (aA rfl rfl TT.G8 rfl (zF ((p0.at).bE) x_8 _ qJ) ⟨⟨rfl,rfl⟩,?_⟩)
   refine RQ.st (some 4) rfl rfl (cq (v:= .d (af x_10)) rfl rfl ⟨⟨rfl,rfl⟩,?_⟩)
   refine RQ.nil (aX ?_)
   refine QW.ret zL (sZ (gm ?_))
   obtain rfl:=sO h
   exact Ends.one (.inr rfl) rfl (aI.tmp rfl) rfl rfl
  ·replace h:=bF h dU
   refine QW.skip zL (g6 (aX ?_))
   refine sR ?_
   refine xm 32 (.d (af p0)) ?_
   obtain ⟨m5,h⟩:=bk h
   refine xs 33 rfl (dH rfl (dI m5) rfl ?_)
   refine xs 34 rfl (aO rfl TT.jj (by decide) rfl ?_)
   refine xs 35 rfl (aC (d:= .agg (((p0.at).bZ).1.map af)) rfl TT.y6 rfl (Ad _) ?_)
   refine xs 5 rfl (bB (l:=(((aE.rep 16 aa.nil).1.map af).map .d)) rfl TT.Qo rfl rfl ?_)
   refine XK.st none rfl rfl (bh (l':=((((p0.at).bZ).1.map af).map .d)) rfl TT.y6 rfl rfl rfl rfl rfl (aq _) (nh _) (cQ ((aq _).trans (aq _).symm)) ?_)
   refine XK.nz ?_
   refine QW.seq ?_
   refine QW.region zL (PW.rL (id:=7) dc (M:=_) rfl (by kernel_rfl) ?_)
   refine RK.st (some 36) rfl rfl (au (v:= .d (.slice (aL.map U))) rfl rfl ?_)
   obtain ⟨nJ,h⟩:=bk h
   refine RK.st (some 37) rfl rfl (bC (l:=aL) (i:=(0:Int)) rfl TT.ek bx rfl rfl nJ ?_)
   refine RK.st (some 38) rfl rfl (aC (d:= .val (.int .u8 ((idx aL (0:Int)).toNat:Int))) rfl TT.jx rfl (c8.one) ?_)
   refine RK.st (some 39) rfl rfl (au (v:= .d (af p0)) rfl rfl ?_)
   refine RK.st (some 40) rfl rfl (au (v:= .d (.slice (aL.map U))) rfl rfl ?_)
   obtain ⟨rQ,h⟩:=bk h
   refine RK.st (some 41) rfl rfl (bC (l:=aL) (i:=(0:Int)) rfl TT.ek bx rfl rfl rQ ?_)
   refine RK.st (some 42) rfl rfl (aC (d:= .val (.int .u8 ((idx aL (0:Int)).toNat:Int))) rfl TT.jx rfl (c8.one) ?_)
   obtain ⟨tR,h⟩:=bk h
   refine RK.st (some 43) rfl rfl (dH rfl (dI tR) rfl ?_)
   refine RK.st (some 44) rfl rfl (aO rfl TT.jj (by decide) rfl ?_)
   obtain ⟨oR,h⟩:=bk h
   refine RK.st (some 45) rfl rfl (mF (i:=((idx aL (0:Int)).toNat:Int)) rfl TT.mM TT.kI rfl rfl oR ?_)
   refine RK.st (some 46) rfl rfl (aC (d:=af (idx ((p0.at).bZ).1 ((idx aL (0:Int)).toNat:Int))) rfl TT.ic rfl (ov (nG _) oR) ?_)
   refine RK.st (some 47) rfl rfl (au (v:= .d (.slice (aL.map U))) rfl rfl ?_)
   obtain ⟨pT,h⟩:=bk h
   refine RK.st (some 48) rfl rfl (n7 (l:=aL) (a:=(1:Int)) (b:=(aL.length:Int)) rfl TT.bA TT.ek bx rfl rfl rfl pT ?_)
   obtain ⟨x_18,xF,h⟩:=bO h
   refine RK.st (some 49) rfl rfl (aA rfl rfl TT.Cn rfl (fQ (idx ((p0.at).bZ).1 ((idx aL (0:Int)).toNat:Int)) (sub aL (1:Int) (aL.length:Int)) _ xF) ?_)
   obtain ⟨vS,h⟩:=bk h
   refine RK.st (some 50) rfl rfl (cV (i:=((idx aL (0:Int)).toNat:Int)) rfl TT.mM TT.kI rfl rfl vS ?_)
   refine RK.st none rfl rfl (bh (l':=(((((p0.at).bZ).put ((idx aL (0:Int)).toNat:Int) x_18).1.map af).map .d)) rfl TT.ic rfl rfl rfl rfl rfl rfl (rM vS) (p9 vS) ?_)
   refine RK.nil ⟨fT.last 15 (by simp) (by simp) (by rfl),(aX ?_)⟩
   refine QW.seq ?_
   refine QW.view (s':=⟨aG [(5, .aF 0 0)],aj [.var (((((p0.at).bZ).put ((idx aL (0:Int)).toNat:Int) x_18).1.map af).map .d)],1,[]⟩) (View.mk 1 [0] _ _ _ rfl rfl (by decide) (iC trivial) (And.intro (by simp only [cv,bq,PV.bK];rfl) trivial) rfl zL rfl) zL ?_
   refine rG ?_
   refine XK.as (some 51) rfl rfl (bD (v:= .agg (((((p0.at).bZ).put ((idx aL (0:Int)).toNat:Int) x_18).1.map af).map .d)) rfl TT.y6 rfl rfl (ju (by decide)) ⟨.d (.agg ((((p0.at).bZ).put ((idx aL (0:Int)).toNat:Int) x_18).1.map af)),gV,?_⟩)
   obtain ⟨x_21,G2,h⟩:=bO h
   refine xs 52 rfl (aA rfl rfl TT.Og rfl (Ei (((p0.at).bZ).put ((idx aL (0:Int)).toNat:Int) x_18) _ G2) ?_)
   refine xz 4 (.d (af x_21)) ?_
   refine QW.ret zL ?_
   obtain rfl:=sO h
   exact Ends.one (.inr rfl) rfl (aI.tmp rfl) rfl rfl
noncomputable def jm:Nat→aa→(List UInt8)→Option aa
 | 0=>fun _ _=>none
 | n+1=>fun y0 y1=>jK (jm n) y0 y1
theorem uJ:∀ (n:Nat) (y0:aa) (y1:(List UInt8)) (rr:aa),jm n y0 y1=some rr→bI Tryz.prog 26 [af y0, .slice (y1.map U)] (af rr)
 | 0,_,_,_,h=>by cases h
 | n+1,y0,y1,rr,h=>Bw (jm n) (uJ n) y0 y1 rr h
noncomputable def ta (y0:aa) (y1:(List UInt8)):Option aa:=wX (fun n=>jm n y0 y1)
theorem Ct (y0:aa) (y1:(List UInt8)) (rr:aa) (h:ta y0 y1=some rr):bI Tryz.prog 26 [af y0, .slice (y1.map U)] (af rr):=by
 obtain ⟨n,hn⟩:=oe h
 exact uJ n y0 y1 rr hn
noncomputable def gN (t0:Tree) (k1:(aE 32 UInt8)):Option (Tree×Int):=
  ((kf t0 k1).bind fun (x_1:((List UInt8)×Int))=>
  (bif (!decide ((x_1.2)=(0:Int))) then
  some ((⟨aa.nil⟩:Tree),x_1.2)
  else
  ((rj k1).bind fun (x_4:(List UInt8))=>
  ((ta (t0.fp) x_4).bind fun (x_6:aa)=>
  some ((⟨x_6⟩:Tree),0)))))
theorem we (t0:Tree) (k1:(aE 32 UInt8)) (r:(Tree×Int)) (h:gN t0 k1=some r):bI Tryz.prog 8 [.agg (dz t0), .agg (k1.1.map U)] (.tuple [.agg (dz (r.1)), .val (.int .i64 (r.2))]):=by
 refine bI.x8 Tryz.func8 rfl (by simp [Tryz.ntmps8]) TT.Cm ?_
 rw [Tryz.ntmps8,TT.Xq]
 refine QW.view (s':=⟨aG [(0, .d (.agg (dz t0))),(1, .d (.agg (k1.1.map U)))],aj [],0,[]⟩) (View.init (by rfl)) zL ?_
 unfold gN at h
 refine sR ?_
 refine XK.fz (some 2) rfl rfl (fl (ds:=dz t0) rfl rfl rfl rfl rfl ?_)
 refine XK.fz (some 3) rfl rfl (fl (ds:=k1.1.map U) rfl rfl rfl rfl cH ?_)
 refine xs 4 rfl (bB (l:=[.d (af (aa.nil))]) rfl TT.nk rfl rfl ?_)
 refine xs 5 rfl (bB (l:=[pI (0)]) rfl TT.ya rfl rfl ?_)
 refine XK.nz ?_
 refine QW.seq ?_
 refine sR ?_
 refine xs 10 rfl (aC (d:= .agg (dz t0)) rfl TT.fo rfl (⟨by simp [dz],rfl⟩) ?_)
 refine xs 11 rfl (aC (d:= .agg (k1.1.map U)) rfl TT.jE rfl (qa (by rw [List.length_map,k1.2])) ?_)
 obtain ⟨x_1,fB,h⟩:=bO h
 refine xs 12 rfl (aA rfl rfl TT.G4 rfl (vY t0 k1 _ fB) ?_)
 refine xm 9 (.d (.tuple [.val (sV (x_1.1)), .val (.int .i64 (x_1.2))])) ?_
 refine xs 13 rfl (bM rfl rfl rfl ?_)
 refine xs 14 rfl (bM rfl rfl rfl ?_)
 refine xa 6 (pS (x_1.1)) ?_
 refine xz 7 (pI (x_1.2)) ?_
 refine sR ?_
 refine xm 15 (pI (x_1.2)) ?_
 refine xs 16 rfl (qA (a:=(x_1.2)) (b:=(0:Int)) rfl rfl rfl ?_)
 refine XK.nz ?_
 refine QW.cond (t:=(!decide ((x_1.2)=(0:Int)))) rfl zL (fun dU=>?_) (fun dU=>?_)
 ·replace h:=bT h dU
  refine sR ?_
  refine xs 17 rfl (eT (v:= .agg [.d (af (aa.nil))]) rfl TT.ud (dG rfl dF) ?_)
  refine xm 18 (pI (x_1.2)) ?_
  refine XK.st none rfl rfl (bh (l':=[.d (af (aa.nil))]) rfl TT.fo rfl rfl rfl rfl rfl rfl (by simp) rfl ?_)
  refine XK.st none rfl rfl (bh (l':=[pI (x_1.2)]) rfl TT.kr rfl rfl rfl rfl rfl rfl (by simp) rfl ?_)
  refine XK.nz ?_
  refine QW.ret zL (gm ?_)
  obtain rfl:=sO h
  exact .inr (Ends.more (.inr rfl) rfl (ps:=[.agg [.d (af (aa.nil))],pI (x_1.2)]) (And.intro (aI.cell rfl rfl TT.fo ⟨⟨by simp,by simp⟩,rfl⟩) (And.intro (aI.cell rfl rfl TT.kr ⟨⟨by simp,by simp⟩,rfl⟩) trivial)) rfl rfl)
 ·replace h:=bF h dU
  refine QW.skip zL (aX ?_)
  refine sR ?_
  refine XK.df (L:=[.aF 1 0]) none rfl rfl rfl rfl rfl ?_
  refine XK.nz ?_
  refine QW.seq ?_
  refine QW.region zL (PW.kX (id:=5) dc (M:=_) rfl (by kernel_rfl) ?_)
  refine RQ.st (some 19) rfl rfl (aO rfl TT.jI (by decide) rfl ⟨⟨rfl,rfl⟩,?_⟩)
  refine RQ.st (some 20) rfl rfl (aC (d:=af (t0.fp)) rfl TT.ic rfl (c8.one) ⟨⟨rfl,rfl⟩,?_⟩)
  refine RQ.st (some 21) rfl rfl (aC (d:= .agg (k1.1.map U)) rfl TT.jE rfl (qa (by rw [List.length_map,k1.2])) ⟨⟨rfl,rfl⟩,?_⟩)
  obtain ⟨x_4,kZ,h⟩:=bO h
  refine RQ.st (some 22) rfl rfl (aA rfl rfl TT.Co rfl (xD k1 _ kZ) ⟨⟨rfl,rfl⟩,?_⟩)
  obtain ⟨x_6,yg,h⟩:=bO h
  refine RQ.st (some 23) rfl rfl (aA rfl rfl TT.Cn rfl (Ct (t0.fp) x_4 _ yg) ⟨⟨rfl,rfl⟩,?_⟩)
  refine RQ.st (some 8) rfl rfl (cq (v:= .d (af x_6)) rfl rfl ⟨⟨rfl,rfl⟩,?_⟩)
  refine RQ.nil (aX ?_)
  refine sR ?_
  refine xm 24 (.d (af x_6)) ?_
  refine xs 25 rfl (eT (v:= .agg [.d (af x_6)]) rfl TT.ud (dG rfl (cw (cells':=[.d (af x_6)]) rfl rfl rfl bL rfl dF)) ?_)
  refine XK.st none rfl rfl (bh (l':=[.d (af x_6)]) rfl TT.fo rfl rfl rfl rfl rfl rfl (by simp) rfl ?_)
  refine XK.st none rfl rfl (bh (l':=[pI (0)]) rfl TT.kr rfl rfl rfl rfl rfl rfl (by simp) rfl ?_)
  refine XK.nz ?_
  refine QW.ret zL ?_
  obtain rfl:=sO h
  exact .inl (vw.more [.agg [.d (af x_6)],pI (0)] 1 (pI (0)) (pI (0)) none rfl rfl (kz 0) rfl rfl rfl (And.intro (aI.cell rfl rfl TT.fo ⟨⟨by simp,by simp⟩,rfl⟩) (And.intro (aI.cell rfl rfl TT.kr ⟨⟨by simp,by simp⟩,rfl⟩) trivial)) rfl)
inductive r5 where
 | S
 | L1 (hU:Int) (kT:(List UInt8)) (kJ:(aE 16 (List UInt8)))
noncomputable def ir (self:Tree→Option (List UInt8)) (p0:aa):r5→Option (r5⊕Node)
 | .S=>
  gO (p0.isNil=false) (
  gO (p0.isNil=false) (
  ((cW ((p0.at).bE)).bind fun (x_3:(List UInt8))=>
  gO (p0.isNil=false) (
  gO (p0.isNil=false) (
  some (.inl (.L1 (0) x_3 (aE.rep 16 ([]:(List UInt8))))))))))
 | .L1 hU kT kJ=>
  (bif (decide (hU<(16:Int))) then
  gO (0≤hU∧hU<((16:Nat):Int)) (
  ((self (⟨(idx ((p0.at).bZ).1 hU)⟩:Tree)).bind fun (x_10:(List UInt8))=>
  gO (0≤hU∧hU<((16:Nat):Int)) (
  gO (bw (hU+(1:Int))) (
  some (.inl (.L1 (hU+(1:Int)) kT (kJ.put hU x_10)))))))
  else
  some (.inr (⟨(p0.at).aZ,kT,(p0.at).dK,kJ⟩:Node)))
noncomputable def gA (self:Tree→Option (List UInt8)) (p0:aa):Option Node:=g9 (ir self p0) .S
theorem ue (self:Tree→Option (List UInt8)) (fQ:∀ (y0:Tree) (rr:(List UInt8)),self y0=some rr→bI Tryz.prog 19 [.agg (dz y0)] (.val (sV rr))) (p0:aa) (r:Node) (h:gA self p0=some r):bI Tryz.prog 31 [af p0] (.agg (cNode r)):=by
 refine bI.aU Tryz.func31 rfl (by simp [Tryz.ntmps31]) ?_
 rw [Tryz.ntmps31,TT.Vf]
 refine QW.view (s':=⟨aG [(0, .d (af p0))],aj [],0,[]⟩) (View.init (by rfl)) zL ?_
 replace h:=cL h
 obtain ⟨_,h⟩:=h
 obtain ⟨dm,rfl,h9⟩:=aQ h;replace h:=h9;clear h9;rw [ir] at h
 refine sR ?_
 refine xs 2 rfl (bB (l:=(([pI (0), .full (([]:(List UInt8)).map U),pS ([]:List UInt8)])++(((aE.rep 16 ([]:(List UInt8))).1.map eS).map PV.d))) rfl TT.j9 rfl rfl ?_)
 refine XK.nz ?_
 refine QW.seq ?_
 refine QW.region zL (PW.rL (id:=1) dc (M:=_) rfl (by kernel_rfl) ?_)
 refine RK.st (some 6) rfl rfl (au (v:= .d (af p0)) rfl rfl ?_)
 obtain ⟨nV,h⟩:=gG h
 refine RK.st (some 7) rfl rfl (dH rfl (dI nV) rfl ?_)
 refine RK.st (some 8) rfl rfl (aO rfl TT.lU (by decide) rfl ?_)
 refine RK.st (some 9) rfl rfl (aC (d:= .val (.int .i64 ((p0.at).aZ))) rfl TT.mW rfl (kD _) ?_)
 refine RK.st (some 10) rfl rfl (au (v:= .d (af p0)) rfl rfl ?_)
 obtain ⟨xE,h⟩:=gG h
 refine RK.st (some 11) rfl rfl (dH rfl (dI xE) rfl ?_)
 refine RK.st (some 12) rfl rfl (aO rfl TT.jJ (by decide) rfl ?_)
 refine RK.st (some 13) rfl rfl (aC (d:= .slice (((p0.at).bE).map U)) rfl TT.fh rfl (iP _) ?_)
 obtain ⟨x_3,tX,h⟩:=bG h
 refine RK.st (some 14) rfl rfl (aA rfl rfl TT.vK rfl (gW ((p0.at).bE) _ tX) ?_)
 refine RK.st (some 15) rfl rfl (au (v:= .d (af p0)) rfl rfl ?_)
 obtain ⟨nU,h⟩:=gG h
 refine RK.st (some 16) rfl rfl (dH rfl (dI nU) rfl ?_)
 refine RK.st (some 17) rfl rfl (aO rfl TT.y5 (by decide) rfl ?_)
 refine RK.st (some 18) rfl rfl (aC (d:= .val (sV ((p0.at).dK))) rfl TT.fJ rfl (w4 _) ?_)
 refine RK.st (some 19) rfl rfl (eT (v:= .agg (([pI ((p0.at).aZ), .d (.slice (x_3.map U)),pS ((p0.at).dK)])++(((aE.rep 16 ([]:(List UInt8))).1.map eS).map PV.d))) rfl TT.oQ (dG rfl (cw (p:=pI ((p0.at).aZ)) (cells:=(([pI (0), .full (([]:(List UInt8)).map U),pS ([]:List UInt8)])++(((aE.rep 16 ([]:(List UInt8))).1.map eS).map PV.d))) (cells':=(([pI ((p0.at).aZ), .full (([]:(List UInt8)).map U),pS ([]:List UInt8)])++(((aE.rep 16 ([]:(List UInt8))).1.map eS).map PV.d))) rfl rfl rfl (bW (aD (A:=[pI (0), .full (([]:(List UInt8)).map U),pS ([]:List UInt8)]) (b:=16) rfl (aq _) rfl) bL) (fy 0 (by first | exact Nat.le_of_ble_eq_true rfl | simp) rfl) (cw (p:= .d (.slice (x_3.map U))) (cells:=(([pI ((p0.at).aZ), .full (([]:(List UInt8)).map U),pS ([]:List UInt8)])++(((aE.rep 16 ([]:(List UInt8))).1.map eS).map PV.d))) (cells':=(([pI ((p0.at).aZ), .d (.slice (x_3.map U)),pS ([]:List UInt8)])++(((aE.rep 16 ([]:(List UInt8))).1.map eS).map PV.d))) rfl rfl rfl (bW (aD (A:=[pI ((p0.at).aZ), .full (([]:(List UInt8)).map U),pS ([]:List UInt8)]) (b:=16) rfl (aq _) rfl) bL) (fy 1 (by first | exact Nat.le_of_ble_eq_true rfl | simp) rfl) (cw (p:=pS ((p0.at).dK)) (cells:=(([pI ((p0.at).aZ), .d (.slice (x_3.map U)),pS ([]:List UInt8)])++(((aE.rep 16 ([]:(List UInt8))).1.map eS).map PV.d))) (cells':=(([pI ((p0.at).aZ), .d (.slice (x_3.map U)),pS ((p0.at).dK)])++(((aE.rep 16 ([]:(List UInt8))).1.map eS).map PV.d))) rfl rfl rfl (bW (aD (A:=[pI ((p0.at).aZ), .d (.slice (x_3.map U)),pS ([]:List UInt8)]) (b:=16) rfl (aq _) rfl) bL) (fy 2 (by first | exact Nat.le_of_ble_eq_true rfl | simp) rfl) dF)))) ?_)
 refine RK.st (some 3) rfl rfl (bB (l:=(([pI (0), .full (([]:(List UInt8)).map U),pS ([]:List UInt8)])++(((aE.rep 16 ([]:(List UInt8))).1.map eS).map PV.d))) rfl TT.j9 rfl rfl ?_)
 refine RK.st none rfl rfl (bh (c:=(([pI ((p0.at).aZ), .d (.slice (x_3.map U)),pS ((p0.at).dK)])++(((aE.rep 16 ([]:(List UInt8))).1.map eS).map PV.d))) (l':=(([pI ((p0.at).aZ), .d (.slice (x_3.map U)),pS ((p0.at).dK)])++(((aE.rep 16 ([]:(List UInt8))).1.map eS).map PV.d))) rfl TT.dW rfl rfl rfl rfl rfl (aD (A:=[pI ((p0.at).aZ), .d (.slice (x_3.map U)),pS ((p0.at).dK)]) (b:=16) rfl (aq _) rfl) (bW (aD (A:=[pI (0), .full (([]:(List UInt8)).map U),pS ([]:List UInt8)]) (b:=16) rfl (aq _) rfl) bL) (cQ ((aD (A:=[pI (0), .full (([]:(List UInt8)).map U),pS ([]:List UInt8)]) (b:=16) rfl (aq _) rfl).trans (aD (A:=[pI ((p0.at).aZ), .d (.slice (x_3.map U)),pS ((p0.at).dK)]) (b:=16) rfl (aq _) rfl).symm)) ?_)
 refine RK.nil ⟨fT.comp (by rfl),(aX ?_)⟩
 refine QW.seq ?_
 refine QW.seq ?_
 refine QW.view (s':=⟨aG [(0, .d (af p0)),(2, .aF 0 0),(3, .aF 1 0)],aj [.var (([pI (0), .full (([]:(List UInt8)).map U),pS ([]:List UInt8)])++(((aE.rep 16 ([]:(List UInt8))).1.map eS).map PV.d)), .var (([pI ((p0.at).aZ), .d (.slice (x_3.map U)),pS ((p0.at).dK)])++(((aE.rep 16 ([]:(List UInt8))).1.map eS).map PV.d))],2,[]⟩) (View.mk 2 [0,1] _ _ _ rfl rfl (by decide) (iC (iC (iC trivial))) (And.intro (by simp only [cv,eZ,PV.bK];rfl) (And.intro (by simp only [cv,eZ,PV.bK];rfl) trivial)) rfl zL rfl) zL ?_
 refine rG ?_
 refine xm 20 (.d (af p0)) ?_
 obtain ⟨mJ,h⟩:=gG h
 refine xs 21 rfl (dH rfl (dI mJ) rfl ?_)
 refine xs 22 rfl (aO rfl TT.jj (by decide) rfl ?_)
 refine xs 23 rfl (aC (d:= .agg (((p0.at).bZ).1.map af)) rfl TT.y6 rfl (Ad _) ?_)
 refine xm 24 (pI (0)) ?_
 refine XK.nz ?_
 refine QW.block ?_
 refine QW.loop (fun k σ=>∃ hU:Int,∃ kT:(List UInt8),∃ kJ:(aE 16 (List UInt8)),k≤dm∧run (ir self p0) k (.L1 hU kT kJ)=some r∧σ=⟨aG [(2, .aF 0 0),(3, .aF 1 0),(23, .d (.agg (((p0.at).bZ).1.map af))),(24,pI hU)],aj [.var (([pI (0), .full (([]:(List UInt8)).map U),pS ([]:List UInt8)])++(((aE.rep 16 ([]:(List UInt8))).1.map eS).map PV.d)), .var (([pI ((p0.at).aZ), .d (.slice (kT.map U)),pS ((p0.at).dK)])++((kJ.1.map eS).map PV.d))],2,[]⟩) dm zL ⟨⟨aG [(2, .aF 0 0),(3, .aF 1 0),(23, .d (.agg (((p0.at).bZ).1.map af))),(24,pI (0))],aj [.var (([pI (0), .full (([]:(List UInt8)).map U),pS ([]:List UInt8)])++(((aE.rep 16 ([]:(List UInt8))).1.map eS).map PV.d)), .var (([pI ((p0.at).aZ), .d (.slice (x_3.map U)),pS ((p0.at).dK)])++(((aE.rep 16 ([]:(List UInt8))).1.map eS).map PV.d))],2,[]⟩,View.mk 2 [0,1] _ _ _ rfl rfl (by decide) (iC (iC (iC (iC trivial)))) (And.intro (by simp only [cv,eZ,PV.bK];rfl) (And.intro (by simp only [cv,eZ,PV.bK];rfl) trivial)) rfl zL rfl,0,x_3,(aE.rep 16 ([]:(List UInt8))),Nat.le_refl _,jG h,rfl⟩ ?_
 rintro Y1 _ ⟨hU,kT,kJ,Y2,h,rfl⟩
 obtain ⟨Xt,rfl,h9⟩:=aQ h;replace h:=h9;clear h9;rw [ir] at h
 refine sR ?_
 refine xs 25 rfl (cJ (a:=hU) (b:=(16:Int)) rfl rfl rfl ?_)
 refine XK.nz ?_
 refine QW.seq ?_
 refine QW.cond (t:=(decide (hU<(16:Int)))) rfl zL (fun rZ=>?_) (fun rZ=>?_)
 ·replace h:=fF h rZ
  refine QW.skip zL (aX ?_)
  refine QW.seq ?_
  refine QW.block ?_
  refine sR ?_
  refine xm 26 (pI hU) ?_
  obtain ⟨qG,h⟩:=gG h
  refine xs 27 rfl (x5 (a:=(p0.at).bZ) (i:=hU) rfl TT.kI rfl rfl qG ?_)
  refine xa 4 (pI hU) ?_
  refine xz 5 (.d (af (idx ((p0.at).bZ).1 hU))) ?_
  refine rG ?_
  refine xm 28 (pI hU) ?_
  refine xm 29 (.d (af (idx ((p0.at).bZ).1 hU))) ?_
  refine xs 30 rfl (eT (v:= .agg [.d (af (idx ((p0.at).bZ).1 hU))]) rfl TT.ud (dG rfl (cw (cells':=[.d (af (idx ((p0.at).bZ).1 hU))]) rfl rfl rfl bL rfl dF)) ?_)
  obtain ⟨x_10,qJ,h⟩:=bG h
  refine xs 31 rfl (aA rfl rfl TT.G6 rfl (fQ (⟨(idx ((p0.at).bZ).1 hU)⟩:Tree) _ qJ) ?_)
  refine xs 32 rfl (gF rfl TT.mY (by decide) rfl ?_)
  obtain ⟨m5,h⟩:=gG h
  refine xs 33 rfl (cV (i:=hU) rfl TT.tV TT.oP rfl rfl m5 ?_)
  refine XK.st none rfl rfl (bh (l':=(([pI ((p0.at).aZ), .d (.slice (kT.map U)),pS ((p0.at).dK)])++(((kJ.put hU x_10).1.map eS).map PV.d))) rfl TT.fJ rfl rfl rfl rfl rfl rfl (yQ (n:=16) m5 (aD (A:=[pI ((p0.at).aZ), .d (.slice (kT.map U)),pS ((p0.at).dK)]) (b:=16) rfl (aq _) rfl) bL) (qo 3 _ rfl (s4 m5)) ?_)
  refine XK.nil (g6 (aX ?_))
  refine rG ?_
  obtain ⟨nJ,h⟩:=gG h
  refine xs 34 rfl (bX (a:=hU) (b:=(1:Int)) rfl rfl rfl nJ ?_)
  refine xm 24 (pI (hU+(1:Int))) ?_
  refine XK.nz ?_
  exact ⟨Xt,by omega,⟨aG [(2, .aF 0 0),(3, .aF 1 0),(23, .d (.agg (((p0.at).bZ).1.map af))),(24,pI (hU+(1:Int)))],aj [.var (([pI (0), .full (([]:(List UInt8)).map U),pS ([]:List UInt8)])++(((aE.rep 16 ([]:(List UInt8))).1.map eS).map PV.d)), .var (([pI ((p0.at).aZ), .d (.slice (kT.map U)),pS ((p0.at).dK)])++(((kJ.put hU x_10).1.map eS).map PV.d))],2,[]⟩,View.mk 2 [0,1] _ _ _ rfl rfl (by decide) (iC (iC (iC (iC trivial)))) (And.intro (by simp only [cv,eZ,PV.bK];rfl) (And.intro (by simp only [cv,eZ,PV.bK];rfl) trivial)) rfl zL rfl,(hU+(1:Int)),kT,(kJ.put hU x_10),by omega,jG h,rfl⟩
 ·replace h:=fG h rZ
  refine QW.exit zL (eD (eD (j3 (aX ?_))))
  refine sR ?_
  refine XK.as (some 35) rfl rfl (bD (v:= .agg (([pI ((p0.at).aZ), .d (.slice (kT.map U)),pS ((p0.at).dK)])++((kJ.1.map eS).map PV.d))) rfl TT.dW rfl rfl (fP (aD (A:=[pI ((p0.at).aZ), .d (.slice (kT.map U)),pS ((p0.at).dK)]) (b:=16) rfl (aq _) rfl) (Nat.succ_pos _)) ⟨.d (.agg (cNode (⟨(p0.at).aZ,kT,(p0.at).dK,kJ⟩:Node))),(iH.dj (oK (mh rfl cH))),?_⟩)
  refine XK.st none rfl rfl (bh (c:=(([pI ((p0.at).aZ), .d (.slice (kT.map U)),pS ((p0.at).dK)])++((kJ.1.map eS).map PV.d))) (l':=(([pI ((p0.at).aZ), .d (.slice (kT.map U)),pS ((p0.at).dK)])++((kJ.1.map eS).map PV.d))) rfl TT.dW rfl rfl rfl rfl (show (cNode (⟨(p0.at).aZ,kT,(p0.at).dK,kJ⟩:Node)).map PV.d=_ by simp only [cNode,List.map_append];rfl) (aD (A:=[pI ((p0.at).aZ), .d (.slice (kT.map U)),pS ((p0.at).dK)]) (b:=16) rfl (aq _) rfl) (bW (aD (A:=[pI (0), .full (([]:(List UInt8)).map U),pS ([]:List UInt8)]) (b:=16) rfl (aq _) rfl) bL) (cQ ((aD (A:=[pI (0), .full (([]:(List UInt8)).map U),pS ([]:List UInt8)]) (b:=16) rfl (aq _) rfl).trans (aD (A:=[pI ((p0.at).aZ), .d (.slice (kT.map U)),pS ((p0.at).dK)]) (b:=16) rfl (aq _) rfl).symm)) ?_)
  refine XK.nz ?_
  refine QW.ret zL ?_
  obtain rfl:=sG h
  exact Ends.one (.inr rfl) rfl (aI.cell rfl rfl TT.dW (fP (aD (A:=[pI ((p0.at).aZ), .d (.slice (kT.map U)),pS ((p0.at).dK)]) (b:=16) rfl (aq _) rfl) (Nat.succ_pos _))) (by simp only [PV.dj,PV.ej,iJ,cH,Option.bind_some,Option.map_some,cNode]<;>rfl) rfl
noncomputable def jL (self:Tree→Option (List UInt8)) (t0:Tree):Option (List UInt8):=
  gO ((t0.fp).isNil=false→(t0.fp).isNil=false) (
  (bif ((t0.fp).isNil||(decide ((((t0.fp).at).aZ)=(-1:Int)))) then
  some ([]:List UInt8)
  else
  ((gA self (t0.fp)).bind fun (x_3:Node)=>
  ((Ap x_3).bind fun (x_5:((List UInt8)×Int))=>
  some (x_5.1)))))
theorem uK (self:Tree→Option (List UInt8)) (fQ:∀ (y0:Tree) (rr:(List UInt8)),self y0=some rr→bI Tryz.prog 19 [.agg (dz y0)] (.val (sV rr))) (t0:Tree) (r:(List UInt8)) (h:jL self t0=some r):bI Tryz.prog 14 [.agg (dz t0)] (.val (sV r)):=by
 refine bI.aU Tryz.func14 rfl (by simp [Tryz.ntmps14]) ?_
 rw [Tryz.ntmps14,TT.U6]
 refine QW.view (s':=⟨aG [(0, .d (.agg (dz t0)))],aj [],0,[]⟩) (View.init (by rfl)) zL ?_
 unfold jL at h
 refine sR ?_
 refine XK.fz (some 1) rfl rfl (fl (ds:=dz t0) rfl rfl rfl rfl rfl ?_)
 refine xz 2 (pS ([]:List UInt8)) ?_
 refine QW.seq ?_
 refine sR ?_
 refine xs 5 rfl (aO rfl TT.jI (by decide) rfl ?_)
 refine xs 6 rfl (aC (d:=af (t0.fp)) rfl TT.ic rfl (c8.one) ?_)
 refine xs 7 rfl (z9 rfl TT.rD rfl rfl ?_)
 refine xm 8 (pB ((t0.fp).isNil)) ?_
 refine xg 9 (.d (.cA ((dz t0).drop 0))) rfl rfl (fun hg=>aO rfl TT.jI (by decide) rfl g3) ?_
 refine xg 10 (.d (af (t0.fp))) rfl rfl (fun hg=>aC (d:=af (t0.fp)) rfl TT.ic rfl (c8.one) g3) ?_
 obtain ⟨nV,h⟩:=bk h
 refine xg 11 (.d (.cA (ja ((t0.fp).at)))) rfl rfl (fun hg=>dH rfl (dI (nV (Fp hg))) rfl g3) ?_
 refine xg 12 (.d (.cA ((ja ((t0.fp).at)).drop 0))) rfl rfl (fun hg=>aO rfl TT.lU (by decide) rfl g3) ?_
 refine xg 13 (pI (((t0.fp).at).aZ)) rfl rfl (fun hg=>aC (d:= .val (.int .i64 (((t0.fp).at).aZ))) rfl TT.mW rfl (kD _) g3) ?_
 refine xg 14 (pB (decide ((((t0.fp).at).aZ)=(-1:Int)))) rfl rfl (fun hg=>eF (a:=(((t0.fp).at).aZ)) (b:=(-1:Int)) rfl rfl rfl g3) ?_
 refine xs 15 rfl (jt rfl rfl rfl rfl (fun _=>rfl) (fun hb=>by rw [hb];rfl) ?_)
 refine XK.nz ?_
 refine QW.cond (t:=((t0.fp).isNil||(decide ((((t0.fp).at).aZ)=(-1:Int))))) rfl zL (fun cB=>?_) (fun cB=>?_)
 ·replace h:=bT h cB
  refine sR ?_
  refine xz 2 (pS ([]:List UInt8)) ?_
  refine QW.ret zL (gm ?_)
  obtain rfl:=sO h
  exact Ends.one (.inr rfl) rfl (aI.tmp rfl) rfl rfl
 ·replace h:=bF h cB
  refine QW.skip zL (aX ?_)
  refine sR ?_
  refine xs 17 rfl (aO rfl TT.jI (by decide) rfl ?_)
  refine xs 18 rfl (aC (d:=af (t0.fp)) rfl TT.ic rfl (c8.one) ?_)
  obtain ⟨x_3,tX,h⟩:=bO h
  refine xs 19 rfl (aA rfl rfl TT.G7 rfl (ue self fQ (t0.fp) _ tX) ?_)
  obtain ⟨x_5,sJ,h⟩:=bO h
  refine xs 20 rfl (aA rfl rfl TT.GM rfl (Iv x_3 _ sJ) ?_)
  refine xm 16 (.d (.tuple [.val (sV (x_5.1)), .val (.int .i64 (x_5.2))])) ?_
  refine xs 21 rfl (bM rfl rfl rfl ?_)
  refine xs 22 rfl (bM rfl rfl rfl ?_)
  refine xa 3 (pS (x_5.1)) ?_
  refine xz 4 (pI (x_5.2)) ?_
  refine sR ?_
  refine xm 23 (pS (x_5.1)) ?_
  refine xz 2 (pS (x_5.1)) ?_
  refine QW.ret zL ?_
  obtain rfl:=sO h
  exact Ends.one (.inr rfl) rfl (aI.tmp rfl) rfl rfl
noncomputable def mP (self:Tree→Option (List UInt8)) (t0:Tree):Option (List UInt8):=
  gO ((!(t0.fp).isNil)=true→(t0.fp).isNil=false) (
  (bif ((!(t0.fp).isNil)&&(decide ((((t0.fp).at).aZ)=(-1:Int)))) then
  gO ((t0.fp).isNil=false) (
  some (((t0.fp).at).vC))
  else
  ((jL self t0).bind fun (x_4:(List UInt8))=>
  ((vT x_4).bind fun (x_6:(List UInt8))=>
  some x_6))))
theorem Bx (self:Tree→Option (List UInt8)) (fQ:∀ (y0:Tree) (rr:(List UInt8)),self y0=some rr→bI Tryz.prog 19 [.agg (dz y0)] (.val (sV rr))) (t0:Tree) (r:(List UInt8)) (h:mP self t0=some r):bI Tryz.prog 19 [.agg (dz t0)] (.val (sV r)):=by
 refine bI.aU Tryz.func19 rfl (by simp [Tryz.ntmps19]) ?_
 rw [Tryz.ntmps19,TT.U8]
 refine QW.view (s':=⟨aG [(0, .d (.agg (dz t0)))],aj [],0,[]⟩) (View.init (by rfl)) zL ?_
 unfold mP at h
 refine sR ?_
 refine XK.fz (some 1) rfl rfl (fl (ds:=dz t0) rfl rfl rfl rfl rfl ?_)
 refine xz 2 (pS ([]:List UInt8)) ?_
 refine QW.seq ?_
 refine sR ?_
 refine xs 3 rfl (aO rfl TT.jI (by decide) rfl ?_)
 refine xs 4 rfl (aC (d:=af (t0.fp)) rfl TT.ic rfl (c8.one) ?_)
 refine xs 5 rfl (GB rfl TT.rD rfl rfl ?_)
 refine xm 6 (pB (!(t0.fp).isNil)) ?_
 refine xg 7 (.d (.cA ((dz t0).drop 0))) rfl rfl (fun hg=>aO rfl TT.jI (by decide) rfl g3) ?_
 refine xg 8 (.d (af (t0.fp))) rfl rfl (fun hg=>aC (d:=af (t0.fp)) rfl TT.ic rfl (c8.one) g3) ?_
 obtain ⟨nV,h⟩:=bk h
 refine xg 9 (.d (.cA (ja ((t0.fp).at)))) rfl rfl (fun hg=>dH rfl (dI (nV (Fp hg))) rfl g3) ?_
 refine xg 10 (.d (.cA ((ja ((t0.fp).at)).drop 0))) rfl rfl (fun hg=>aO rfl TT.lU (by decide) rfl g3) ?_
 refine xg 11 (pI (((t0.fp).at).aZ)) rfl rfl (fun hg=>aC (d:= .val (.int .i64 (((t0.fp).at).aZ))) rfl TT.mW rfl (kD _) g3) ?_
 refine xg 12 (pB (decide ((((t0.fp).at).aZ)=(-1:Int)))) rfl rfl (fun hg=>eF (a:=(((t0.fp).at).aZ)) (b:=(-1:Int)) rfl rfl rfl g3) ?_
 refine xs 13 rfl (fu rfl rfl rfl rfl (fun hb=>by rw [hb];rfl) (fun _=>rfl) ?_)
 refine XK.nz ?_
 refine QW.cond (t:=((!(t0.fp).isNil)&&(decide ((((t0.fp).at).aZ)=(-1:Int))))) rfl zL (fun cB=>?_) (fun cB=>?_)
 ·replace h:=bT h cB
  refine sR ?_
  refine xs 14 rfl (aO rfl TT.jI (by decide) rfl ?_)
  refine xs 15 rfl (aC (d:=af (t0.fp)) rfl TT.ic rfl (c8.one) ?_)
  obtain ⟨dS,h⟩:=bk h
  refine xs 16 rfl (dH rfl (dI dS) rfl ?_)
  refine xs 17 rfl (aO rfl TT.Oj (by decide) rfl ?_)
  refine xs 18 rfl (aC (d:= .val (sV (((t0.fp).at).vC))) rfl TT.fJ rfl (LL _) ?_)
  refine xz 2 (pS (((t0.fp).at).vC)) ?_
  refine QW.ret zL (gm ?_)
  obtain rfl:=sO h
  exact Ends.one (.inr rfl) rfl (aI.tmp rfl) rfl rfl
 ·replace h:=bF h cB
  refine QW.skip zL (aX ?_)
  refine sR ?_
  refine xs 19 rfl (aC (d:= .agg (dz t0)) rfl TT.fo rfl (⟨by simp [dz],rfl⟩) ?_)
  obtain ⟨x_4,kZ,h⟩:=bO h
  refine xs 20 rfl (aA rfl rfl TT.s7 rfl (uK self fQ t0 _ kZ) ?_)
  obtain ⟨x_6,yg,h⟩:=bO h
  refine xs 21 rfl (aA rfl rfl TT.Of rfl (Ku x_4 _ yg) ?_)
  refine xz 2 (pS x_6) ?_
  refine QW.ret zL ?_
  obtain rfl:=sO h
  exact Ends.one (.inr rfl) rfl (aI.tmp rfl) rfl rfl
noncomputable def jn:Nat→Tree→Option (List UInt8)
 | 0=>fun _=>none
 | n+1=>fun y0=>mP (jn n) y0
theorem uL:∀ (n:Nat) (y0:Tree) (rr:(List UInt8)),jn n y0=some rr→bI Tryz.prog 19 [.agg (dz y0)] (.val (sV rr))
 | 0,_,_,h=>by cases h
 | n+1,y0,rr,h=>Bx (jn n) (uL n) y0 rr h
noncomputable def iG (y0:Tree):Option (List UInt8):=wX (fun n=>jn n y0)
theorem qO (y0:Tree) (rr:(List UInt8)) (h:iG y0=some rr):bI Tryz.prog 19 [.agg (dz y0)] (.val (sV rr)):=by
 obtain ⟨n,hn⟩:=oe h
 exact uL n y0 rr hn
noncomputable def oz (p0:aa):Option Node:=gA iG p0
theorem By (p0:aa) (r:Node) (h:oz p0=some r):bI Tryz.prog 31 [af p0] (.agg (cNode r)):=ue iG qO p0 r h
noncomputable def jw (t0:Tree):Option (List UInt8):=jL iG t0
theorem lV (t0:Tree) (r:(List UInt8)) (h:jw t0=some r):bI Tryz.prog 14 [.agg (dz t0)] (.val (sV r)):=uK iG qO t0 r h
inductive r6 where
 | S
 | L1 (v4:(List Tree)) (hU:Int)
noncomputable def iu (t0:Tree):r6→Option (r6⊕(Node×(List Tree)))
 | .S=>
  gO ((t0.fp).isNil=false→(t0.fp).isNil=false) (
  (bif ((t0.fp).isNil||(decide ((((t0.fp).at).aZ)=(-1:Int)))) then
  some (.inr ((⟨0,([]:(List UInt8)),([]:List UInt8),(aE.rep 16 ([]:(List UInt8)))⟩:Node),([]:(List Tree))))
  else
  gO ((t0.fp).isNil=false) (
  some (.inl (.L1 ([]:(List Tree)) (0))))))
 | .L1 v4 hU=>
  (bif (decide (hU<(16:Int))) then
  gO (0≤hU∧hU<((16:Nat):Int)) (
  (bif (!(idx (((t0.fp).at).bZ).1 hU).isNil) then
  gO ((v4.length+([(⟨(idx (((t0.fp).at).bZ).1 hU)⟩:Tree)]:List Tree).length)*8≤140737488355328) (
  gO (bw (hU+(1:Int))) (
  some (.inl (.L1 (v4++([(⟨(idx (((t0.fp).at).bZ).1 hU)⟩:Tree)]:List Tree)) (hU+(1:Int))))))
  else
  gO (bw (hU+(1:Int))) (
  some (.inl (.L1 v4 (hU+(1:Int)))))))
  else
  ((oz (t0.fp)).bind fun (x_11:Node)=>
  some (.inr (x_11,v4))))
noncomputable def oA (t0:Tree):Option (Node×(List Tree)):=g9 (iu t0) .S
theorem Bz (t0:Tree) (r:(Node×(List Tree))) (h:oA t0=some r):bI Tryz.prog 21 [.agg (dz t0)] (.tuple [.agg (cNode (r.1)), .slice ((r.2).map lq)]):=by
 refine bI.aU Tryz.func21 rfl (by simp [Tryz.ntmps21]) ?_
 rw [Tryz.ntmps21,TT.U9]
 refine QW.view (s':=⟨aG [(0, .d (.agg (dz t0)))],aj [],0,[]⟩) (View.init (by rfl)) zL ?_
 replace h:=cL h
 obtain ⟨_,h⟩:=h
 obtain ⟨dm,rfl,h9⟩:=aQ h;replace h:=h9;clear h9;rw [iu] at h
 refine sR ?_
 refine XK.fz (some 1) rfl rfl (fl (ds:=dz t0) rfl rfl rfl rfl rfl ?_)
 refine xs 2 rfl (bB (l:=(([pI (0), .full (([]:(List UInt8)).map U),pS ([]:List UInt8)])++(((aE.rep 16 ([]:(List UInt8))).1.map eS).map PV.d))) rfl TT.j9 rfl rfl ?_)
 refine xz 3 (.full (([]:(List Tree)).map lq)) ?_
 refine QW.seq ?_
 refine sR ?_
 refine xs 7 rfl (aO rfl TT.jI (by decide) rfl ?_)
 refine xs 8 rfl (aC (d:=af (t0.fp)) rfl TT.ic rfl (c8.one) ?_)
 refine xs 9 rfl (z9 rfl TT.rD rfl rfl ?_)
 refine xm 10 (pB ((t0.fp).isNil)) ?_
 refine xg 11 (.d (.cA ((dz t0).drop 0))) rfl rfl (fun hg=>aO rfl TT.jI (by decide) rfl g3) ?_
 refine xg 12 (.d (af (t0.fp))) rfl rfl (fun hg=>aC (d:=af (t0.fp)) rfl TT.ic rfl (c8.one) g3) ?_
 obtain ⟨nV,h⟩:=gG h
 refine xg 13 (.d (.cA (ja ((t0.fp).at)))) rfl rfl (fun hg=>dH rfl (dI (nV (Fp hg))) rfl g3) ?_
 refine xg 14 (.d (.cA ((ja ((t0.fp).at)).drop 0))) rfl rfl (fun hg=>aO rfl TT.lU (by decide) rfl g3) ?_
 refine xg 15 (pI (((t0.fp).at).aZ)) rfl rfl (fun hg=>aC (d:= .val (.int .i64 (((t0.fp).at).aZ))) rfl TT.mW rfl (kD _) g3) ?_
 refine xg 16 (pB (decide ((((t0.fp).at).aZ)=(-1:Int)))) rfl rfl (fun hg=>eF (a:=(((t0.fp).at).aZ)) (b:=(-1:Int)) rfl rfl rfl g3) ?_
 refine xs 17 rfl (jt rfl rfl rfl rfl (fun _=>rfl) (fun hb=>by rw [hb];rfl) ?_)
 refine XK.nz ?_
 refine QW.cond (t:=((t0.fp).isNil||(decide ((((t0.fp).at).aZ)=(-1:Int))))) rfl zL (fun cB=>?_) (fun cB=>?_)
 ·replace h:=fF h cB
  refine sR ?_
  refine xs 18 rfl (eT (v:= .agg (([pI (0), .full (([]:(List UInt8)).map U),pS ([]:List UInt8)])++(((aE.rep 16 ([]:(List UInt8))).1.map eS).map PV.d))) rfl TT.oQ (dG rfl dF) ?_)
  refine XK.st none rfl rfl (bh (c:=(([pI (0), .full (([]:(List UInt8)).map U),pS ([]:List UInt8)])++(((aE.rep 16 ([]:(List UInt8))).1.map eS).map PV.d))) (l':=(([pI (0), .full (([]:(List UInt8)).map U),pS ([]:List UInt8)])++(((aE.rep 16 ([]:(List UInt8))).1.map eS).map PV.d))) rfl TT.dW rfl rfl rfl rfl rfl (aD (A:=[pI (0), .full (([]:(List UInt8)).map U),pS ([]:List UInt8)]) (b:=16) rfl (aq _) rfl) (bW (aD (A:=[pI (0), .full (([]:(List UInt8)).map U),pS ([]:List UInt8)]) (b:=16) rfl (aq _) rfl) bL) (cQ ((aD (A:=[pI (0), .full (([]:(List UInt8)).map U),pS ([]:List UInt8)]) (b:=16) rfl (aq _) rfl).trans (aD (A:=[pI (0), .full (([]:(List UInt8)).map U),pS ([]:List UInt8)]) (b:=16) rfl (aq _) rfl).symm)) ?_)
  refine xz 3 (.full (([]:(List Tree)).map lq)) ?_
  refine QW.ret zL (gm ?_)
  obtain rfl:=sG h
  exact Ends.more (.inr rfl) rfl (ps:=[.agg (([pI (0), .full (([]:(List UInt8)).map U),pS ([]:List UInt8)])++(((aE.rep 16 ([]:(List UInt8))).1.map eS).map PV.d)), .full (([]:(List Tree)).map lq)]) (And.intro (aI.cell rfl rfl TT.dW (fP (aD (A:=[pI (0), .full (([]:(List UInt8)).map U),pS ([]:List UInt8)]) (b:=16) rfl (aq _) rfl) (Nat.succ_pos _))) (And.intro (aI.tmp rfl) trivial)) (by simp only [PV.dj,PV.ej,iJ,cH,Option.bind_some,Option.map_some,cNode]<;>rfl) rfl
 ·replace h:=fG h cB
  refine QW.skip zL (aX ?_)
  refine sR ?_
  refine xz 4 (.full (([]:(List Tree)).map lq)) ?_
  refine QW.seq ?_
  refine sR ?_
  refine xs 19 rfl (aO rfl TT.jI (by decide) rfl ?_)
  refine xs 20 rfl (aC (d:=af (t0.fp)) rfl TT.ic rfl (c8.one) ?_)
  obtain ⟨dS,h⟩:=gG h
  refine xs 21 rfl (dH rfl (dI dS) rfl ?_)
  refine xs 22 rfl (aO rfl TT.jj (by decide) rfl ?_)
  refine xs 23 rfl (aC (d:= .agg ((((t0.fp).at).bZ).1.map af)) rfl TT.y6 rfl (Ad _) ?_)
  refine xm 24 (pI (0)) ?_
  refine XK.nz ?_
  refine QW.block ?_
  refine QW.loop (fun k σ=>∃ v4:(List Tree),∃ hU:Int,k≤dm∧run (iu t0) k (.L1 v4 hU)=some r∧σ=⟨aG [(1, .d (.cA (dz t0))),(2, .aF 0 0),(4, .own 1 (v4.map lq)),(23, .d (.agg ((((t0.fp).at).bZ).1.map af))),(24,pI hU)],aj [.var (([pI (0), .full (([]:(List UInt8)).map U),pS ([]:List UInt8)])++(((aE.rep 16 ([]:(List UInt8))).1.map eS).map PV.d)), .spare 1 v4.length],2,[]⟩) dm zL ⟨⟨aG [(1, .d (.cA (dz t0))),(2, .aF 0 0),(4, .own 1 (([]:(List Tree)).map lq)),(23, .d (.agg ((((t0.fp).at).bZ).1.map af))),(24,pI (0))],aj [.var (([pI (0), .full (([]:(List UInt8)).map U),pS ([]:List UInt8)])++(((aE.rep 16 ([]:(List UInt8))).1.map eS).map PV.d)), .spare 1 ([]:(List Tree)).length],2,[]⟩,View.trans (View.buf 4 1 rfl zL) (View.mk 2 [0,1] _ _ _ rfl rfl (by decide) (iC (iC (iC (iC (iC trivial))))) (And.intro (by simp only [cv,eZ,PV.bK];rfl) (And.intro rfl trivial)) rfl zL rfl),([]:(List Tree)),0,Nat.le_refl _,jG h,rfl⟩ ?_
  rintro Wr _ ⟨v4,hU,Ws,h,rfl⟩
  obtain ⟨LS,rfl,h9⟩:=aQ h;replace h:=h9;clear h9;rw [iu] at h
  refine sR ?_
  refine xs 25 rfl (cJ (a:=hU) (b:=(16:Int)) rfl rfl rfl ?_)
  refine XK.nz ?_
  refine QW.seq ?_
  refine QW.cond (t:=(decide (hU<(16:Int)))) rfl zL (fun jH=>?_) (fun jH=>?_)
  ·replace h:=fF h jH
   refine QW.skip zL (aX ?_)
   refine QW.seq ?_
   refine QW.block ?_
   refine sR ?_
   obtain ⟨mJ,h⟩:=gG h
   refine xs 26 rfl (x5 (a:=((t0.fp).at).bZ) (i:=hU) rfl TT.kI rfl rfl mJ ?_)
   refine xz 6 (.d (af (idx (((t0.fp).at).bZ).1 hU))) ?_
   refine sR ?_
   refine xm 27 (.d (af (idx (((t0.fp).at).bZ).1 hU))) ?_
   refine xs 28 rfl (GB rfl TT.rD rfl rfl ?_)
   refine XK.nz ?_
   refine QW.cond (t:=(!(idx (((t0.fp).at).bZ).1 hU).isNil)) rfl zL (fun rV=>?_) (fun rV=>?_)
   ·replace h:=fF h rV
    refine rG ?_
    refine xm 29 (.own 1 (v4.map lq)) ?_
    refine xm 30 (.d (af (idx (((t0.fp).at).bZ).1 hU))) ?_
    refine xs 31 rfl (eT (v:= .agg [.d (af (idx (((t0.fp).at).bZ).1 hU))]) rfl TT.ud (dG rfl (cw (cells':=[.d (af (idx (((t0.fp).at).bZ).1 hU))]) rfl rfl rfl bL rfl dF)) ?_)
    refine xs 32 rfl (ef (en:=lq) (l:=([(⟨(idx (((t0.fp).at).bZ).1 hU)⟩:Tree)]:List Tree)) rfl TT.Me Je (by first | rfl | (simp only [List.map_cons,List.map_nil,Qj];rfl)) rfl (by decide) (by simp [dw,cU,aB,dQ,PV.cz,cx,aG,jA,iU,jX,bU,Value.oneCell']) ?_)
    obtain ⟨p5,h⟩:=gG h
    refine xs 33 rfl (iY (en:=lq) (l:=v4) (l2:=([(⟨(idx (((t0.fp).at).bZ).1 hU)⟩:Tree)]:List Tree)) rfl TT.Me TT.Jm rfl Je rfl rfl rfl p5 (by decide) ?_)
    refine xa 4 (.own 2 ((v4++([(⟨(idx (((t0.fp).at).bZ).1 hU)⟩:Tree)]:List Tree)).map lq)) ?_
    refine XK.nil (g6 (aX ?_))
    refine rG ?_
    obtain ⟨qG,h⟩:=gG h
    refine xs 34 rfl (bX (a:=hU) (b:=(1:Int)) rfl rfl rfl qG ?_)
    refine xm 24 (pI (hU+(1:Int))) ?_
    refine XK.nz ?_
    exact ⟨LS,by omega,⟨aG [(1, .d (.cA (dz t0))),(2, .aF 0 0),(4, .own 1 ((v4++([(⟨(idx (((t0.fp).at).bZ).1 hU)⟩:Tree)]:List Tree)).map lq)),(23, .d (.agg ((((t0.fp).at).bZ).1.map af))),(24,pI (hU+(1:Int)))],aj [.var (([pI (0), .full (([]:(List UInt8)).map U),pS ([]:List UInt8)])++(((aE.rep 16 ([]:(List UInt8))).1.map eS).map PV.d)), .spare 1 (v4++([(⟨(idx (((t0.fp).at).bZ).1 hU)⟩:Tree)]:List Tree)).length],2,[]⟩,View.mk 2 [0,2] _ _ _ rfl rfl (by decide) (iC (iC (iC (iC (iC trivial))))) (And.intro (by simp only [cv,eZ,PV.bK];rfl) (And.intro rfl trivial)) rfl zL rfl,(v4++([(⟨(idx (((t0.fp).at).bZ).1 hU)⟩:Tree)]:List Tree)),(hU+(1:Int)),by omega,jG h,rfl⟩
   ·replace h:=fG h rV
    refine QW.skip zL (g6 (aX ?_))
    refine rG ?_
    obtain ⟨ow,h⟩:=gG h
    refine xs 34 rfl (bX (a:=hU) (b:=(1:Int)) rfl rfl rfl ow ?_)
    refine xm 24 (pI (hU+(1:Int))) ?_
    refine XK.nz ?_
    exact ⟨LS,by omega,⟨aG [(1, .d (.cA (dz t0))),(2, .aF 0 0),(4, .own 1 (v4.map lq)),(23, .d (.agg ((((t0.fp).at).bZ).1.map af))),(24,pI (hU+(1:Int)))],aj [.var (([pI (0), .full (([]:(List UInt8)).map U),pS ([]:List UInt8)])++(((aE.rep 16 ([]:(List UInt8))).1.map eS).map PV.d)), .spare 1 v4.length],2,[]⟩,View.mk 2 [0,1] _ _ _ rfl rfl (by decide) (iC (iC (iC (iC (iC trivial))))) (And.intro (by simp only [cv,eZ,PV.bK];rfl) (And.intro rfl trivial)) rfl zL rfl,v4,(hU+(1:Int)),by omega,jG h,rfl⟩
  ·replace h:=fG h jH
   refine QW.exit zL (eD (eD (j3 (aX ?_))))
   refine sR ?_
   refine xs 35 rfl (aO rfl TT.jI (by decide) rfl ?_)
   refine xs 36 rfl (aC (d:=af (t0.fp)) rfl TT.ic rfl (c8.one) ?_)
   obtain ⟨x_11,pY,h⟩:=bG h
   refine xs 37 rfl (aA rfl rfl TT.G7 rfl (By (t0.fp) _ pY) ?_)
   refine xm 38 (.own 1 (v4.map lq)) ?_
   refine XK.st none rfl rfl (bh (c:=(([pI (x_11.bf), .d (.slice ((x_11.av).map U)),pS (x_11.az)])++(((x_11.aR).1.map eS).map PV.d))) (l':=(([pI (x_11.bf), .d (.slice ((x_11.av).map U)),pS (x_11.az)])++(((x_11.aR).1.map eS).map PV.d))) rfl TT.dW rfl rfl rfl rfl (show (cNode x_11).map PV.d=_ by simp only [cNode,List.map_append];rfl) (aD (A:=[pI (x_11.bf), .d (.slice ((x_11.av).map U)),pS (x_11.az)]) (b:=16) rfl (aq _) rfl) (bW (aD (A:=[pI (0), .full (([]:(List UInt8)).map U),pS ([]:List UInt8)]) (b:=16) rfl (aq _) rfl) bL) (cQ ((aD (A:=[pI (0), .full (([]:(List UInt8)).map U),pS ([]:List UInt8)]) (b:=16) rfl (aq _) rfl).trans (aD (A:=[pI (x_11.bf), .d (.slice ((x_11.av).map U)),pS (x_11.az)]) (b:=16) rfl (aq _) rfl).symm)) ?_)
   refine xz 3 (.own 1 (v4.map lq)) ?_
   refine QW.ret zL ?_
   obtain rfl:=sG h
   exact Ends.more (.inr rfl) rfl (ps:=[.agg (([pI (x_11.bf), .d (.slice ((x_11.av).map U)),pS (x_11.az)])++(((x_11.aR).1.map eS).map PV.d)), .own 1 (v4.map lq)]) (And.intro (aI.cell rfl rfl TT.dW (fP (aD (A:=[pI (x_11.bf), .d (.slice ((x_11.av).map U)),pS (x_11.az)]) (b:=16) rfl (aq _) rfl) (Nat.succ_pos _))) (And.intro (aI.tmp rfl) trivial)) (by simp only [PV.dj,PV.ej,iJ,cH,Option.bind_some,Option.map_some,cNode]<;>rfl) rfl
noncomputable def qP (t0:Tree):Option Bool:=
  some ((t0.fp).isNil)
theorem At (t0:Tree) (r:Bool) (h:qP t0=some r):bI Tryz.prog 9 [.agg (dz t0)] (.val (.bool r)):=by
 refine bI.aU Tryz.func9 rfl (by simp [Tryz.ntmps9]) ?_
 rw [Tryz.ntmps9,TT.Xr]
 refine QW.view (s':=⟨aG [(0, .d (.agg (dz t0)))],aj [],0,[]⟩) (View.init (by rfl)) zL ?_
 unfold qP at h
 refine sR ?_
 refine XK.fz (some 1) rfl rfl (fl (ds:=dz t0) rfl rfl rfl rfl rfl ?_)
 refine xz 2 (pB false) ?_
 refine sR ?_
 refine xs 3 rfl (aO rfl TT.jI (by decide) rfl ?_)
 refine xs 4 rfl (aC (d:=af (t0.fp)) rfl TT.ic rfl (c8.one) ?_)
 refine xs 5 rfl (z9 rfl TT.rD rfl rfl ?_)
 refine xz 2 (pB ((t0.fp).isNil)) ?_
 refine QW.ret zL ?_
 obtain rfl:=sO h
 exact Ends.one (.inr rfl) rfl (aI.tmp rfl) rfl rfl
end Go.Proofs.YtlfjfoknbjcncaaGreat.K
namespace Go.Proofs.YtlfjfoknbjcncaaGreat.K
open Go Go.RowKit
set_option linter.unusedSimpArgs false
set_option linter.unusedVariables false
set_option maxRecDepth 20000
set_option maxHeartbeats 4000000
namespace TT
theorem Vm:Tryz.f34.results.toList=[.tmp 2]:=rfl
theorem Vn:Tryz.f60.results.toList=[.tmp 4]:=rfl
theorem Vo:Tryz.f84.results.toList=[.tmp 4]:=rfl
theorem Vp:Tryz.f85.results.toList=[.tmp 4]:=rfl
theorem Hg:mz Tryz.prog 28=none:=by kernel_rfl
end TT
inductive xL where
 | S
 | L1 (v3:(List UInt8)) (v4:Int)
noncomputable def kg (k0:(aE 32 UInt8)):xL→Option (xL⊕(List UInt8))
 | .S=>
  some (.inl (.L1 ([]:(List UInt8)) (0)))
 | .L1 v3 v4=>
  (bif (decide (v4<(64:Int))) then
  gO ((2:Int)≠0∧bw (v4.tdiv (2:Int))) (
  gO (0≤(v4.tdiv (2:Int))∧(v4.tdiv (2:Int))<((32:Nat):Int)) (
  (((bif (decide ((v4.tmod (2:Int))=(0:Int))) then
  some ((idx k0.1 (v4.tdiv (2:Int)))/(16:UInt8))
  else
  some (idx k0.1 (v4.tdiv (2:Int)))):Option UInt8).bind fun (sM:UInt8)=>
  gO ((v3.length+([(sM%(16:UInt8))]:List UInt8).length)*1≤140737488355328) (
  gO (bw (v4+(1:Int))) (
  some (.inl (.L1 (v3++([(sM%(16:UInt8))]:List UInt8)) (v4+(1:Int)))))))))
  else
  some (.inr v3))
noncomputable def xM (k0:(aE 32 UInt8)):Option (List UInt8):=g9 (kg k0) .S
theorem Fw (k0:(aE 32 UInt8)) (r:(List UInt8)) (h:xM k0=some r):bI Tryz.prog 34 [.agg (k0.1.map U)] (.slice (r.map U)):=by
 refine bI.aU Tryz.func34 rfl (by simp [Tryz.ntmps34]) ?_
 rw [Tryz.ntmps34,TT.Vm]
 refine QW.view (s':=⟨aG [(0, .d (.agg (k0.1.map U)))],aj [],0,[]⟩) (View.init (by rfl)) zL ?_
 replace h:=cL h
 obtain ⟨_,h⟩:=h
 obtain ⟨dm,rfl,h9⟩:=aQ h;replace h:=h9;clear h9;rw [kg] at h
 refine sR ?_
 refine XK.fz (some 1) rfl rfl (fl (ds:=k0.1.map U) rfl rfl rfl rfl cH ?_)
 refine xz 2 (.full (([]:(List UInt8)).map U)) ?_
 refine sR ?_
 refine xz 3 (.full (([]:(List UInt8)).map U)) ?_
 refine QW.seq ?_
 refine sR ?_
 refine xz 4 (pI (0)) ?_
 refine QW.block ?_
 refine QW.loop (fun k σ=>∃ v3:(List UInt8),∃ v4:Int,k≤dm∧run (kg k0) k (.L1 v3 v4)=some r∧σ=⟨aG [(1, .d (.cA (k0.1.map U))),(3, .own 0 (v3.map U)),(4,pI v4)],aj [.spare 1 v3.length],1,[]⟩) dm zL ⟨⟨aG [(1, .d (.cA (k0.1.map U))),(3, .own 0 (([]:(List UInt8)).map U)),(4,pI (0))],aj [.spare 1 ([]:(List UInt8)).length],1,[]⟩,View.trans (View.buf 3 1 rfl zL) (View.mk 1 [0] _ _ _ rfl rfl (by decide) (iC (iC (iC trivial))) (And.intro rfl trivial) rfl zL rfl),([]:(List UInt8)),0,Nat.le_refl _,jG h,rfl⟩ ?_
 rintro rO _ ⟨v3,v4,rP,h,rfl⟩
 obtain ⟨k_1,rfl,h9⟩:=aQ h;replace h:=h9;clear h9;rw [kg] at h
 refine QW.seq ?_
 refine sR ?_
 refine xm 6 (pI v4) ?_
 refine xs 7 rfl (cJ (a:=v4) (b:=(64:Int)) rfl rfl rfl ?_)
 refine XK.nz ?_
 refine QW.cond (t:=(decide (v4<(64:Int)))) rfl zL (fun cB=>?_) (fun cB=>?_)
 ·replace h:=fF h cB
  refine QW.skip zL (aX ?_)
  refine QW.seq ?_
  refine QW.block ?_
  refine sR ?_
  refine xm 10 (pI v4) ?_
  obtain ⟨dS,h⟩:=gG h
  refine xs 11 rfl (FH (a:=v4) (b:=(2:Int)) rfl rfl rfl dS ?_)
  obtain ⟨mH,h⟩:=gG h
  refine xs 12 rfl (mF (i:=(v4.tdiv (2:Int))) rfl TT.Hg TT.Dd rfl rfl mH ?_)
  refine xs 13 rfl (aC (d:= .val (.int .u8 ((idx k0.1 (v4.tdiv (2:Int))).toNat:Int))) rfl TT.jx rfl (ov (Pre.all _) mH) ?_)
  refine xz 5 (.d (.val (.int .u8 ((idx k0.1 (v4.tdiv (2:Int))).toNat:Int)))) ?_
  obtain ⟨sM,hq,h⟩:=bG h
  refine QW.qY (fun s'=>s'=⟨aG [(1, .d (.cA (k0.1.map U))),(3, .own 0 (v3.map U)),(4,pI v4),(5, .d (.val (.int .u8 (sM.toNat:Int))))],aj [.spare 1 v3.length],1,[]⟩) ?_ ?_
  ·replace h:=hq;clear hq
   refine sR ?_
   refine xm 14 (pI v4) ?_
   refine xs 15 rfl (uT (a:=v4) (b:=(2:Int)) rfl rfl rfl (by decide) ?_)
   refine xs 16 rfl (eF (a:=(v4.tmod (2:Int))) (b:=(0:Int)) rfl rfl rfl ?_)
   refine XK.nz ?_
   refine QW.cond (t:=(decide ((v4.tmod (2:Int))=(0:Int)))) rfl zL (fun jH=>?_) (fun jH=>?_)
   ·replace h:=bT h jH
    refine rG ?_
    refine xm 17 (.d (.val (.int .u8 ((idx k0.1 (v4.tdiv (2:Int))).toNat:Int)))) ?_
    refine xs 18 rfl (P2 (p:=(idx k0.1 (v4.tdiv (2:Int)))) (q:=(16:UInt8)) rfl rfl rfl (by decide) ?_)
    refine xz 5 (.d (.val (.int .u8 (((idx k0.1 (v4.tdiv (2:Int)))/(16:UInt8)).toNat:Int)))) ?_
    obtain rfl:=sO h
    exact ⟨⟨aG [(1, .d (.cA (k0.1.map U))),(3, .own 0 (v3.map U)),(4,pI v4),(5, .d (.val (.int .u8 (((idx k0.1 (v4.tdiv (2:Int)))/(16:UInt8)).toNat:Int))))],aj [.spare 1 v3.length],1,[]⟩,View.mk 1 [0] _ _ _ rfl rfl (by decide) (iC (iC (iC (iC trivial)))) (And.intro rfl trivial) rfl zL rfl,rfl⟩
   ·replace h:=bF h jH
    refine QW.skip zL (aX ?_)
    obtain rfl:=sO h
    exact ⟨⟨aG [(1, .d (.cA (k0.1.map U))),(3, .own 0 (v3.map U)),(4,pI v4),(5, .d (.val (.int .u8 ((idx k0.1 (v4.tdiv (2:Int))).toNat:Int))))],aj [.spare 1 v3.length],1,[]⟩,View.mk 1 [0] _ _ _ rfl rfl (by decide) (iC (iC (iC (iC trivial)))) (And.intro rfl trivial) rfl zL rfl,rfl⟩
  ·rintro _ rfl
   refine rG ?_
   refine xm 19 (.own 0 (v3.map U)) ?_
   refine xm 20 (.d (.val (.int .u8 (sM.toNat:Int)))) ?_
   refine xs 21 rfl (D6 (p:=sM) (q:=(16:UInt8)) rfl rfl rfl (by decide) ?_)
   refine xs 22 rfl (ef (en:=U) (l:=([(sM%(16:UInt8))]:List UInt8)) rfl TT.e8 bx rfl rfl (by decide) (by simp [dw,cU,aB,dQ,PV.cz,cx,aG,jA,iU,jX,bU,Value.oneCell']) ?_)
   obtain ⟨mJ,h⟩:=gG h
   refine xs 23 rfl (iY (en:=U) (l:=v3) (l2:=([(sM%(16:UInt8))]:List UInt8)) rfl TT.e8 TT.bA rfl bx rfl rfl rfl mJ (by decide) ?_)
   refine xa 3 (.own 1 ((v3++([(sM%(16:UInt8))]:List UInt8)).map U)) ?_
   refine XK.nil (g6 (aX ?_))
   refine rG ?_
   refine xm 8 (pI v4) ?_
   obtain ⟨lQ,h⟩:=gG h
   refine xs 9 rfl (bX (a:=v4) (b:=(1:Int)) rfl rfl rfl lQ ?_)
   refine xz 4 (pI (v4+(1:Int))) ?_
   exact ⟨k_1,by omega,⟨aG [(1, .d (.cA (k0.1.map U))),(3, .own 0 ((v3++([(sM%(16:UInt8))]:List UInt8)).map U)),(4,pI (v4+(1:Int)))],aj [.spare 1 (v3++([(sM%(16:UInt8))]:List UInt8)).length],1,[]⟩,View.mk 1 [1] _ _ _ rfl rfl (by decide) (iC (iC (iC trivial))) (And.intro rfl trivial) rfl zL rfl,(v3++([(sM%(16:UInt8))]:List UInt8)),(v4+(1:Int)),by omega,jG h,rfl⟩
 ·replace h:=fG h cB
  refine QW.exit zL (eD (eD (j3 (aX ?_))))
  refine sR ?_
  refine xm 24 (.own 0 (v3.map U)) ?_
  refine xz 2 (.own 0 (v3.map U)) ?_
  refine QW.ret zL ?_
  obtain rfl:=sG h
  exact Ends.one (.inr rfl) rfl (aI.tmp rfl) rfl rfl
inductive zG where
 | S
 | L1 (v5:Int)
noncomputable def fR (a0:(List UInt8)) (b1:(List UInt8)):zG→Option (zG⊕Int)
 | .S=>
  some (.inl (.L1 (0)))
 | .L1 v5=>
  (bif (decide (v5<(a0.length:Int))) then
  gO ((decide ((b1.length:Int)≤v5))=false→0≤v5∧v5<(a0.length:Int)) (
  gO ((decide ((b1.length:Int)≤v5))=false→0≤v5∧v5<(b1.length:Int)) (
  (bif ((decide ((b1.length:Int)≤v5))||(!decide (((idx a0 v5).toNat:Int)=((idx b1 v5).toNat:Int)))) then
  some (.inr v5)
  else
  gO (bw (v5+(1:Int))) (
  some (.inl (.L1 (v5+(1:Int))))))))
  else
  some (.inr (a0.length:Int)))
noncomputable def ur (a0:(List UInt8)) (b1:(List UInt8)):Option Int:=g9 (fR a0 b1) .S
theorem Dq (a0:(List UInt8)) (b1:(List UInt8)) (r:Int) (h:ur a0 b1=some r):bI Tryz.prog 85 [.slice (a0.map U), .slice (b1.map U)] (.val (.int .i64 r)):=by
 refine bI.aU Tryz.func85 rfl (by simp [Tryz.ntmps85]) ?_
 rw [Tryz.ntmps85,TT.Vp]
 refine QW.view (s':=⟨aG [(0, .d (.slice (a0.map U))),(1, .d (.slice (b1.map U)))],aj [],0,[]⟩) (View.init (by rfl)) zL ?_
 replace h:=cL h
 obtain ⟨_,h⟩:=h
 obtain ⟨dm,rfl,h9⟩:=aQ h;replace h:=h9;clear h9;rw [fR] at h
 refine sR ?_
 refine xz 4 (pI (0)) ?_
 refine QW.seq ?_
 refine sR ?_
 refine xz 5 (pI (0)) ?_
 refine QW.block ?_
 refine QW.loop (fun k σ=>∃ v5:Int,k≤dm∧run (fR a0 b1) k (.L1 v5)=some r∧σ=⟨aG [(0, .d (.slice (a0.map U))),(1, .d (.slice (b1.map U))),(5,pI v5)],aj [],0,[]⟩) dm zL ⟨⟨aG [(0, .d (.slice (a0.map U))),(1, .d (.slice (b1.map U))),(5,pI (0))],aj [],0,[]⟩,View.mk 0 [] _ _ _ rfl rfl (by decide) (iC (iC (iC trivial))) trivial rfl zL rfl,0,Nat.le_refl _,jG h,rfl⟩ ?_
 rintro rO _ ⟨v5,rP,h,rfl⟩
 obtain ⟨k_1,rfl,h9⟩:=aQ h;replace h:=h9;clear h9;rw [fR] at h
 refine QW.seq ?_
 refine sR ?_
 refine xm 6 (pI v5) ?_
 refine xm 7 (.d (.slice (a0.map U))) ?_
 refine xs 8 rfl (cM (en:=U) (l:=a0) rfl TT.bA rfl ?_)
 refine xs 9 rfl (cJ (a:=v5) (b:=(a0.length:Int)) rfl rfl rfl ?_)
 refine XK.nz ?_
 refine QW.cond (t:=(decide (v5<(a0.length:Int)))) rfl zL (fun cB=>?_) (fun cB=>?_)
 ·replace h:=fF h cB
  refine QW.skip zL (aX ?_)
  refine QW.seq ?_
  refine QW.block ?_
  refine QW.seq ?_
  refine QW.region zL (PW.kX (id:=4) dc (M:=_) rfl (by kernel_rfl) ?_)
  refine RQ.st (some 12) rfl rfl (au (v:=pI v5) rfl rfl ⟨⟨rfl,rfl⟩,?_⟩)
  refine RQ.st (some 13) rfl rfl (au (v:= .d (.slice (b1.map U))) rfl rfl ⟨⟨rfl,rfl⟩,?_⟩)
  refine RQ.st (some 14) rfl rfl (cM (en:=U) (l:=b1) rfl TT.bA rfl ⟨⟨rfl,rfl⟩,?_⟩)
  refine RQ.st (some 15) rfl rfl (uU (a:=v5) (b:=(b1.length:Int)) rfl rfl rfl ⟨⟨rfl,rfl⟩,?_⟩)
  refine RQ.st (some 16) rfl rfl (au (v:=pB (decide ((b1.length:Int)≤v5))) rfl rfl ⟨⟨rfl,rfl⟩,?_⟩)
  refine RQ.gd (v:= .d (.slice (a0.map U))) (T:=[]) (some 17) rfl rfl (by repeat (first | exact trivial | refine ⟨fun q=>by first | rfl | exact q | exact jC q | exact jY q,?_⟩)) (fun hg=>au (v:= .d (.slice (a0.map U))) rfl rfl g3) lp ?_
  refine RQ.gd (v:=pI v5) (T:=[]) (some 18) rfl rfl (by repeat (first | exact trivial | refine ⟨fun q=>by first | rfl | exact q | exact jC q | exact jY q,?_⟩)) (fun hg=>au (v:=pI v5) rfl rfl g3) lp ?_
  obtain ⟨dS,h⟩:=gG h
  refine RQ.gd (v:= .d (.cA ([.val (.int .u8 ((idx a0 v5).toNat:Int))]))) (T:=[]) (some 19) rfl rfl (by repeat (first | exact trivial | refine ⟨fun q=>by first | rfl | exact q | exact jC q | exact jY q,?_⟩)) (fun hg=>bC (l:=a0) (i:=v5) rfl TT.ek bx rfl rfl (dS (Fp hg)) g3) lp ?_
  refine RQ.gd (v:= .d (.val (.int .u8 ((idx a0 v5).toNat:Int)))) (T:=[]) (some 20) rfl rfl (by repeat (first | exact trivial | refine ⟨fun q=>by first | rfl | exact q | exact jC q | exact jY q,?_⟩)) (fun hg=>aC (d:= .val (.int .u8 ((idx a0 v5).toNat:Int))) rfl TT.jx rfl (c8.one) g3) lp ?_
  refine RQ.gd (v:= .d (.slice (b1.map U))) (T:=[]) (some 21) rfl rfl (by repeat (first | exact trivial | refine ⟨fun q=>by first | rfl | exact q | exact jC q | exact jY q,?_⟩)) (fun hg=>au (v:= .d (.slice (b1.map U))) rfl rfl g3) lp ?_
  refine RQ.gd (v:=pI v5) (T:=[]) (some 22) rfl rfl (by repeat (first | exact trivial | refine ⟨fun q=>by first | rfl | exact q | exact jC q | exact jY q,?_⟩)) (fun hg=>au (v:=pI v5) rfl rfl g3) lp ?_
  obtain ⟨mH,h⟩:=gG h
  refine RQ.gd (v:= .d (.cA ([.val (.int .u8 ((idx b1 v5).toNat:Int))]))) (T:=[]) (some 23) rfl rfl (by repeat (first | exact trivial | refine ⟨fun q=>by first | rfl | exact q | exact jC q | exact jY q,?_⟩)) (fun hg=>bC (l:=b1) (i:=v5) rfl TT.ek bx rfl rfl (mH (Fp hg)) g3) lp ?_
  refine RQ.gd (v:= .d (.val (.int .u8 ((idx b1 v5).toNat:Int)))) (T:=[]) (some 24) rfl rfl (by repeat (first | exact trivial | refine ⟨fun q=>by first | rfl | exact q | exact jC q | exact jY q,?_⟩)) (fun hg=>aC (d:= .val (.int .u8 ((idx b1 v5).toNat:Int))) rfl TT.jx rfl (c8.one) g3) lp ?_
  refine RQ.gd (v:=pB (!decide (((idx a0 v5).toNat:Int)=((idx b1 v5).toNat:Int)))) (T:=[]) (some 25) rfl rfl (by repeat (first | exact trivial | refine ⟨fun q=>by first | rfl | exact q | exact jC q | exact jY q,?_⟩)) (fun hg=>qA (a:=((idx a0 v5).toNat:Int)) (b:=((idx b1 v5).toNat:Int)) rfl rfl rfl g3) lp ?_
  refine RQ.st (some 26) rfl rfl (jt rfl rfl rfl rfl (fun _=>rfl) (fun hb=>by rw [hb];rfl) ⟨⟨rfl,rfl⟩,?_⟩)
  refine RQ.nil (aX ?_)
  refine QW.cond (t:=((decide ((b1.length:Int)≤v5))||(!decide (((idx a0 v5).toNat:Int)=((idx b1 v5).toNat:Int))))) rfl zL (fun jH=>?_) (fun jH=>?_)
  ·replace h:=fF h jH
   refine sR ?_
   refine xm 27 (pI v5) ?_
   refine xz 4 (pI v5) ?_
   refine QW.ret zL (sZ (gm (gm (sZ (gm ?_)))))
   obtain rfl:=sG h
   exact Ends.one (.inr rfl) rfl (aI.tmp rfl) rfl rfl
  ·replace h:=fG h jH
   refine QW.skip zL (g6 (aX ?_))
   refine rG ?_
   refine xm 10 (pI v5) ?_
   obtain ⟨mJ,h⟩:=gG h
   refine xs 11 rfl (bX (a:=v5) (b:=(1:Int)) rfl rfl rfl mJ ?_)
   refine xz 5 (pI (v5+(1:Int))) ?_
   exact ⟨k_1,by omega,⟨aG [(0, .d (.slice (a0.map U))),(1, .d (.slice (b1.map U))),(5,pI (v5+(1:Int)))],aj [],0,[]⟩,View.mk 0 [] _ _ _ rfl rfl (by decide) (iC (iC (iC trivial))) trivial rfl zL rfl,(v5+(1:Int)),by omega,jG h,rfl⟩
 ·replace h:=fG h cB
  refine QW.exit zL (eD (eD (j3 (aX ?_))))
  refine sR ?_
  refine xm 28 (.d (.slice (a0.map U))) ?_
  refine xs 29 rfl (cM (en:=U) (l:=a0) rfl TT.bA rfl ?_)
  refine xz 4 (pI (a0.length:Int)) ?_
  refine QW.ret zL ?_
  obtain rfl:=sG h
  exact Ends.one (.inr rfl) rfl (aI.tmp rfl) rfl rfl
noncomputable def r7 (a0:Int) (b1:Int):Option Int:=
  (bif (decide (a0<b1)) then
  some a0
  else
  some b1)
theorem Hh (a0:Int) (b1:Int) (r:Int) (h:r7 a0 b1=some r):bI Tryz.prog 84 [.val (.int .i64 a0), .val (.int .i64 b1)] (.val (.int .i64 r)):=by
 refine bI.aU Tryz.func84 rfl (by simp [Tryz.ntmps84]) ?_
 rw [Tryz.ntmps84,TT.Vo]
 refine QW.view (s':=⟨aG [(0,pI a0),(1,pI b1)],aj [],0,[]⟩) (View.init (by rfl)) zL ?_
 unfold r7 at h
 refine sR ?_
 refine xz 4 (pI (0)) ?_
 refine QW.seq ?_
 refine sR ?_
 refine xm 5 (pI a0) ?_
 refine xm 6 (pI b1) ?_
 refine xs 7 rfl (cJ (a:=a0) (b:=b1) rfl rfl rfl ?_)
 refine XK.nz ?_
 refine QW.cond (t:=(decide (a0<b1))) rfl zL (fun dh=>?_) (fun dh=>?_)
 ·replace h:=bT h dh
  refine sR ?_
  refine xm 8 (pI a0) ?_
  refine xz 4 (pI a0) ?_
  refine QW.ret zL (gm ?_)
  obtain rfl:=sO h
  exact Ends.one (.inr rfl) rfl (aI.tmp rfl) rfl rfl
 ·replace h:=bF h dh
  refine QW.skip zL (aX ?_)
  refine sR ?_
  refine xm 9 (pI b1) ?_
  refine xz 4 (pI b1) ?_
  refine QW.ret zL ?_
  obtain rfl:=sO h
  exact Ends.one (.inr rfl) rfl (aI.tmp rfl) rfl rfl
inductive BN where
 | S
 | L3 (lF:(List UInt8)) (gR:Int)
noncomputable def gj (p0:(List UInt8)) (om:Bool):BN→Option (BN⊕(List UInt8))
 | .S=>
  (((bif om then
  some (32)
  else
  some (0)):Option Int).bind fun (v5:Int)=>
  (((bif (decide (((p0.length:Int).tmod (2:Int))=(1:Int))) then
  gO (bw (v5+(16:Int))) (
  gO (0≤(0:Int)∧(0:Int)<(p0.length:Int)) (
  gO (bw ((v5+(16:Int))+((idx p0 (0:Int)).toNat:Int))) (
  some (((v5+(16:Int))+((idx p0 (0:Int)).toNat:Int)),1))))
  else
  some (v5,0)):Option (Int×Int)).bind fun (bJ,v6)=>
  some (.inl (.L3 ([(gf bJ)]:List UInt8) v6))))
 | .L3 lF gR=>
  (bif (decide (gR<(p0.length:Int))) then
  gO (0≤gR∧gR<(p0.length:Int)) (
  gO (bw (gR+(1:Int))) (
  gO (0≤(gR+(1:Int))∧(gR+(1:Int))<(p0.length:Int)) (
  gO (lF.length+([(((16:UInt8)*(idx p0 gR))+(idx p0 (gR+(1:Int))))]:List UInt8).length≤9223372036854775807) (
  gO (bw (gR+(2:Int))) (
  some (.inl (.L3 (lF++([(((16:UInt8)*(idx p0 gR))+(idx p0 (gR+(1:Int))))]:List UInt8)) (gR+(2:Int)))))))))
  else
  some (.inr lF))
noncomputable def tB (p0:(List UInt8)) (om:Bool):Option (List UInt8):=g9 (gj p0 om) .S
theorem zH (p0:(List UInt8)) (om:Bool) (r:(List UInt8)) (h:tB p0 om=some r):bI Tryz.prog 60 [.slice (p0.map U), .val (.bool om)] (.val (sV r)):=by
 refine bI.aU Tryz.func60 rfl (by simp [Tryz.ntmps60]) ?_
 rw [Tryz.ntmps60,TT.Vn]
 refine QW.view (s':=⟨aG [(0, .d (.slice (p0.map U))),(1,pB om)],aj [],0,[]⟩) (View.init (by rfl)) zL ?_
 replace h:=cL h
 obtain ⟨_,h⟩:=h
 obtain ⟨dm,rfl,h9⟩:=aQ h;replace h:=h9;clear h9;rw [gj] at h
 refine sR ?_
 refine xz 4 (pS ([]:List UInt8)) ?_
 refine sR ?_
 refine xz 5 (pI (0)) ?_
 obtain ⟨v5,hq,h⟩:=bG h
 refine QW.qY (fun s'=>s'=⟨aG [(0, .d (.slice (p0.map U))),(5,pI v5)],aj [],0,[]⟩) ?_ ?_
 ·replace h:=hq;clear hq
  refine sR ?_
  refine xm 9 (pB om) ?_
  refine XK.nz ?_
  refine QW.cond (t:=om) rfl zL (fun dh=>?_) (fun dh=>?_)
  ·replace h:=bT h dh
   refine rG ?_
   refine xz 5 (pI (32)) ?_
   obtain rfl:=sO h
   exact ⟨⟨aG [(0, .d (.slice (p0.map U))),(5,pI (32))],aj [],0,[]⟩,View.mk 0 [] _ _ _ rfl rfl (by decide) (iC (iC trivial)) trivial rfl zL rfl,rfl⟩
  ·replace h:=bF h dh
   refine QW.skip zL (aX ?_)
   obtain rfl:=sO h
   exact ⟨⟨aG [(0, .d (.slice (p0.map U))),(5,pI (0))],aj [],0,[]⟩,View.mk 0 [] _ _ _ rfl rfl (by decide) (iC (iC trivial)) trivial rfl zL rfl,rfl⟩
 ·rintro _ rfl
  refine sR ?_
  refine xz 6 (pI (0)) ?_
  obtain ⟨⟨bJ,v6⟩,hq,h⟩:=bG h
  refine QW.qY (fun s'=>s'=⟨aG [(0, .d (.slice (p0.map U))),(5,pI bJ),(6,pI v6)],aj [],0,[]⟩) ?_ ?_
  ·replace h:=hq;clear hq
   refine sR ?_
   refine xm 10 (.d (.slice (p0.map U))) ?_
   refine xs 11 rfl (cM (en:=U) (l:=p0) rfl TT.bA rfl ?_)
   refine xs 12 rfl (uT (a:=(p0.length:Int)) (b:=(2:Int)) rfl rfl rfl (by decide) ?_)
   refine xs 13 rfl (eF (a:=((p0.length:Int).tmod (2:Int))) (b:=(1:Int)) rfl rfl rfl ?_)
   refine XK.nz ?_
   refine QW.cond (t:=(decide (((p0.length:Int).tmod (2:Int))=(1:Int)))) rfl zL (fun cB=>?_) (fun cB=>?_)
   ·replace h:=bT h cB
    refine sR ?_
    refine xm 14 (pI v5) ?_
    obtain ⟨dS,h⟩:=bk h
    refine xs 15 rfl (bX (a:=v5) (b:=(16:Int)) rfl rfl rfl dS ?_)
    refine xm 16 (.d (.slice (p0.map U))) ?_
    obtain ⟨mH,h⟩:=bk h
    refine xs 17 rfl (bC (l:=p0) (i:=(0:Int)) rfl TT.ek bx rfl rfl mH ?_)
    refine xs 18 rfl (aC (d:= .val (.int .u8 ((idx p0 (0:Int)).toNat:Int))) rfl TT.jx rfl (c8.one) ?_)
    refine xs 19 rfl (AU (n:=((idx p0 (0:Int)).toNat:Int)) rfl TT.dR TT.kC rfl (AW _) ?_)
    obtain ⟨nU,h⟩:=bk h
    refine xs 20 rfl (bX (a:=(v5+(16:Int))) (b:=((idx p0 (0:Int)).toNat:Int)) rfl rfl rfl nU ?_)
    refine xz 5 (pI ((v5+(16:Int))+((idx p0 (0:Int)).toNat:Int))) ?_
    refine rG ?_
    refine xz 6 (pI (1)) ?_
    simp only [Option.some.injEq,Prod.mk.injEq] at h
    obtain ⟨rfl,rfl⟩:=h
    exact ⟨⟨aG [(0, .d (.slice (p0.map U))),(5,pI ((v5+(16:Int))+((idx p0 (0:Int)).toNat:Int))),(6,pI (1))],aj [],0,[]⟩,View.mk 0 [] _ _ _ rfl rfl (by decide) (iC (iC (iC trivial))) trivial rfl zL rfl,rfl⟩
   ·replace h:=bF h cB
    refine QW.skip zL (aX ?_)
    simp only [Option.some.injEq,Prod.mk.injEq] at h
    obtain ⟨rfl,rfl⟩:=h
    exact ⟨⟨aG [(0, .d (.slice (p0.map U))),(5,pI v5),(6,pI (0))],aj [],0,[]⟩,View.mk 0 [] _ _ _ rfl rfl (by decide) (iC (iC (iC trivial))) trivial rfl zL rfl,rfl⟩
  ·rintro _ rfl
   refine sR ?_
   refine xm 21 (pI bJ) ?_
   refine xs 22 rfl (n6 (n:=bJ) rfl TT.kC TT.dR rfl ?_)
   refine xs 23 rfl (ef (en:=U) (l:=([(gf bJ)]:List UInt8)) rfl TT.e8 bx rfl rfl (by decide) (by simp [dw,cU,aB,dQ,PV.cz,cx,aG,jA,iU,jX,bU,Value.oneCell']) ?_)
   refine xs 24 rfl (nS (l:=([(gf bJ)]:List UInt8)) rfl TT.bA TT.dR TT.bY rfl ?_)
   refine xz 7 (pS ([(gf bJ)]:List UInt8)) ?_
   refine QW.seq ?_
   refine sR ?_
   refine xm 25 (pI v6) ?_
   refine xz 8 (pI v6) ?_
   refine QW.block ?_
   refine QW.loop (fun k σ=>∃ lF:(List UInt8),∃ gR:Int,k≤dm∧run (gj p0 om) k (.L3 lF gR)=some r∧σ=⟨aG [(0, .d (.slice (p0.map U))),(7,pS lF),(8,pI gR)],aj [],0,[]⟩) dm zL ⟨⟨aG [(0, .d (.slice (p0.map U))),(7,pS ([(gf bJ)]:List UInt8)),(8,pI v6)],aj [],0,[]⟩,View.mk 0 [] _ _ _ rfl rfl (by decide) (iC (iC (iC trivial))) trivial rfl zL rfl,([(gf bJ)]:List UInt8),v6,Nat.le_refl _,jG h,rfl⟩ ?_
   rintro Y3 _ ⟨lF,gR,Y4,h,rfl⟩
   obtain ⟨Xu,rfl,h9⟩:=aQ h;replace h:=h9;clear h9;rw [gj] at h
   refine QW.seq ?_
   refine sR ?_
   refine xm 26 (pI gR) ?_
   refine xm 27 (.d (.slice (p0.map U))) ?_
   refine xs 28 rfl (cM (en:=U) (l:=p0) rfl TT.bA rfl ?_)
   refine xs 29 rfl (cJ (a:=gR) (b:=(p0.length:Int)) rfl rfl rfl ?_)
   refine XK.nz ?_
   refine QW.cond (t:=(decide (gR<(p0.length:Int)))) rfl zL (fun rV=>?_) (fun rV=>?_)
   ·replace h:=fF h rV
    refine QW.skip zL (aX ?_)
    refine QW.seq ?_
    refine QW.block ?_
    refine QW.region zL (PW.kX (id:=12) dc (M:=_) rfl (by kernel_rfl) ?_)
    refine RQ.st (some 32) rfl rfl (au (v:=pS lF) rfl rfl ⟨⟨rfl,rfl⟩,?_⟩)
    refine RQ.st (some 33) rfl rfl (au (v:= .d (.slice (p0.map U))) rfl rfl ⟨⟨rfl,rfl⟩,?_⟩)
    refine RQ.st (some 34) rfl rfl (au (v:=pI gR) rfl rfl ⟨⟨rfl,rfl⟩,?_⟩)
    obtain ⟨p5,h⟩:=gG h
    refine RQ.st (some 35) rfl rfl (bC (l:=p0) (i:=gR) rfl TT.ek bx rfl rfl p5 ⟨⟨rfl,rfl⟩,?_⟩)
    refine RQ.st (some 36) rfl rfl (aC (d:= .val (.int .u8 ((idx p0 gR).toNat:Int))) rfl TT.jx rfl (c8.one) ⟨⟨rfl,rfl⟩,?_⟩)
    refine RQ.st (some 37) rfl rfl (IY (p:=(16:UInt8)) (q:=(idx p0 gR)) rfl rfl rfl ⟨⟨rfl,rfl⟩,?_⟩)
    refine RQ.st (some 38) rfl rfl (au (v:= .d (.slice (p0.map U))) rfl rfl ⟨⟨rfl,rfl⟩,?_⟩)
    refine RQ.st (some 39) rfl rfl (au (v:=pI gR) rfl rfl ⟨⟨rfl,rfl⟩,?_⟩)
    obtain ⟨qG,h⟩:=gG h
    refine RQ.st (some 40) rfl rfl (bX (a:=gR) (b:=(1:Int)) rfl rfl rfl qG ⟨⟨rfl,rfl⟩,?_⟩)
    obtain ⟨ow,h⟩:=gG h
    refine RQ.st (some 41) rfl rfl (bC (l:=p0) (i:=(gR+(1:Int))) rfl TT.ek bx rfl rfl ow ⟨⟨rfl,rfl⟩,?_⟩)
    refine RQ.st (some 42) rfl rfl (aC (d:= .val (.int .u8 ((idx p0 (gR+(1:Int))).toNat:Int))) rfl TT.jx rfl (c8.one) ⟨⟨rfl,rfl⟩,?_⟩)
    refine RQ.st (some 43) rfl rfl (D5 (p:=((16:UInt8)*(idx p0 gR))) (q:=(idx p0 (gR+(1:Int)))) rfl rfl rfl ⟨⟨rfl,rfl⟩,?_⟩)
    refine RQ.st (some 44) rfl rfl (ef (en:=U) (l:=([(((16:UInt8)*(idx p0 gR))+(idx p0 (gR+(1:Int))))]:List UInt8)) rfl TT.e8 bx rfl rfl (by decide) (by simp [dw,cU,aB,dQ,PV.cz,cx,aG,jA,iU,jX,bU,Value.oneCell']) ⟨⟨rfl,rfl⟩,?_⟩)
    refine RQ.st (some 45) rfl rfl (nS (l:=([(((16:UInt8)*(idx p0 gR))+(idx p0 (gR+(1:Int))))]:List UInt8)) rfl TT.bA TT.dR TT.bY rfl ⟨⟨rfl,rfl⟩,?_⟩)
    obtain ⟨vH,h⟩:=gG h
    refine RQ.st (some 46) rfl rfl (lf (a:=lF) (b:=([(((16:UInt8)*(idx p0 gR))+(idx p0 (gR+(1:Int))))]:List UInt8)) rfl rfl rfl vH ⟨⟨rfl,rfl⟩,?_⟩)
    refine RQ.st (some 7) rfl rfl (cq (v:=pS (lF++([(((16:UInt8)*(idx p0 gR))+(idx p0 (gR+(1:Int))))]:List UInt8))) rfl rfl ⟨⟨rfl,rfl⟩,?_⟩)
    refine RQ.nil (g6 (aX ?_))
    refine QW.view (s':=⟨aG [(0, .d (.slice (p0.map U))),(7,pS (lF++([(((16:UInt8)*(idx p0 gR))+(idx p0 (gR+(1:Int))))]:List UInt8))),(8,pI gR)],aj [],0,[]⟩) (View.mk 0 [] _ _ _ rfl rfl (by decide) (iC (iC (iC trivial))) trivial rfl zL rfl) zL ?_
    refine rG ?_
    refine xm 30 (pI gR) ?_
    obtain ⟨m5,h⟩:=gG h
    refine xs 31 rfl (bX (a:=gR) (b:=(2:Int)) rfl rfl rfl m5 ?_)
    refine xz 8 (pI (gR+(2:Int))) ?_
    exact ⟨Xu,by omega,⟨aG [(0, .d (.slice (p0.map U))),(7,pS (lF++([(((16:UInt8)*(idx p0 gR))+(idx p0 (gR+(1:Int))))]:List UInt8))),(8,pI (gR+(2:Int)))],aj [],0,[]⟩,View.mk 0 [] _ _ _ rfl rfl (by decide) (iC (iC (iC trivial))) trivial rfl zL rfl,(lF++([(((16:UInt8)*(idx p0 gR))+(idx p0 (gR+(1:Int))))]:List UInt8)),(gR+(2:Int)),by omega,jG h,rfl⟩
   ·replace h:=fG h rV
    refine QW.exit zL (eD (eD (j3 (aX ?_))))
    refine sR ?_
    refine xm 47 (pS lF) ?_
    refine xz 4 (pS lF) ?_
    refine QW.ret zL ?_
    obtain rfl:=sG h
    exact Ends.one (.inr rfl) rfl (aI.tmp rfl) rfl rfl
end Go.Proofs.YtlfjfoknbjcncaaGreat.K
