/- Package tree: what it reckons. -/
import Derived.Test.YtlfjfoknbjcncaaGreatGG5
import Derived.KernelRfl
namespace Go.Proofs.YtlfjfoknbjcncaaGreat.K
open Go Go.RowKit
set_option linter.unusedSimpArgs false
set_option linter.unusedVariables false
set_option maxRecDepth 20000
set_option maxHeartbeats 4000000
namespace TT
theorem kM:mu Tryz.prog 73=some (16,1,false):=by kernel_rfl
theorem vU:pX Tryz.prog 25=some ([Value.pointer none], .inl [(0,1)]):=by kernel_rfl
theorem Mm:pX Tryz.prog 73=some ([Value.pointer none,Value.pointer none,Value.pointer none,Value.pointer none,Value.pointer none,Value.pointer none,Value.pointer none,Value.pointer none,Value.pointer none,Value.pointer none,Value.pointer none,Value.pointer none,Value.pointer none,Value.pointer none,Value.pointer none,Value.pointer none], .inr 1):=by kernel_rfl
theorem Di:pX Tryz.prog 75=some ([Value.int IntKind.i64 0,Value.slice none 0 0,Value.string ⟨#[]⟩,Value.pointer none,Value.pointer none,Value.pointer none,Value.pointer none,Value.pointer none,Value.pointer none,Value.pointer none,Value.pointer none,Value.pointer none,Value.pointer none,Value.pointer none,Value.pointer none,Value.pointer none,Value.pointer none,Value.pointer none,Value.pointer none,Value.string ⟨#[]⟩], .inl [(0,1),(1,1),(2,1),(3,16),(19,1)]):=by kernel_rfl
theorem G7:pX Tryz.prog 94=some ([], .inl []):=by kernel_rfl
theorem Cl:aN Tryz.prog 11=true:=by kernel_rfl
theorem G8:aN Tryz.prog 12=true:=by kernel_rfl
theorem vV:aN Tryz.prog 14=true:=by kernel_rfl
theorem Oq:aN Tryz.prog 19=true:=by kernel_rfl
theorem Cm:aN Tryz.prog 25=true:=by kernel_rfl
theorem Cn:aN Tryz.prog 26=true:=by kernel_rfl
theorem Co:aN Tryz.prog 27=true:=by kernel_rfl
theorem Cp:aN Tryz.prog 28=true:=by kernel_rfl
theorem Cq:aN Tryz.prog 29=true:=by kernel_rfl
theorem G9:aN Tryz.prog 31=true:=by kernel_rfl
theorem Ot:aN Tryz.prog 35=true:=by kernel_rfl
theorem He:aN Tryz.prog 44=true:=by kernel_rfl
theorem Ou:aN Tryz.prog 45=true:=by kernel_rfl
theorem Ov:aN Tryz.prog 46=true:=by kernel_rfl
theorem Hf:aN Tryz.prog 47=true:=by kernel_rfl
theorem vW:aN Tryz.prog 48=true:=by kernel_rfl
theorem Ow:aN Tryz.prog 49=true:=by kernel_rfl
theorem vX:aN Tryz.prog 50=true:=by kernel_rfl
theorem jH:lu Tryz.prog 25 0=some (0,1,false):=by kernel_rfl
theorem oX:lu Tryz.prog 43 0=some (0,32,true):=by kernel_rfl
theorem Cr:lu Tryz.prog 43 1=some (32,1,false):=by kernel_rfl
theorem lS:lu Tryz.prog 75 0=some (0,1,false):=by kernel_rfl
theorem jI:lu Tryz.prog 75 1=some (1,1,false):=by kernel_rfl
theorem y7:lu Tryz.prog 75 2=some (2,1,false):=by kernel_rfl
theorem jk:lu Tryz.prog 75 3=some (3,16,true):=by kernel_rfl
theorem Ox:lu Tryz.prog 75 4=some (19,1,false):=by kernel_rfl
theorem Au:vn Tryz.prog 94=true:=by kernel_rfl
theorem VD:Tryz.f11.results.toList=[.tmp 4, .cell 5 34]:=rfl
theorem VE:Tryz.f12.results.toList=[.cell 6 25, .cell 7 34]:=rfl
theorem VF:Tryz.f14.results.toList=[.tmp 2]:=rfl
theorem VG:Tryz.f18.results.toList=[.cell 2 25]:=rfl
theorem VH:Tryz.f19.results.toList=[.tmp 2]:=rfl
theorem VI:Tryz.f21.results.toList=[.cell 2 58, .tmp 3]:=rfl
theorem VJ:Tryz.f25.results.toList=[]:=rfl
theorem VK:Tryz.f26.results.toList=[.tmp 4]:=rfl
theorem VL:Tryz.f28.results.toList=[.tmp 4, .tmp 5]:=rfl
theorem VM:Tryz.f29.results.toList=[.tmp 6]:=rfl
theorem VN:Tryz.f31.results.toList=[.cell 2 58]:=rfl
theorem VO:Tryz.f44.results.toList=[.tmp 4]:=rfl
theorem VP:Tryz.f45.results.toList=[.tmp 2]:=rfl
theorem VQ:Tryz.f46.results.toList=[.tmp 4]:=rfl
theorem VR:Tryz.f48.results.toList=[.tmp 4]:=rfl
theorem VS:Tryz.f49.results.toList=[.tmp 8]:=rfl
theorem VT:Tryz.f50.results.toList=[.tmp 4]:=rfl
theorem XN:Tryz.f8.results.toList=[.cell 4 25, .cell 5 34]:=rfl
theorem XO:Tryz.f9.results.toList=[.tmp 2]:=rfl
theorem Mn:oE Tryz.prog 59=some (1,8):=by kernel_rfl
theorem oY:l6 Tryz.prog 26=some (33,48,true):=by kernel_rfl
theorem mH:l6 Tryz.prog 73=none:=by kernel_rfl
theorem hU:jC Tryz.prog 23=some (false,1):=by kernel_rfl
theorem fC:jC Tryz.prog 25=some (true,1):=by kernel_rfl
theorem Dj:jC Tryz.prog 43=some (true,33):=by kernel_rfl
theorem y8:jC Tryz.prog 73=some (true,16):=by kernel_rfl
theorem Px:jC Tryz.prog 75=some (true,20):=by kernel_rfl
theorem ry:Program.underlying Tryz.prog 23=some (.pointer 75):=by kernel_rfl
theorem nZ:Program.underlying Tryz.prog 26=some (.slice 43):=by kernel_rfl
theorem Js:Program.underlying Tryz.prog 59=some (.slice 25):=by kernel_rfl
theorem n4:lG Tryz.prog 25=some [Value.pointer none]:=by kernel_rfl
theorem QN:lG Tryz.prog 43=some [Value.int IntKind.u8 0,Value.int IntKind.u8 0,Value.int IntKind.u8 0,Value.int IntKind.u8 0,Value.int IntKind.u8 0,Value.int IntKind.u8 0,Value.int IntKind.u8 0,Value.int IntKind.u8 0,Value.int IntKind.u8 0,Value.int IntKind.u8 0,Value.int IntKind.u8 0,Value.int IntKind.u8 0,Value.int IntKind.u8 0,Value.int IntKind.u8 0,Value.int IntKind.u8 0,Value.int IntKind.u8 0,Value.int IntKind.u8 0,Value.int IntKind.u8 0,Value.int IntKind.u8 0,Value.int IntKind.u8 0,Value.int IntKind.u8 0,Value.int IntKind.u8 0,Value.int IntKind.u8 0,Value.int IntKind.u8 0,Value.int IntKind.u8 0,Value.int IntKind.u8 0,Value.int IntKind.u8 0,Value.int IntKind.u8 0,Value.int IntKind.u8 0,Value.int IntKind.u8 0,Value.int IntKind.u8 0,Value.int IntKind.u8 0,Value.string ⟨#[]⟩]:=by kernel_rfl
theorem QO:lG Tryz.prog 73=some [Value.pointer none,Value.pointer none,Value.pointer none,Value.pointer none,Value.pointer none,Value.pointer none,Value.pointer none,Value.pointer none,Value.pointer none,Value.pointer none,Value.pointer none,Value.pointer none,Value.pointer none,Value.pointer none,Value.pointer none,Value.pointer none]:=by kernel_rfl
theorem QS:lG Tryz.prog 75=some [Value.int IntKind.i64 0,Value.slice none 0 0,Value.string ⟨#[]⟩,Value.pointer none,Value.pointer none,Value.pointer none,Value.pointer none,Value.pointer none,Value.pointer none,Value.pointer none,Value.pointer none,Value.pointer none,Value.pointer none,Value.pointer none,Value.pointer none,Value.pointer none,Value.pointer none,Value.pointer none,Value.pointer none,Value.string ⟨#[]⟩]:=by kernel_rfl
end TT
set_option maxRecDepth 20000 in
theorem kz (e0:Int):x9 Tryz.prog 25 [.aK 0 0] [.var [pI e0]] none [.var [pI e0]]:=by
 refine x9.QE (r:= .tuple []) none Tryz.func25 rfl rfl rfl rfl rfl (by simp [Tryz.ntmps25]) (by simp [Tryz.ntmps25]) ?_
 rw [Tryz.ntmps25,TT.VJ]
 refine QW.view (s':=⟨aF [(0, .aK 0 0),(2, .d (.val .nilIface))],aj [.var [pI e0]],1,[]⟩) (View.mk 1 [0] _ _ _ rfl rfl (by decide) (iC (iC trivial)) (And.intro rfl trivial) rfl bL rfl) bL ?_
 refine QW.block ?_
 refine lJ ?_
 refine XK.pr (v:=pB true) (some 5) rfl rfl (Gy rfl TT.D8 rfl) ?_
 refine XK.nz ?_
 refine QW.Gi rfl ?_
 refine QW.skip bL (gC ?_)
 exact Ca.none (s':=⟨aF [],aj [.var [pI e0]],1,[]⟩) (.inl rfl) (View.mk 1 [0] _ _ _ rfl rfl (by decide) trivial (And.intro rfl trivial) rfl bL rfl) rfl rfl rfl
noncomputable def lq (eI:(List UInt8)) (iF:(List UInt8)):Option aa:=
  ((cV eI).bind fun (x_1:(List UInt8))=>
  some (aa.of (⟨1,x_1,iF,(aE.rep 16 aa.nil),([]:List UInt8)⟩:part)))
theorem oZ (eI:(List UInt8)) (iF:(List UInt8)) (r:aa) (h:lq eI iF=some r):bE Tryz.prog 48 [.slice (eI.map U), .val (sV iF)] (ah r):=by
 refine bE.aU Tryz.func48 rfl (by simp [Tryz.ntmps48]) ?_
 rw [Tryz.ntmps48,TT.VR]
 refine QW.view (s':=⟨aF [(0, .d (.slice (eI.map U))),(1,pS iF)],aj [],0,[]⟩) (View.init (by rfl)) zL ?_
 unfold lq at h
 refine sR ?_
 refine xz 4 (.d (ah (aa.nil))) ?_
 refine sR ?_
 refine xm 5 (.d (.slice (eI.map U))) ?_
 obtain ⟨x_1,fy,h⟩:=bO h
 refine xs 6 rfl (aA rfl rfl TT.vJ rfl (gV eI _ fy) ?_)
 refine xm 7 (pS iF) ?_
 refine xs 8 rfl (fk (v:= .agg (([pI (1), .d (.slice (x_1.map U)),pS iF])++((((aE.rep 16 aa.nil).1.map ah).map PV.d)++([pS ([]:List UInt8)])))) rfl TT.Di (dM rfl (cx (p:=pI (1)) (cells:=(([pI (0), .full (([]:(List UInt8)).map U),pS ([]:List UInt8)])++((((aE.rep 16 aa.nil).1.map ah).map PV.d)++([pS ([]:List UInt8)])))) (cells':=(([pI (1), .full (([]:(List UInt8)).map U),pS ([]:List UInt8)])++((((aE.rep 16 aa.nil).1.map ah).map PV.d)++([pS ([]:List UInt8)])))) rfl rfl rfl (bX (aD (A:=[pI (0), .full (([]:(List UInt8)).map U),pS ([]:List UInt8)]) (b:=17) rfl (aD (A:=((aE.rep 16 aa.nil).1.map ah).map PV.d) (b:=1) (aq _) rfl rfl) rfl) bL) (fq 0 (by first | exact Nat.le_of_ble_eq_true rfl | simp) rfl) (cx (p:= .d (.slice (x_1.map U))) (cells:=(([pI (1), .full (([]:(List UInt8)).map U),pS ([]:List UInt8)])++((((aE.rep 16 aa.nil).1.map ah).map PV.d)++([pS ([]:List UInt8)])))) (cells':=(([pI (1), .d (.slice (x_1.map U)),pS ([]:List UInt8)])++((((aE.rep 16 aa.nil).1.map ah).map PV.d)++([pS ([]:List UInt8)])))) rfl rfl rfl (bX (aD (A:=[pI (1), .full (([]:(List UInt8)).map U),pS ([]:List UInt8)]) (b:=17) rfl (aD (A:=((aE.rep 16 aa.nil).1.map ah).map PV.d) (b:=1) (aq _) rfl rfl) rfl) bL) (fq 1 (by first | exact Nat.le_of_ble_eq_true rfl | simp) rfl) (cx (p:=pS iF) (cells:=(([pI (1), .d (.slice (x_1.map U)),pS ([]:List UInt8)])++((((aE.rep 16 aa.nil).1.map ah).map PV.d)++([pS ([]:List UInt8)])))) (cells':=(([pI (1), .d (.slice (x_1.map U)),pS iF])++((((aE.rep 16 aa.nil).1.map ah).map PV.d)++([pS ([]:List UInt8)])))) rfl rfl rfl (bX (aD (A:=[pI (1), .d (.slice (x_1.map U)),pS ([]:List UInt8)]) (b:=17) rfl (aD (A:=((aE.rep 16 aa.nil).1.map ah).map PV.d) (b:=1) (aq _) rfl rfl) rfl) bL) (fq 2 (by first | exact Nat.le_of_ble_eq_true rfl | simp) rfl) dL)))) ?_)
 refine XK.fx (some 9) rfl rfl (eJ (ds:=ja (⟨1,x_1,iF,(aE.rep 16 aa.nil),([]:List UInt8)⟩:part)) rfl rfl rfl rfl (mj rfl (mj cA rfl)) ⟨_,iy.l5 (tQ (⟨1,x_1,iF,(aE.rep 16 aa.nil),([]:List UInt8)⟩:part)) rfl,?_⟩)
 refine xz 4 (.d (ah (aa.of (⟨1,x_1,iF,(aE.rep 16 aa.nil),([]:List UInt8)⟩:part)))) ?_
 refine QW.ret zL ?_
 obtain rfl:=sO h
 exact Ends.one (.inr rfl) rfl (aG.tmp rfl) rfl rfl
noncomputable def lA (eI:(List UInt8)) (p1:aa):Option aa:=
  (bif (decide ((eI.length:Int)=(0:Int))) then
  some p1
  else
  ((cV eI).bind fun (x_2:(List UInt8))=>
  some (aa.of (⟨2,x_2,([]:List UInt8),(⟨[p1,aa.nil,aa.nil,aa.nil,aa.nil,aa.nil,aa.nil,aa.nil,aa.nil,aa.nil,aa.nil,aa.nil,aa.nil,aa.nil,aa.nil,aa.nil],rfl⟩:(aE 16 aa)),([]:List UInt8)⟩:part))))
theorem qa (eI:(List UInt8)) (p1:aa) (r:aa) (h:lA eI p1=some r):bE Tryz.prog 50 [.slice (eI.map U),ah p1] (ah r):=by
 refine bE.aU Tryz.func50 rfl (by simp [Tryz.ntmps50]) ?_
 rw [Tryz.ntmps50,TT.VT]
 refine QW.view (s':=⟨aF [(0, .d (.slice (eI.map U))),(1, .d (ah p1))],aj [],0,[]⟩) (View.init (by rfl)) zL ?_
 unfold lA at h
 refine sR ?_
 refine xz 4 (.d (ah (aa.nil))) ?_
 refine QW.seq ?_
 refine sR ?_
 refine xm 5 (.d (.slice (eI.map U))) ?_
 refine xs 6 rfl (cM (en:=U) (l:=eI) rfl TT.bC rfl ?_)
 refine xs 7 rfl (ej (a:=(eI.length:Int)) (b:=(0:Int)) rfl rfl rfl ?_)
 refine XK.nz ?_
 refine QW.cond (t:=(decide ((eI.length:Int)=(0:Int)))) rfl zL (fun dm=>?_) (fun dm=>?_)
 ·replace h:=bT h dm
  refine sR ?_
  refine xm 8 (.d (ah p1)) ?_
  refine xz 4 (.d (ah p1)) ?_
  refine QW.ret zL (eC ?_)
  obtain rfl:=sO h
  exact Ends.one (.inr rfl) rfl (aG.tmp rfl) rfl rfl
 ·replace h:=bF h dm
  refine QW.skip zL (aY ?_)
  refine sR ?_
  refine xm 9 (.d (.slice (eI.map U))) ?_
  obtain ⟨x_2,nD,h⟩:=bO h
  refine xs 10 rfl (aA rfl rfl TT.vJ rfl (gV eI _ nD) ?_)
  refine xm 11 (.d (ah p1)) ?_
  refine XK.as (some 12) rfl rfl (u5 (v:= .agg [.d (ah p1), .d (ah (aa.nil)), .d (ah (aa.nil)), .d (ah (aa.nil)), .d (ah (aa.nil)), .d (ah (aa.nil)), .d (ah (aa.nil)), .d (ah (aa.nil)), .d (ah (aa.nil)), .d (ah (aa.nil)), .d (ah (aa.nil)), .d (ah (aa.nil)), .d (ah (aa.nil)), .d (ah (aa.nil)), .d (ah (aa.nil)), .d (ah (aa.nil))]) rfl (by rw [TT.Mm];simp [k8,k7,placeOf,og,aB,PV.cz,PV.g8,Value.oneCell',lX,nG,dK,List.all,cu,aF,jz,iL,bV,jP,ah]) (by rw [TT.Mm];rfl) ⟨.d (.agg ((⟨[p1,aa.nil,aa.nil,aa.nil,aa.nil,aa.nil,aa.nil,aa.nil,aa.nil,aa.nil,aa.nil,aa.nil,aa.nil,aa.nil,aa.nil,aa.nil],rfl⟩:(aE 16 aa)).1.map ah)),(iy.cW rfl),?_⟩)
  refine xs 13 rfl (fk (v:= .agg (([pI (2), .d (.slice (x_2.map U)),pS ([]:List UInt8)])++((((⟨[p1,aa.nil,aa.nil,aa.nil,aa.nil,aa.nil,aa.nil,aa.nil,aa.nil,aa.nil,aa.nil,aa.nil,aa.nil,aa.nil,aa.nil,aa.nil],rfl⟩:(aE 16 aa)).1.map ah).map PV.d)++([pS ([]:List UInt8)])))) rfl TT.Di (dM rfl (cx (p:=pI (2)) (cells:=(([pI (0), .full (([]:(List UInt8)).map U),pS ([]:List UInt8)])++((((aE.rep 16 aa.nil).1.map ah).map PV.d)++([pS ([]:List UInt8)])))) (cells':=(([pI (2), .full (([]:(List UInt8)).map U),pS ([]:List UInt8)])++((((aE.rep 16 aa.nil).1.map ah).map PV.d)++([pS ([]:List UInt8)])))) rfl rfl rfl (bX (aD (A:=[pI (0), .full (([]:(List UInt8)).map U),pS ([]:List UInt8)]) (b:=17) rfl (aD (A:=((aE.rep 16 aa.nil).1.map ah).map PV.d) (b:=1) (aq _) rfl rfl) rfl) bL) (fq 0 (by first | exact Nat.le_of_ble_eq_true rfl | simp) rfl) (cx (p:= .d (.slice (x_2.map U))) (cells:=(([pI (2), .full (([]:(List UInt8)).map U),pS ([]:List UInt8)])++((((aE.rep 16 aa.nil).1.map ah).map PV.d)++([pS ([]:List UInt8)])))) (cells':=(([pI (2), .d (.slice (x_2.map U)),pS ([]:List UInt8)])++((((aE.rep 16 aa.nil).1.map ah).map PV.d)++([pS ([]:List UInt8)])))) rfl rfl rfl (bX (aD (A:=[pI (2), .full (([]:(List UInt8)).map U),pS ([]:List UInt8)]) (b:=17) rfl (aD (A:=((aE.rep 16 aa.nil).1.map ah).map PV.d) (b:=1) (aq _) rfl rfl) rfl) bL) (fq 1 (by first | exact Nat.le_of_ble_eq_true rfl | simp) rfl) (cx (p:= .d (.agg ((⟨[p1,aa.nil,aa.nil,aa.nil,aa.nil,aa.nil,aa.nil,aa.nil,aa.nil,aa.nil,aa.nil,aa.nil,aa.nil,aa.nil,aa.nil,aa.nil],rfl⟩:(aE 16 aa)).1.map ah))) (cells:=(([pI (2), .d (.slice (x_2.map U)),pS ([]:List UInt8)])++((((aE.rep 16 aa.nil).1.map ah).map PV.d)++([pS ([]:List UInt8)])))) (cells':=(([pI (2), .d (.slice (x_2.map U)),pS ([]:List UInt8)])++((((⟨[p1,aa.nil,aa.nil,aa.nil,aa.nil,aa.nil,aa.nil,aa.nil,aa.nil,aa.nil,aa.nil,aa.nil,aa.nil,aa.nil,aa.nil,aa.nil],rfl⟩:(aE 16 aa)).1.map ah).map PV.d)++([pS ([]:List UInt8)])))) rfl rfl (show (((⟨[p1,aa.nil,aa.nil,aa.nil,aa.nil,aa.nil,aa.nil,aa.nil,aa.nil,aa.nil,aa.nil,aa.nil,aa.nil,aa.nil,aa.nil,aa.nil],rfl⟩:(aE 16 aa)).1.map ah).map PV.d).length=_ from aq _) (bX (aD (A:=[pI (2), .d (.slice (x_2.map U)),pS ([]:List UInt8)]) (b:=17) rfl (aD (A:=((aE.rep 16 aa.nil).1.map ah).map PV.d) (b:=1) (aq _) rfl rfl) rfl) bL) (ql 3 0 rfl (GA (aq _) (aq _))) dL)))) ?_)
  refine XK.fx (some 14) rfl rfl (eJ (ds:=ja (⟨2,x_2,([]:List UInt8),(⟨[p1,aa.nil,aa.nil,aa.nil,aa.nil,aa.nil,aa.nil,aa.nil,aa.nil,aa.nil,aa.nil,aa.nil,aa.nil,aa.nil,aa.nil,aa.nil],rfl⟩:(aE 16 aa)),([]:List UInt8)⟩:part)) rfl rfl rfl rfl (mj rfl (mj cA rfl)) ⟨_,iy.l5 (tQ (⟨2,x_2,([]:List UInt8),(⟨[p1,aa.nil,aa.nil,aa.nil,aa.nil,aa.nil,aa.nil,aa.nil,aa.nil,aa.nil,aa.nil,aa.nil,aa.nil,aa.nil,aa.nil,aa.nil],rfl⟩:(aE 16 aa)),([]:List UInt8)⟩:part)) rfl,?_⟩)
  refine xz 4 (.d (ah (aa.of (⟨2,x_2,([]:List UInt8),(⟨[p1,aa.nil,aa.nil,aa.nil,aa.nil,aa.nil,aa.nil,aa.nil,aa.nil,aa.nil,aa.nil,aa.nil,aa.nil,aa.nil,aa.nil,aa.nil],rfl⟩:(aE 16 aa)),([]:List UInt8)⟩:part)))) ?_
  refine QW.ret zL ?_
  obtain rfl:=sO h
  exact Ends.one (.inr rfl) rfl (aG.tmp rfl) rfl rfl
noncomputable def mI (p0:aa) (aL:(List UInt8)) (iG:(List UInt8)) (n3:Int):Option aa:=
  gO (0≤n3∧n3<(aL.length:Int)) (
  gO (bA (n3+(1:Int))) (
  gO (0≤(n3+(1:Int))∧(n3+(1:Int))≤(aL.length:Int)∧(aL.length:Int)≤(aL.length:Int)) (
  ((lq (sub aL (n3+(1:Int)) (aL.length:Int)) iG).bind fun (x_4:aa)=>
  gO (0≤((idx aL n3).toNat:Int)∧((idx aL n3).toNat:Int)<((16:Nat):Int)) (
  gO (p0.isNil=false) (
  gO (0≤n3∧n3<(((p0.at).bD).length:Int)) (
  ((gO (p0.isNil=false) (
  (bif (decide (((p0.at).bg)=(1:Int))) then
  gO (p0.isNil=false) (
  gO (bA (n3+(1:Int))) (
  gO (0≤(n3+(1:Int))∧(n3+(1:Int))≤(((p0.at).bD).length:Int)∧(((p0.at).bD).length:Int)≤(((p0.at).bD).length:Int)) (
  gO (p0.isNil=false) (
  ((lq (sub ((p0.at).bD) (n3+(1:Int)) (((p0.at).bD).length:Int)) ((p0.at).dG)).bind fun (x_15:aa)=>
  gO (0≤((idx ((p0.at).bD) n3).toNat:Int)∧((idx ((p0.at).bD) n3).toNat:Int)<((16:Nat):Int)) (
  some (((aE.rep 16 aa.nil).put ((idx aL n3).toNat:Int) x_4).put ((idx ((p0.at).bD) n3).toNat:Int) x_15)))))))
  else
  gO (p0.isNil=false) (
  gO (bA (n3+(1:Int))) (
  gO (0≤(n3+(1:Int))∧(n3+(1:Int))≤(((p0.at).bD).length:Int)∧(((p0.at).bD).length:Int)≤(((p0.at).bD).length:Int)) (
  gO (p0.isNil=false) (
  ((lA (sub ((p0.at).bD) (n3+(1:Int)) (((p0.at).bD).length:Int)) (idx ((p0.at).b8).1 (0:Int))).bind fun (x_22:aa)=>
  gO (0≤((idx ((p0.at).bD) n3).toNat:Int)∧((idx ((p0.at).bD) n3).toNat:Int)<((16:Nat):Int)) (
  some (((aE.rep 16 aa.nil).put ((idx aL n3).toNat:Int) x_4).put ((idx ((p0.at).bD) n3).toNat:Int) x_22))))))))):Option (aE 16 aa)).bind fun (E5:(aE 16 aa))=>
  gO (0≤(0:Int)∧(0:Int)≤n3∧n3≤(aL.length:Int)) (
  ((lA (sub aL (0:Int) n3) (aa.of (⟨3,([]:(List UInt8)),([]:List UInt8),E5,([]:List UInt8)⟩:part))).bind fun (yu:aa)=>
  some yu))))))))))
theorem Bq (p0:aa) (aL:(List UInt8)) (iG:(List UInt8)) (n3:Int) (r:aa) (h:mI p0 aL iG n3=some r):bE Tryz.prog 49 [ah p0, .slice (aL.map U), .val (sV iG), .val (.int .i64 n3)] (ah r):=by
 refine bE.aU Tryz.func49 rfl (by simp [Tryz.ntmps49]) ?_
 rw [Tryz.ntmps49,TT.VS]
 refine QW.view (s':=⟨aF [(0, .d (ah p0)),(1, .d (.slice (aL.map U))),(2,pS iG),(3,pI n3)],aj [],0,[]⟩) (View.init (by rfl)) zL ?_
 unfold mI at h
 refine sR ?_
 refine xz 8 (.d (ah (aa.nil))) ?_
 refine sR ?_
 refine xs 11 rfl (fk (v:= .agg (([pI (3), .full (([]:(List UInt8)).map U),pS ([]:List UInt8)])++((((aE.rep 16 aa.nil).1.map ah).map PV.d)++([pS ([]:List UInt8)])))) rfl TT.Di (dM rfl (cx (p:=pI (3)) (cells:=(([pI (0), .full (([]:(List UInt8)).map U),pS ([]:List UInt8)])++((((aE.rep 16 aa.nil).1.map ah).map PV.d)++([pS ([]:List UInt8)])))) (cells':=(([pI (3), .full (([]:(List UInt8)).map U),pS ([]:List UInt8)])++((((aE.rep 16 aa.nil).1.map ah).map PV.d)++([pS ([]:List UInt8)])))) rfl rfl rfl (bX (aD (A:=[pI (0), .full (([]:(List UInt8)).map U),pS ([]:List UInt8)]) (b:=17) rfl (aD (A:=((aE.rep 16 aa.nil).1.map ah).map PV.d) (b:=1) (aq _) rfl rfl) rfl) bL) (fq 0 (by first | exact Nat.le_of_ble_eq_true rfl | simp) rfl) dL)) ?_)
 refine xs 12 rfl (Lv (c:=(([pI (3), .full (([]:(List UInt8)).map U),pS ([]:List UInt8)])++((((aE.rep 16 aa.nil).1.map ah).map PV.d)++([pS ([]:List UInt8)])))) rfl rfl rfl rfl rfl ?_)
 refine xz 9 (.aK 0 0) ?_
 refine QW.seq ?_
 refine QW.region zL (PW.tN (id:=2) dh (M:=_) rfl (by kernel_rfl) ?_)
 refine RK.st (some 13) rfl rfl (au (v:= .aK 0 0) rfl rfl ?_)
 refine RK.st (some 14) rfl rfl (au (v:= .d (.slice (aL.map U))) rfl rfl ?_)
 refine RK.st (some 15) rfl rfl (au (v:=pI n3) rfl rfl ?_)
 obtain ⟨nM,h⟩:=bk h
 refine RK.st (some 16) rfl rfl (bN (l:=aL) (i:=n3) rfl TT.eD bH rfl rfl nM ?_)
 refine RK.st (some 17) rfl rfl (aC (d:= .val (.int .u8 ((idx aL n3).toNat:Int))) rfl TT.kG rfl (di.one) ?_)
 refine RK.st (some 18) rfl rfl (au (v:= .d (.slice (aL.map U))) rfl rfl ?_)
 refine RK.st (some 19) rfl rfl (au (v:=pI n3) rfl rfl ?_)
 obtain ⟨xE,h⟩:=bk h
 refine RK.st (some 20) rfl rfl (bY (a:=n3) (b:=(1:Int)) rfl rfl rfl xE ?_)
 obtain ⟨dP,h⟩:=bk h
 refine RK.st (some 21) rfl rfl (nS (l:=aL) (a:=(n3+(1:Int))) (b:=(aL.length:Int)) rfl TT.bC TT.eD bH rfl rfl rfl dP ?_)
 refine RK.st (some 22) rfl rfl (au (v:=pS iG) rfl rfl ?_)
 obtain ⟨x_4,kZ,h⟩:=bO h
 refine RK.st (some 23) rfl rfl (aA rfl rfl TT.vW rfl (oZ (sub aL (n3+(1:Int)) (aL.length:Int)) iG _ kZ) ?_)
 refine RK.st (some 24) rfl rfl (mz (v:= .aK 0 0) rfl rfl rfl ?_)
 refine RK.st (some 25) rfl rfl (fm rfl TT.jk (by decide) rfl ?_)
 obtain ⟨lZ,h⟩:=bk h
 refine RK.st (some 26) rfl rfl (cX (i:=((idx aL n3).toNat:Int)) rfl TT.mH TT.kM rfl rfl lZ ?_)
 refine RK.st none rfl rfl (bw (l':=(([pI (3), .full (([]:(List UInt8)).map U),pS ([]:List UInt8)])++(((((aE.rep 16 aa.nil).put ((idx aL n3).toNat:Int) x_4).1.map ah).map PV.d)++([pS ([]:List UInt8)])))) rfl TT.hU rfl rfl rfl rfl rfl rfl (yS (n:=16) lZ (aD (A:=[pI (3), .full (([]:(List UInt8)).map U),pS ([]:List UInt8)]) (b:=17) rfl (aD (A:=((aE.rep 16 aa.nil).1.map ah).map PV.d) (b:=1) (aq _) rfl rfl) rfl) bL) (ql 3 _ rfl (fq _ (Da lZ) (sX lZ))) ?_)
 refine RK.nil ⟨gl.last 14 (by simp) (by simp) (by rfl),(aY ?_)⟩
 refine QW.seq ?_
 refine QW.view (s':=⟨aF [(0, .d (ah p0)),(1, .d (.slice (aL.map U))),(3,pI n3),(9, .aK 0 0)],aj [.var (([pI (3), .full (([]:(List UInt8)).map U),pS ([]:List UInt8)])++(((((aE.rep 16 aa.nil).put ((idx aL n3).toNat:Int) x_4).1.map ah).map PV.d)++([pS ([]:List UInt8)])))],1,[]⟩) (View.mk 1 [0] _ _ _ rfl rfl (by decide) (iC (iC (iC (iC trivial)))) (And.intro (by simp only [cF,eR,PV.bR];rfl) trivial) rfl zL rfl) zL ?_
 refine rG ?_
 refine xm 27 (.d (ah p0)) ?_
 obtain ⟨mc,h⟩:=bk h
 refine xs 28 rfl (dA rfl (dB mc) rfl ?_)
 refine xs 29 rfl (aO rfl TT.jI (by decide) rfl ?_)
 refine xs 30 rfl (aC (d:= .slice (((p0.at).bD).map U)) rfl TT.fB rfl (iR _) ?_)
 refine xm 31 (pI n3) ?_
 obtain ⟨rM,h⟩:=bk h
 refine xs 32 rfl (bN (l:=(p0.at).bD) (i:=n3) rfl TT.eD bH rfl rfl rM ?_)
 refine xs 33 rfl (aC (d:= .val (.int .u8 ((idx ((p0.at).bD) n3).toNat:Int))) rfl TT.kG rfl (di.one) ?_)
 refine xz 10 (.d (.val (.int .u8 ((idx ((p0.at).bD) n3).toNat:Int)))) ?_
 obtain ⟨E5,hq,h⟩:=bO h
 refine QW.rH (fun s'=>s'=⟨aF [(1, .d (.slice (aL.map U))),(3,pI n3),(9, .aK 0 0)],aj [.var (([pI (3), .full (([]:(List UInt8)).map U),pS ([]:List UInt8)])++(((E5.1.map ah).map PV.d)++([pS ([]:List UInt8)])))],1,[]⟩) ?_ ?_
 ·replace h:=hq;clear hq
  refine sR ?_
  refine xm 34 (.d (ah p0)) ?_
  obtain ⟨rN,h⟩:=bk h
  refine xs 35 rfl (dA rfl (dB rN) rfl ?_)
  refine xs 36 rfl (aO rfl TT.lS (by decide) rfl ?_)
  refine xs 37 rfl (aC (d:= .val (.int .i64 ((p0.at).bg))) rfl TT.l9 rfl (kH _) ?_)
  refine xs 38 rfl (ej (a:=((p0.at).bg)) (b:=(1:Int)) rfl rfl rfl ?_)
  refine XK.nz ?_
  refine QW.cond (t:=(decide (((p0.at).bg)=(1:Int)))) rfl zL (fun qH=>?_) (fun qH=>?_)
  ·replace h:=bT h qH
   refine QW.region zL (PW.tN (id:=5) dh (M:=_) rfl (by kernel_rfl) ?_)
   refine RK.st (some 39) rfl rfl (au (v:= .aK 0 0) rfl rfl ?_)
   refine RK.st (some 40) rfl rfl (au (v:= .d (.val (.int .u8 ((idx ((p0.at).bD) n3).toNat:Int)))) rfl rfl ?_)
   refine RK.st (some 41) rfl rfl (au (v:= .d (ah p0)) rfl rfl ?_)
   obtain ⟨vG,h⟩:=bk h
   refine RK.st (some 42) rfl rfl (dA rfl (dB vG) rfl ?_)
   refine RK.st (some 43) rfl rfl (aO rfl TT.jI (by decide) rfl ?_)
   refine RK.st (some 44) rfl rfl (aC (d:= .slice (((p0.at).bD).map U)) rfl TT.fB rfl (iR _) ?_)
   refine RK.st (some 45) rfl rfl (au (v:=pI n3) rfl rfl ?_)
   obtain ⟨mX,h⟩:=bk h
   refine RK.st (some 46) rfl rfl (bY (a:=n3) (b:=(1:Int)) rfl rfl rfl mX ?_)
   obtain ⟨nE,h⟩:=bk h
   refine RK.st (some 47) rfl rfl (nS (l:=(p0.at).bD) (a:=(n3+(1:Int))) (b:=(((p0.at).bD).length:Int)) rfl TT.bC TT.eD bH rfl rfl rfl nE ?_)
   refine RK.st (some 48) rfl rfl (au (v:= .d (ah p0)) rfl rfl ?_)
   obtain ⟨rL,h⟩:=bk h
   refine RK.st (some 49) rfl rfl (dA rfl (dB rL) rfl ?_)
   refine RK.st (some 50) rfl rfl (aO rfl TT.y7 (by decide) rfl ?_)
   refine RK.st (some 51) rfl rfl (aC (d:= .val (sV ((p0.at).dG))) rfl TT.fF rfl (w4 _) ?_)
   obtain ⟨x_15,vD,h⟩:=bO h
   refine RK.st (some 52) rfl rfl (aA rfl rfl TT.vW rfl (oZ (sub ((p0.at).bD) (n3+(1:Int)) (((p0.at).bD).length:Int)) ((p0.at).dG) _ vD) ?_)
   refine RK.st (some 53) rfl rfl (mz (v:= .aK 0 0) rfl rfl rfl ?_)
   refine RK.st (some 54) rfl rfl (fm rfl TT.jk (by decide) rfl ?_)
   obtain ⟨pO,h⟩:=bk h
   refine RK.st (some 55) rfl rfl (cX (i:=((idx ((p0.at).bD) n3).toNat:Int)) rfl TT.mH TT.kM rfl rfl pO ?_)
   refine RK.st none rfl rfl (bw (l':=(([pI (3), .full (([]:(List UInt8)).map U),pS ([]:List UInt8)])++((((((aE.rep 16 aa.nil).put ((idx aL n3).toNat:Int) x_4).put ((idx ((p0.at).bD) n3).toNat:Int) x_15).1.map ah).map PV.d)++([pS ([]:List UInt8)])))) rfl TT.hU rfl rfl rfl rfl rfl rfl (yS (n:=16) pO (aD (A:=[pI (3), .full (([]:(List UInt8)).map U),pS ([]:List UInt8)]) (b:=17) rfl (aD (A:=(((aE.rep 16 aa.nil).put ((idx aL n3).toNat:Int) x_4).1.map ah).map PV.d) (b:=1) (aq _) rfl rfl) rfl) bL) (ql 3 _ rfl (fq _ (Da pO) (sX pO))) ?_)
   refine RK.nil ⟨gl.last 17 (by simp) (by simp) (by rfl),(aY ?_)⟩
   obtain rfl:=sO h
   exact ⟨⟨aF [(1, .d (.slice (aL.map U))),(3,pI n3),(9, .aK 0 0)],aj [.var (([pI (3), .full (([]:(List UInt8)).map U),pS ([]:List UInt8)])++((((((aE.rep 16 aa.nil).put ((idx aL n3).toNat:Int) x_4).put ((idx ((p0.at).bD) n3).toNat:Int) x_15).1.map ah).map PV.d)++([pS ([]:List UInt8)])))],1,[]⟩,View.mk 1 [0] _ _ _ rfl rfl (by decide) (iC (iC (iC trivial))) (And.intro (by simp only [cF,eR,PV.bR];rfl) trivial) rfl zL rfl,rfl⟩
  ·replace h:=bF h qH
   refine QW.region zL (PW.tN (id:=6) dh (M:=_) rfl (by kernel_rfl) ?_)
   refine RK.st (some 56) rfl rfl (au (v:= .aK 0 0) rfl rfl ?_)
   refine RK.st (some 57) rfl rfl (au (v:= .d (.val (.int .u8 ((idx ((p0.at).bD) n3).toNat:Int)))) rfl rfl ?_)
   refine RK.st (some 58) rfl rfl (au (v:= .d (ah p0)) rfl rfl ?_)
   obtain ⟨sH,h⟩:=bk h
   refine RK.st (some 59) rfl rfl (dA rfl (dB sH) rfl ?_)
   refine RK.st (some 60) rfl rfl (aO rfl TT.jI (by decide) rfl ?_)
   refine RK.st (some 61) rfl rfl (aC (d:= .slice (((p0.at).bD).map U)) rfl TT.fB rfl (iR _) ?_)
   refine RK.st (some 62) rfl rfl (au (v:=pI n3) rfl rfl ?_)
   obtain ⟨yp,h⟩:=bk h
   refine RK.st (some 63) rfl rfl (bY (a:=n3) (b:=(1:Int)) rfl rfl rfl yp ?_)
   obtain ⟨vS,h⟩:=bk h
   refine RK.st (some 64) rfl rfl (nS (l:=(p0.at).bD) (a:=(n3+(1:Int))) (b:=(((p0.at).bD).length:Int)) rfl TT.bC TT.eD bH rfl rfl rfl vS ?_)
   refine RK.st (some 65) rfl rfl (au (v:= .d (ah p0)) rfl rfl ?_)
   obtain ⟨Jt,h⟩:=bk h
   refine RK.st (some 66) rfl rfl (dA rfl (dB Jt) rfl ?_)
   refine RK.st (some 67) rfl rfl (aO rfl TT.jk (by decide) rfl ?_)
   refine RK.st (some 68) rfl rfl (mD (i:=(0:Int)) rfl TT.mH TT.kM rfl rfl (by decide) ?_)
   refine RK.st (some 69) rfl rfl (aC (d:=ah (idx ((p0.at).b8).1 (0:Int))) rfl TT.hU rfl (om (nB _) (by decide)) ?_)
   obtain ⟨x_22,vO,h⟩:=bO h
   refine RK.st (some 70) rfl rfl (aA rfl rfl TT.vX rfl (qa (sub ((p0.at).bD) (n3+(1:Int)) (((p0.at).bD).length:Int)) (idx ((p0.at).b8).1 (0:Int)) _ vO) ?_)
   refine RK.st (some 71) rfl rfl (mz (v:= .aK 0 0) rfl rfl rfl ?_)
   refine RK.st (some 72) rfl rfl (fm rfl TT.jk (by decide) rfl ?_)
   obtain ⟨zE,h⟩:=bk h
   refine RK.st (some 73) rfl rfl (cX (i:=((idx ((p0.at).bD) n3).toNat:Int)) rfl TT.mH TT.kM rfl rfl zE ?_)
   refine RK.st none rfl rfl (bw (l':=(([pI (3), .full (([]:(List UInt8)).map U),pS ([]:List UInt8)])++((((((aE.rep 16 aa.nil).put ((idx aL n3).toNat:Int) x_4).put ((idx ((p0.at).bD) n3).toNat:Int) x_22).1.map ah).map PV.d)++([pS ([]:List UInt8)])))) rfl TT.hU rfl rfl rfl rfl rfl rfl (yS (n:=16) zE (aD (A:=[pI (3), .full (([]:(List UInt8)).map U),pS ([]:List UInt8)]) (b:=17) rfl (aD (A:=(((aE.rep 16 aa.nil).put ((idx aL n3).toNat:Int) x_4).1.map ah).map PV.d) (b:=1) (aq _) rfl rfl) rfl) bL) (ql 3 _ rfl (fq _ (Da zE) (sX zE))) ?_)
   refine RK.nil ⟨gl.last 18 (by simp) (by simp) (by rfl),(aY ?_)⟩
   obtain rfl:=sO h
   exact ⟨⟨aF [(1, .d (.slice (aL.map U))),(3,pI n3),(9, .aK 0 0)],aj [.var (([pI (3), .full (([]:(List UInt8)).map U),pS ([]:List UInt8)])++((((((aE.rep 16 aa.nil).put ((idx aL n3).toNat:Int) x_4).put ((idx ((p0.at).bD) n3).toNat:Int) x_22).1.map ah).map PV.d)++([pS ([]:List UInt8)])))],1,[]⟩,View.mk 1 [0] _ _ _ rfl rfl (by decide) (iC (iC (iC trivial))) (And.intro (by simp only [cF,eR,PV.bR];rfl) trivial) rfl zL rfl,rfl⟩
 ·rintro _ rfl
  refine QW.seq ?_
  refine QW.view (s':=⟨aF [(1, .d (.slice (aL.map U))),(3,pI n3),(9, .d (ah (aa.of (⟨3,([]:(List UInt8)),([]:List UInt8),E5,([]:List UInt8)⟩:part))))],aj [],0,[]⟩) (View.trans (View.SB 0 1 rfl (Jf rfl) rfl (Jg bL rfl) zL) (View.trans (View.LN (ds:=ja (⟨3,([]:(List UInt8)),([]:List UInt8),E5,([]:List UInt8)⟩:part)) 0 9 rfl (show (ja (⟨3,([]:(List UInt8)),([]:List UInt8),E5,([]:List UInt8)⟩:part)).map PV.d=_ by simp only [ja,List.map_append];rfl) (tQ _) rfl rfl zL) (View.mk 0 [] _ _ _ rfl rfl (by decide) (iC (iC (iC trivial))) trivial rfl zL rfl))) zL ?_
  refine rG ?_
  refine xm 74 (.d (.slice (aL.map U))) ?_
  refine xm 75 (pI n3) ?_
  obtain ⟨GO,h⟩:=bk h
  refine xs 76 rfl (nS (l:=aL) (a:=(0:Int)) (b:=n3) rfl TT.bC TT.eD bH rfl rfl rfl GO ?_)
  refine xm 77 (.d (ah (aa.of (⟨3,([]:(List UInt8)),([]:List UInt8),E5,([]:List UInt8)⟩:part)))) ?_
  obtain ⟨yu,Oy,h⟩:=bO h
  refine xs 78 rfl (aA rfl rfl TT.vX rfl (qa (sub aL (0:Int) n3) (aa.of (⟨3,([]:(List UInt8)),([]:List UInt8),E5,([]:List UInt8)⟩:part)) _ Oy) ?_)
  refine xz 8 (.d (ah yu)) ?_
  refine QW.ret zL ?_
  obtain rfl:=sO h
  exact Ends.one (.inr rfl) rfl (aG.tmp rfl) rfl rfl
noncomputable def gm (self:aa→(List UInt8)→(List UInt8)→Option aa) (p0:aa) (aL:(List UInt8)) (iG:(List UInt8)):Option aa:=
  (bif p0.isNil then
  ((lq aL iG).bind fun (x_2:aa)=>
  some x_2)
  else
  gO (p0.isNil=false) (
  ((tv ((p0.at).bD) aL).bind fun (x_5:Int)=>
  gO (p0.isNil=false) (
  (bif (decide (((p0.at).bg)=(-1:Int))) then
  none
  else
  gO (p0.isNil=false) (
  (bif (decide (x_5<(((p0.at).bD).length:Int))) then
  ((mI p0 aL iG x_5).bind fun (x_11:aa)=>
  some x_11)
  else
  gO (p0.isNil=false) (
  (bif (decide (((p0.at).bg)=(1:Int))) then
  ((lq aL iG).bind fun (x_15:aa)=>
  some x_15)
  else
  gO (p0.isNil=false) (
  (bif (decide (((p0.at).bg)=(2:Int))) then
  gO (p0.isNil=false) (
  gO (p0.isNil=false) (
  gO (0≤x_5∧x_5≤(aL.length:Int)∧(aL.length:Int)≤(aL.length:Int)) (
  ((self (idx ((p0.at).b8).1 (0:Int)) (sub aL x_5 (aL.length:Int)) iG).bind fun (x_22:aa)=>
  ((lA ((p0.at).bD) x_22).bind fun (x_24:aa)=>
  some x_24)))))
  else
  gO (p0.isNil=false) (
  gO (0≤(0:Int)∧(0:Int)<(aL.length:Int)) (
  gO (0≤(0:Int)∧(0:Int)<(aL.length:Int)) (
  gO (p0.isNil=false) (
  gO (0≤((idx aL (0:Int)).toNat:Int)∧((idx aL (0:Int)).toNat:Int)<((16:Nat):Int)) (
  gO (0≤(1:Int)∧(1:Int)≤(aL.length:Int)∧(aL.length:Int)≤(aL.length:Int)) (
  ((self (idx ((p0.at).b8).1 ((idx aL (0:Int)).toNat:Int)) (sub aL (1:Int) (aL.length:Int)) iG).bind fun (sJ:aa)=>
  gO (0≤((idx aL (0:Int)).toNat:Int)∧((idx aL (0:Int)).toNat:Int)<((16:Nat):Int)) (
  some (aa.of (⟨(p0.at).bg,(p0.at).bD,(p0.at).dG,(((p0.at).b8).put ((idx aL (0:Int)).toNat:Int) sJ),(p0.at).vA⟩:part)))))))))))))))))))))
theorem Br (self:aa→(List UInt8)→(List UInt8)→Option aa) (fP:∀ (y0:aa) (y1:(List UInt8)) (y2:(List UInt8)) (rr:aa),self y0 y1 y2=some rr→bE Tryz.prog 29 [ah y0, .slice (y1.map U), .val (sV y2)] (ah rr)) (p0:aa) (aL:(List UInt8)) (iG:(List UInt8)) (r:aa) (h:gm self p0 aL iG=some r):bE Tryz.prog 29 [ah p0, .slice (aL.map U), .val (sV iG)] (ah r):=by
 refine bE.aU Tryz.func29 rfl (by simp [Tryz.ntmps29]) ?_
 rw [Tryz.ntmps29,TT.VM]
 refine QW.view (s':=⟨aF [(0, .d (ah p0)),(1, .d (.slice (aL.map U))),(2,pS iG)],aj [],0,[]⟩) (View.init (by rfl)) zL ?_
 unfold gm at h
 refine sR ?_
 refine xz 6 (.d (ah (aa.nil))) ?_
 refine QW.seq ?_
 refine sR ?_
 refine xm 9 (.d (ah p0)) ?_
 refine xs 10 rfl (Aa rfl TT.ry rfl rfl ?_)
 refine XK.nz ?_
 refine QW.cond (t:=p0.isNil) rfl zL (fun dm=>?_) (fun dm=>?_)
 ·replace h:=bT h dm
  refine sR ?_
  refine xm 11 (.d (.slice (aL.map U))) ?_
  refine xm 12 (pS iG) ?_
  obtain ⟨x_2,nD,h⟩:=bO h
  refine xs 13 rfl (aA rfl rfl TT.vW rfl (oZ aL iG _ nD) ?_)
  refine xz 6 (.d (ah x_2)) ?_
  refine QW.ret zL (eC ?_)
  obtain rfl:=sO h
  exact Ends.one (.inr rfl) rfl (aG.tmp rfl) rfl rfl
 ·replace h:=bF h dm
  refine QW.skip zL (aY ?_)
  refine sR ?_
  refine xm 14 (.d (ah p0)) ?_
  obtain ⟨lY,h⟩:=bk h
  refine xs 15 rfl (dA rfl (dB lY) rfl ?_)
  refine xs 16 rfl (aO rfl TT.jI (by decide) rfl ?_)
  refine xs 17 rfl (aC (d:= .slice (((p0.at).bD).map U)) rfl TT.fB rfl (iR _) ?_)
  refine xm 18 (.d (.slice (aL.map U))) ?_
  obtain ⟨x_5,rj,h⟩:=bO h
  refine xs 19 rfl (aA rfl rfl TT.Hf rfl (zC ((p0.at).bD) aL _ rj) ?_)
  refine xz 7 (pI x_5) ?_
  refine QW.seq ?_
  refine QW.block ?_
  refine sR ?_
  refine xm 21 (.d (ah p0)) ?_
  obtain ⟨mc,h⟩:=bk h
  refine xs 22 rfl (dA rfl (dB mc) rfl ?_)
  refine xs 23 rfl (aO rfl TT.lS (by decide) rfl ?_)
  refine xs 24 rfl (aC (d:= .val (.int .i64 ((p0.at).bg))) rfl TT.l9 rfl (kH _) ?_)
  refine xs 25 rfl (ej (a:=((p0.at).bg)) (b:=(-1:Int)) rfl rfl rfl ?_)
  refine xz 20 (pB (decide (((p0.at).bg)=(-1:Int)))) ?_
  refine QW.cond (t:=(decide (((p0.at).bg)=(-1:Int)))) rfl zL (fun rV=>?_) (fun rV=>?_)
  ·replace h:=bT h rV
   refine rG ?_
   refine xs 26 rfl (fk (v:= .agg []) rfl TT.G7 (dM rfl dL) ?_)
   refine xs 27 rfl (AY (y:= .agg []) rfl rfl TT.Au ?_)
   refine XK.panic rfl rfl rfl (Ks (sx ?_))
   cases h
  ·replace h:=bF h rV
   refine sR ?_
   refine xm 29 (pI x_5) ?_
   refine xm 30 (.d (ah p0)) ?_
   obtain ⟨rN,h⟩:=bk h
   refine xs 31 rfl (dA rfl (dB rN) rfl ?_)
   refine xs 32 rfl (aO rfl TT.jI (by decide) rfl ?_)
   refine xs 33 rfl (aC (d:= .slice (((p0.at).bD).map U)) rfl TT.fB rfl (iR _) ?_)
   refine xs 34 rfl (cM (en:=U) (l:=(p0.at).bD) rfl TT.bC rfl ?_)
   refine xs 35 rfl (cK (a:=x_5) (b:=(((p0.at).bD).length:Int)) rfl rfl rfl ?_)
   refine xz 28 (pB (decide (x_5<(((p0.at).bD).length:Int)))) ?_
   refine QW.cond (t:=(decide (x_5<(((p0.at).bD).length:Int)))) rfl zL (fun qH=>?_) (fun qH=>?_)
   ·replace h:=bT h qH
    refine sR ?_
    refine xm 36 (.d (ah p0)) ?_
    refine xm 37 (.d (.slice (aL.map U))) ?_
    refine xm 38 (pS iG) ?_
    refine xm 39 (pI x_5) ?_
    obtain ⟨x_11,pR,h⟩:=bO h
    refine xs 40 rfl (aA rfl rfl TT.Ow rfl (Bq p0 aL iG x_5 _ pR) ?_)
    refine xz 6 (.d (ah x_11)) ?_
    refine QW.ret zL (mO (eC ?_))
    obtain rfl:=sO h
    exact Ends.one (.inr rfl) rfl (aG.tmp rfl) rfl rfl
   ·replace h:=bF h qH
    refine sR ?_
    refine xm 42 (.d (ah p0)) ?_
    obtain ⟨nE,h⟩:=bk h
    refine xs 43 rfl (dA rfl (dB nE) rfl ?_)
    refine xs 44 rfl (aO rfl TT.lS (by decide) rfl ?_)
    refine xs 45 rfl (aC (d:= .val (.int .i64 ((p0.at).bg))) rfl TT.l9 rfl (kH _) ?_)
    refine xs 46 rfl (ej (a:=((p0.at).bg)) (b:=(1:Int)) rfl rfl rfl ?_)
    refine xz 41 (pB (decide (((p0.at).bg)=(1:Int)))) ?_
    refine QW.cond (t:=(decide (((p0.at).bg)=(1:Int)))) rfl zL (fun qA=>?_) (fun qA=>?_)
    ·replace h:=bT h qA
     refine sR ?_
     refine xm 47 (.d (.slice (aL.map U))) ?_
     refine xm 48 (pS iG) ?_
     obtain ⟨x_15,vD,h⟩:=bO h
     refine xs 49 rfl (aA rfl rfl TT.vW rfl (oZ aL iG _ vD) ?_)
     refine xz 6 (.d (ah x_15)) ?_
     refine QW.ret zL (mO (eC ?_))
     obtain rfl:=sO h
     exact Ends.one (.inr rfl) rfl (aG.tmp rfl) rfl rfl
    ·replace h:=bF h qA
     refine sR ?_
     refine xm 51 (.d (ah p0)) ?_
     obtain ⟨pO,h⟩:=bk h
     refine xs 52 rfl (dA rfl (dB pO) rfl ?_)
     refine xs 53 rfl (aO rfl TT.lS (by decide) rfl ?_)
     refine xs 54 rfl (aC (d:= .val (.int .i64 ((p0.at).bg))) rfl TT.l9 rfl (kH _) ?_)
     refine xs 55 rfl (ej (a:=((p0.at).bg)) (b:=(2:Int)) rfl rfl rfl ?_)
     refine xz 50 (pB (decide (((p0.at).bg)=(2:Int)))) ?_
     refine QW.cond (t:=(decide (((p0.at).bg)=(2:Int)))) rfl zL (fun vE=>?_) (fun vE=>?_)
     ·replace h:=bT h vE
      refine QW.seq ?_
      refine QW.region zL (PW.kC (id:=11) dh (M:=_) rfl (by kernel_rfl) ?_)
      refine RQ.st (some 56) rfl rfl (au (v:= .d (ah p0)) rfl rfl ⟨⟨rfl,rfl⟩,?_⟩)
      obtain ⟨yp,h⟩:=bk h
      refine RQ.st (some 57) rfl rfl (dA rfl (dB yp) rfl ⟨⟨rfl,rfl⟩,?_⟩)
      refine RQ.st (some 58) rfl rfl (aO rfl TT.jI (by decide) rfl ⟨⟨rfl,rfl⟩,?_⟩)
      refine RQ.st (some 59) rfl rfl (aC (d:= .slice (((p0.at).bD).map U)) rfl TT.fB rfl (iR _) ⟨⟨rfl,rfl⟩,?_⟩)
      refine RQ.st (some 60) rfl rfl (au (v:= .d (ah p0)) rfl rfl ⟨⟨rfl,rfl⟩,?_⟩)
      obtain ⟨vS,h⟩:=bk h
      refine RQ.st (some 61) rfl rfl (dA rfl (dB vS) rfl ⟨⟨rfl,rfl⟩,?_⟩)
      refine RQ.st (some 62) rfl rfl (aO rfl TT.jk (by decide) rfl ⟨⟨rfl,rfl⟩,?_⟩)
      refine RQ.st (some 63) rfl rfl (mD (i:=(0:Int)) rfl TT.mH TT.kM rfl rfl (by decide) ⟨⟨rfl,rfl⟩,?_⟩)
      refine RQ.st (some 64) rfl rfl (aC (d:=ah (idx ((p0.at).b8).1 (0:Int))) rfl TT.hU rfl (om (nB _) (by decide)) ⟨⟨rfl,rfl⟩,?_⟩)
      refine RQ.st (some 65) rfl rfl (au (v:= .d (.slice (aL.map U))) rfl rfl ⟨⟨rfl,rfl⟩,?_⟩)
      refine RQ.st (some 66) rfl rfl (au (v:=pI x_5) rfl rfl ⟨⟨rfl,rfl⟩,?_⟩)
      obtain ⟨Jt,h⟩:=bk h
      refine RQ.st (some 67) rfl rfl (nS (l:=aL) (a:=x_5) (b:=(aL.length:Int)) rfl TT.bC TT.eD bH rfl rfl rfl Jt ⟨⟨rfl,rfl⟩,?_⟩)
      refine RQ.st (some 68) rfl rfl (au (v:=pS iG) rfl rfl ⟨⟨rfl,rfl⟩,?_⟩)
      obtain ⟨x_22,vO,h⟩:=bO h
      refine RQ.st (some 69) rfl rfl (aA rfl rfl TT.Cq rfl (fP (idx ((p0.at).b8).1 (0:Int)) (sub aL x_5 (aL.length:Int)) iG _ vO) ⟨⟨rfl,rfl⟩,?_⟩)
      obtain ⟨x_24,Hg,h⟩:=bO h
      refine RQ.st (some 70) rfl rfl (aA rfl rfl TT.vX rfl (qa ((p0.at).bD) x_22 _ Hg) ⟨⟨rfl,rfl⟩,?_⟩)
      refine RQ.st (some 6) rfl rfl (cq (v:= .d (ah x_24)) rfl rfl ⟨⟨rfl,rfl⟩,?_⟩)
      refine RQ.nil (aY ?_)
      refine QW.ret zL (mO (eC ?_))
      obtain rfl:=sO h
      exact Ends.one (.inr rfl) rfl (aG.tmp rfl) rfl rfl
     ·replace h:=bF h vE
      refine QW.skip zL (gC (aY ?_))
      refine sR ?_
      refine xm 71 (.d (ah p0)) ?_
      obtain ⟨yh,h⟩:=bk h
      refine xs 72 rfl (dA rfl (dB yh) rfl ?_)
      refine xs 73 rfl (aC (d:= .agg (ja (p0.at))) rfl TT.Px rfl (⟨by rw [Jl.len];decide,congrArg D.agg (List.take_of_length_le (by rw [Jl.len];decide))⟩) ?_)
      refine xs 8 rfl (bP (l:=(([pI (0), .full (([]:(List UInt8)).map U),pS ([]:List UInt8)])++((((aE.rep 16 aa.nil).1.map ah).map PV.d)++([pS ([]:List UInt8)])))) rfl TT.QS rfl rfl ?_)
      refine XK.st none rfl rfl (bw (c:=(([pI ((p0.at).bg), .d (.slice (((p0.at).bD).map U)),pS ((p0.at).dG)])++(((((p0.at).b8).1.map ah).map PV.d)++([pS ((p0.at).vA)])))) (l':=(([pI ((p0.at).bg), .d (.slice (((p0.at).bD).map U)),pS ((p0.at).dG)])++(((((p0.at).b8).1.map ah).map PV.d)++([pS ((p0.at).vA)])))) rfl TT.Px rfl rfl rfl rfl (show (ja (p0.at)).map PV.d=_ by simp only [ja,List.map_append];rfl) (aD (A:=[pI ((p0.at).bg), .d (.slice (((p0.at).bD).map U)),pS ((p0.at).dG)]) (b:=17) rfl (aD (A:=(((p0.at).b8).1.map ah).map PV.d) (b:=1) (aq _) rfl rfl) rfl) (bX (aD (A:=[pI (0), .full (([]:(List UInt8)).map U),pS ([]:List UInt8)]) (b:=17) rfl (aD (A:=((aE.rep 16 aa.nil).1.map ah).map PV.d) (b:=1) (aq _) rfl rfl) rfl) bL) (cT ((aD (A:=[pI (0), .full (([]:(List UInt8)).map U),pS ([]:List UInt8)]) (b:=17) rfl (aD (A:=((aE.rep 16 aa.nil).1.map ah).map PV.d) (b:=1) (aq _) rfl rfl) rfl).trans (aD (A:=[pI ((p0.at).bg), .d (.slice (((p0.at).bD).map U)),pS ((p0.at).dG)]) (b:=17) rfl (aD (A:=(((p0.at).b8).1.map ah).map PV.d) (b:=1) (aq _) rfl rfl) rfl).symm)) ?_)
      refine XK.nz ?_
      refine QW.seq ?_
      refine QW.region zL (PW.tN (id:=13) dh (M:=_) rfl (by kernel_rfl) ?_)
      refine RK.st (some 74) rfl rfl (au (v:= .d (.slice (aL.map U))) rfl rfl ?_)
      obtain ⟨Tx,h⟩:=bk h
      refine RK.st (some 75) rfl rfl (bN (l:=aL) (i:=(0:Int)) rfl TT.eD bH rfl rfl Tx ?_)
      refine RK.st (some 76) rfl rfl (aC (d:= .val (.int .u8 ((idx aL (0:Int)).toNat:Int))) rfl TT.kG rfl (di.one) ?_)
      refine RK.st (some 77) rfl rfl (au (v:= .d (ah p0)) rfl rfl ?_)
      refine RK.st (some 78) rfl rfl (au (v:= .d (.slice (aL.map U))) rfl rfl ?_)
      obtain ⟨Tz,h⟩:=bk h
      refine RK.st (some 79) rfl rfl (bN (l:=aL) (i:=(0:Int)) rfl TT.eD bH rfl rfl Tz ?_)
      refine RK.st (some 80) rfl rfl (aC (d:= .val (.int .u8 ((idx aL (0:Int)).toNat:Int))) rfl TT.kG rfl (di.one) ?_)
      obtain ⟨sF,h⟩:=bk h
      refine RK.st (some 81) rfl rfl (dA rfl (dB sF) rfl ?_)
      refine RK.st (some 82) rfl rfl (aO rfl TT.jk (by decide) rfl ?_)
      obtain ⟨EX,h⟩:=bk h
      refine RK.st (some 83) rfl rfl (mD (i:=((idx aL (0:Int)).toNat:Int)) rfl TT.mH TT.kM rfl rfl EX ?_)
      refine RK.st (some 84) rfl rfl (aC (d:=ah (idx ((p0.at).b8).1 ((idx aL (0:Int)).toNat:Int))) rfl TT.hU rfl (om (nB _) EX) ?_)
      refine RK.st (some 85) rfl rfl (au (v:= .d (.slice (aL.map U))) rfl rfl ?_)
      obtain ⟨L0,h⟩:=bk h
      refine RK.st (some 86) rfl rfl (nS (l:=aL) (a:=(1:Int)) (b:=(aL.length:Int)) rfl TT.bC TT.eD bH rfl rfl rfl L0 ?_)
      refine RK.st (some 87) rfl rfl (au (v:=pS iG) rfl rfl ?_)
      obtain ⟨sJ,Oz,h⟩:=bO h
      refine RK.st (some 88) rfl rfl (aA rfl rfl TT.Cq rfl (fP (idx ((p0.at).b8).1 ((idx aL (0:Int)).toNat:Int)) (sub aL (1:Int) (aL.length:Int)) iG _ Oz) ?_)
      refine RK.st (some 89) rfl rfl (fm rfl TT.jk (by decide) rfl ?_)
      obtain ⟨EZ,h⟩:=bk h
      refine RK.st (some 90) rfl rfl (cX (i:=((idx aL (0:Int)).toNat:Int)) rfl TT.mH TT.kM rfl rfl EZ ?_)
      refine RK.st none rfl rfl (bw (l':=(([pI ((p0.at).bg), .d (.slice (((p0.at).bD).map U)),pS ((p0.at).dG)])++((((((p0.at).b8).put ((idx aL (0:Int)).toNat:Int) sJ).1.map ah).map PV.d)++([pS ((p0.at).vA)])))) rfl TT.hU rfl rfl rfl rfl rfl rfl (yS (n:=16) EZ (aD (A:=[pI ((p0.at).bg), .d (.slice (((p0.at).bD).map U)),pS ((p0.at).dG)]) (b:=17) rfl (aD (A:=(((p0.at).b8).1.map ah).map PV.d) (b:=1) (aq _) rfl rfl) rfl) bL) (ql 3 _ rfl (fq _ (Da EZ) (sX EZ))) ?_)
      refine RK.nil ⟨gl.last 17 (by simp) (by simp) (by rfl),(aY ?_)⟩
      refine QW.seq ?_
      refine QW.view (s':=⟨aF [(8, .aK 0 0)],aj [.var (([pI ((p0.at).bg), .d (.slice (((p0.at).bD).map U)),pS ((p0.at).dG)])++((((((p0.at).b8).put ((idx aL (0:Int)).toNat:Int) sJ).1.map ah).map PV.d)++([pS ((p0.at).vA)])))],1,[]⟩) (View.mk 1 [0] _ _ _ rfl rfl (by decide) (iC trivial) (And.intro (by simp only [cF,eR,PV.bR];rfl) trivial) rfl zL rfl) zL ?_
      refine QW.view (s':=⟨aF [(8, .d (ah (aa.of (⟨(p0.at).bg,(p0.at).bD,(p0.at).dG,(((p0.at).b8).put ((idx aL (0:Int)).toNat:Int) sJ),(p0.at).vA⟩:part))))],aj [],0,[]⟩) (View.trans (View.LN (ds:=ja (⟨(p0.at).bg,(p0.at).bD,(p0.at).dG,(((p0.at).b8).put ((idx aL (0:Int)).toNat:Int) sJ),(p0.at).vA⟩:part)) 0 8 rfl (show (ja (⟨(p0.at).bg,(p0.at).bD,(p0.at).dG,(((p0.at).b8).put ((idx aL (0:Int)).toNat:Int) sJ),(p0.at).vA⟩:part)).map PV.d=_ by simp only [ja,List.map_append];rfl) (tQ _) rfl rfl zL) (View.mk 0 [] _ _ _ rfl rfl (by decide) (iC trivial) trivial rfl zL rfl)) zL ?_
      refine rG ?_
      refine xz 6 (.d (ah (aa.of (⟨(p0.at).bg,(p0.at).bD,(p0.at).dG,(((p0.at).b8).put ((idx aL (0:Int)).toNat:Int) sJ),(p0.at).vA⟩:part)))) ?_
      refine QW.ret zL ?_
      obtain rfl:=sO h
      exact Ends.one (.inr rfl) rfl (aG.tmp rfl) rfl rfl
noncomputable def jl:Nat→aa→(List UInt8)→(List UInt8)→Option aa
 | 0=>fun _ _ _=>none
 | n+1=>fun y0 y1 y2=>gm (jl n) y0 y1 y2
theorem uC:∀ (n:Nat) (y0:aa) (y1:(List UInt8)) (y2:(List UInt8)) (rr:aa),jl n y0 y1 y2=some rr→bE Tryz.prog 29 [ah y0, .slice (y1.map U), .val (sV y2)] (ah rr)
 | 0,_,_,_,_,h=>by cases h
 | n+1,y0,y1,y2,rr,h=>Br (jl n) (uC n) y0 y1 y2 rr h
noncomputable def s5 (y0:aa) (y1:(List UInt8)) (y2:(List UInt8)):Option aa:=wX (fun n=>jl n y0 y1 y2)
theorem Cs (y0:aa) (y1:(List UInt8)) (y2:(List UInt8)) (rr:aa) (h:s5 y0 y1 y2=some rr):bE Tryz.prog 29 [ah y0, .slice (y1.map U), .val (sV y2)] (ah rr):=by
 obtain ⟨n,hn⟩:=nY h
 exact uC n y0 y1 y2 rr hn
noncomputable def jx (t0:Tree) (k1:(aE 32 UInt8)) (v2:(List UInt8)):Option (Tree×Int):=
  (bif ((v2==([]:List UInt8))||(decide ((65552:Int)<(v2.length:Int)))) then
  some ((⟨aa.nil⟩:Tree),2)
  else
  ((q7 k1).bind fun (x_2:(List UInt8))=>
  ((s5 (t0.fp) x_2 v2).bind fun (x_4:aa)=>
  some ((⟨x_4⟩:Tree),0))))
theorem vY (t0:Tree) (k1:(aE 32 UInt8)) (v2:(List UInt8)) (r:(Tree×Int)) (h:jx t0 k1 v2=some r):bE Tryz.prog 12 [.agg (dj t0), .agg (k1.1.map U), .val (sV v2)] (.tuple [.agg (dj (r.1)), .val (.int .i64 (r.2))]):=by
 refine bE.ya Tryz.func12 rfl (by simp [Tryz.ntmps12]) TT.Cm ?_
 rw [Tryz.ntmps12,TT.VE]
 refine QW.view (s':=⟨aF [(0, .d (.agg (dj t0))),(1, .d (.agg (k1.1.map U))),(2,pS v2)],aj [],0,[]⟩) (View.init (by rfl)) zL ?_
 unfold jx at h
 refine sR ?_
 refine XK.fz (some 3) rfl rfl (eJ (ds:=dj t0) rfl rfl rfl rfl rfl ?_)
 refine XK.fz (some 4) rfl rfl (eJ (ds:=k1.1.map U) rfl rfl rfl rfl cA ?_)
 refine xs 6 rfl (bP (l:=[.d (ah (aa.nil))]) rfl TT.n4 rfl rfl ?_)
 refine xs 7 rfl (bP (l:=[pI (0)]) rfl TT.yd rfl rfl ?_)
 refine XK.nz ?_
 refine QW.seq ?_
 refine sR ?_
 refine xm 9 (pS v2) ?_
 refine xs 10 rfl (qk (a:=v2) (b:=([]:List UInt8)) rfl rfl rfl ?_)
 refine xm 11 (pB (v2==([]:List UInt8))) ?_
 refine xg 12 (pS v2) rfl rfl (fun hg=>au (v:=pS v2) rfl rfl g3) ?_
 refine xg 13 (pI (v2.length:Int)) rfl rfl (fun hg=>gB (l:=v2) rfl TT.bZ rfl g3) ?_
 refine xg 14 (pB (decide ((65552:Int)<(v2.length:Int)))) rfl rfl (fun hg=>oh (a:=(v2.length:Int)) (b:=(65552:Int)) rfl rfl rfl g3) ?_
 refine xs 15 rfl (gL rfl rfl rfl rfl (fun _=>rfl) (fun hb=>by rw [hb];rfl) ?_)
 refine XK.nz ?_
 refine QW.cond (t:=((v2==([]:List UInt8))||(decide ((65552:Int)<(v2.length:Int))))) rfl zL (fun dm=>?_) (fun dm=>?_)
 ·replace h:=bT h dm
  refine sR ?_
  refine xs 16 rfl (fk (v:= .agg [.d (ah (aa.nil))]) rfl TT.vU (dM rfl dL) ?_)
  refine XK.st none rfl rfl (bw (l':=[.d (ah (aa.nil))]) rfl TT.fC rfl rfl rfl rfl rfl rfl (by simp) rfl ?_)
  refine XK.st none rfl rfl (bw (l':=[pI (2)]) rfl TT.kr rfl rfl rfl rfl rfl rfl (by simp) rfl ?_)
  refine XK.nz ?_
  refine QW.ret zL (eC ?_)
  obtain rfl:=sO h
  exact .inr (Ends.more (.inr rfl) rfl (ps:=[.agg [.d (ah (aa.nil))],pI (2)]) (And.intro (aG.cell rfl rfl TT.fC ⟨⟨by simp,by simp⟩,rfl⟩) (And.intro (aG.cell rfl rfl TT.kr ⟨⟨by simp,by simp⟩,rfl⟩) trivial)) rfl rfl)
 ·replace h:=bF h dm
  refine QW.skip zL (aY ?_)
  refine sR ?_
  refine XK.df (L:=[.aK 1 0]) none rfl rfl rfl rfl rfl ?_
  refine XK.nz ?_
  refine QW.seq ?_
  refine QW.region zL (PW.kC (id:=4) dh (M:=_) rfl (by kernel_rfl) ?_)
  refine RQ.st (some 17) rfl rfl (aO rfl TT.jH (by decide) rfl ⟨⟨rfl,rfl⟩,?_⟩)
  refine RQ.st (some 18) rfl rfl (aC (d:=ah (t0.fp)) rfl TT.hU rfl (di.one) ⟨⟨rfl,rfl⟩,?_⟩)
  refine RQ.st (some 19) rfl rfl (aC (d:= .agg (k1.1.map U)) rfl TT.iB rfl (nU (by rw [List.length_map,k1.2])) ⟨⟨rfl,rfl⟩,?_⟩)
  obtain ⟨x_2,nD,h⟩:=bO h
  refine RQ.st (some 20) rfl rfl (aA rfl rfl TT.Co rfl (xD k1 _ nD) ⟨⟨rfl,rfl⟩,?_⟩)
  refine RQ.st (some 21) rfl rfl (au (v:=pS v2) rfl rfl ⟨⟨rfl,rfl⟩,?_⟩)
  obtain ⟨x_4,kZ,h⟩:=bO h
  refine RQ.st (some 22) rfl rfl (aA rfl rfl TT.Cq rfl (Cs (t0.fp) x_2 v2 _ kZ) ⟨⟨rfl,rfl⟩,?_⟩)
  refine RQ.st (some 8) rfl rfl (cq (v:= .d (ah x_4)) rfl rfl ⟨⟨rfl,rfl⟩,?_⟩)
  refine RQ.nil (aY ?_)
  refine sR ?_
  refine xm 23 (.d (ah x_4)) ?_
  refine xs 24 rfl (fk (v:= .agg [.d (ah x_4)]) rfl TT.vU (dM rfl (cx (cells':=[.d (ah x_4)]) rfl rfl rfl bL rfl dL)) ?_)
  refine XK.st none rfl rfl (bw (l':=[.d (ah x_4)]) rfl TT.fC rfl rfl rfl rfl rfl rfl (by simp) rfl ?_)
  refine XK.st none rfl rfl (bw (l':=[pI (0)]) rfl TT.kr rfl rfl rfl rfl rfl rfl (by simp) rfl ?_)
  refine XK.nz ?_
  refine QW.ret zL ?_
  obtain rfl:=sO h
  exact .inl (vu.more [.agg [.d (ah x_4)],pI (0)] 1 (pI (0)) (pI (0)) none rfl rfl (kz 0) rfl rfl rfl (And.intro (aG.cell rfl rfl TT.fC ⟨⟨by simp,by simp⟩,rfl⟩) (And.intro (aG.cell rfl rfl TT.kr ⟨⟨by simp,by simp⟩,rfl⟩) trivial)) rfl)
inductive Hh where
 | S
 | L1 (v10:Int) (qn:aa) (mJ:aa)
noncomputable def lB (l0:(List bt)):Hh→Option (Hh⊕Tree)
 | .S=>
  some (.inl (.L1 (0) (aa.nil) (aa.nil)))
 | .L1 v10 qn mJ=>
  (bif (decide (v10<(l0.length:Int))) then
  gO (0≤v10∧v10<(l0.length:Int)) (
  ((jx (⟨mJ⟩:Tree) ((idx l0 v10).bQ) ((idx l0 v10).ay)).bind fun (x_4:(Tree×Int))=>
  (bif (decide ((x_4.2)=(0:Int))) then
  gO (bA (v10+(1:Int))) (
  some (.inl (.L1 (v10+(1:Int)) qn ((x_4.1).fp))))
  else
  gO (bA (v10+(1:Int))) (
  some (.inl (.L1 (v10+(1:Int)) qn mJ))))))
  else
  some (.inr (⟨mJ⟩:Tree)))
noncomputable def s6 (l0:(List bt)):Option Tree:=gU (lB l0) .S
theorem Dk (l0:(List bt)) (r:Tree) (h:s6 l0=some r):bE Tryz.prog 18 [.slice (l0.map bq)] (.agg (dj r)):=by
 refine bE.aU Tryz.func18 rfl (by simp [Tryz.ntmps18]) ?_
 rw [Tryz.ntmps18,TT.VG]
 refine QW.view (s':=⟨aF [(0, .d (.slice (l0.map bq)))],aj [],0,[]⟩) (View.init (by rfl)) zL ?_
 replace h:=cG h
 obtain ⟨_,h⟩:=h
 obtain ⟨c8,rfl,h9⟩:=aQ h;replace h:=h9;clear h9;rw [lB] at h
 refine sR ?_
 refine xs 2 rfl (bP (l:=[.d (ah (aa.nil))]) rfl TT.n4 rfl rfl ?_)
 refine XK.nz ?_
 refine sR ?_
 refine xs 3 rfl (bP (l:=[.d (ah (aa.nil))]) rfl TT.n4 rfl rfl ?_)
 refine XK.nz ?_
 refine QW.seq ?_
 refine sR ?_
 refine xm 8 (.d (.slice (l0.map bq))) ?_
 refine xs 9 rfl (cM (en:=bq) (l:=l0) rfl TT.nZ rfl ?_)
 refine xm 10 (pI (0)) ?_
 refine XK.nz ?_
 refine QW.block ?_
 refine QW.loop (fun k σ=>∃ v10:Int,∃ qn:aa,∃ mJ:aa,k≤c8∧run (lB l0) k (.L1 v10 qn mJ)=some r∧σ=⟨aF [(2, .aK 0 0),(3, .aK 1 0),(8, .d (.slice (l0.map bq))),(9,pI (l0.length:Int)),(10,pI v10)],aj [.var [.d (ah qn)], .var [.d (ah mJ)]],2,[]⟩) c8 zL ⟨⟨aF [(2, .aK 0 0),(3, .aK 1 0),(8, .d (.slice (l0.map bq))),(9,pI (l0.length:Int)),(10,pI (0))],aj [.var [.d (ah (aa.nil))], .var [.d (ah (aa.nil))]],2,[]⟩,View.mk 2 [0,1] _ _ _ rfl rfl (by decide) (iC (iC (iC (iC (iC trivial))))) (And.intro rfl (And.intro rfl trivial)) rfl zL rfl,0,aa.nil,aa.nil,Nat.le_refl _,jG h,rfl⟩ ?_
 rintro pZ _ ⟨v10,qn,mJ,p4,h,rfl⟩
 obtain ⟨k_1,rfl,h9⟩:=aQ h;replace h:=h9;clear h9;rw [lB] at h
 refine sR ?_
 refine xs 11 rfl (cK (a:=v10) (b:=(l0.length:Int)) rfl rfl rfl ?_)
 refine XK.nz ?_
 refine QW.seq ?_
 refine QW.cond (t:=(decide (v10<(l0.length:Int)))) rfl zL (fun cv=>?_) (fun cv=>?_)
 ·replace h:=eX h cv
  refine QW.skip zL (aY ?_)
  refine QW.seq ?_
  refine QW.block ?_
  refine sR ?_
  obtain ⟨dP,h⟩:=gG h
  refine xs 12 rfl (bN (l:=l0) (i:=v10) rfl TT.oY dN rfl rfl dP ?_)
  refine xs 13 rfl (aC (d:= .agg (iD (idx l0 v10))) rfl TT.Dj rfl (⟨by rw [dN.len];decide,congrArg D.agg (List.take_of_length_le (by rw [dN.len];decide))⟩) ?_)
  refine xs 5 rfl (bP (l:=((iD (⟨(aE.rep 32 (0:UInt8)),([]:(List UInt8))⟩:bt)).map .d)) rfl TT.QN rfl rfl ?_)
  refine XK.st none rfl rfl (bw (l':=((iD (idx l0 v10)).map .d)) rfl TT.Dj rfl rfl rfl rfl rfl (Pq (dN.len _)) (Sp (dN.len _)) (Pp ((dN.len _).trans (dN.len _).symm)) ?_)
  refine XK.nz ?_
  refine sR ?_
  refine XK.as (some 15) rfl rfl (bx (v:= .agg [.d (ah mJ)]) rfl TT.fC rfl rfl ⟨⟨by simp,by simp⟩,rfl⟩ ⟨.d (.agg (dj (⟨mJ⟩:Tree))),(iy.cW rfl),?_⟩)
  refine xs 16 rfl (fm rfl TT.oX (by decide) rfl ?_)
  refine XK.as (some 17) rfl rfl (bx rfl TT.iB rfl rfl (sU (nC _) (by rw [dN.len];decide) (by decide)) ⟨.d (.agg (((idx l0 v10).bQ).1.map U)),ia,?_⟩)
  refine xs 18 rfl (fm rfl TT.Cr (by decide) rfl ?_)
  refine xs 19 rfl (bx (v:=pS ((idx l0 v10).ay)) rfl TT.fF rfl rfl (x6 (Af _) (by rw [dN.len];decide) (by decide)) ?_)
  obtain ⟨x_4,kZ,h⟩:=bG h
  refine xs 20 rfl (aA rfl rfl TT.G8 rfl (vY (⟨mJ⟩:Tree) ((idx l0 v10).bQ) ((idx l0 v10).ay) _ kZ) ?_)
  refine xm 14 (.d (.tuple [.agg (dj (x_4.1)), .val (.int .i64 (x_4.2))])) ?_
  refine xs 21 rfl (bz rfl rfl rfl ?_)
  refine xs 22 rfl (bz rfl rfl rfl ?_)
  refine xs 6 rfl (bP (l:=[.d (ah (aa.nil))]) rfl TT.n4 rfl rfl ?_)
  refine XK.st none rfl rfl (bw (l':=[.d (ah ((x_4.1).fp))]) rfl TT.fC rfl rfl rfl rfl rfl rfl (by simp) rfl ?_)
  refine xz 7 (pI (x_4.2)) ?_
  refine QW.seq ?_
  refine QW.view (s':=⟨aF [(2, .aK 0 0),(3, .aK 1 0),(6, .aK 2 0),(7,pI (x_4.2)),(8, .d (.slice (l0.map bq))),(9,pI (l0.length:Int)),(10,pI v10)],aj [.var [.d (ah qn)], .var [.d (ah mJ)], .var [.d (ah ((x_4.1).fp))]],3,[]⟩) (View.mk 3 [0,1,3] _ _ _ rfl rfl (by decide) (iC (iC (iC (iC (iC (iC (iC trivial))))))) (And.intro rfl (And.intro rfl (And.intro rfl trivial))) rfl zL rfl) zL ?_
  refine rG ?_
  refine xm 23 (pI (x_4.2)) ?_
  refine xs 24 rfl (ej (a:=(x_4.2)) (b:=(0:Int)) rfl rfl rfl ?_)
  refine XK.nz ?_
  refine QW.cond (t:=(decide ((x_4.2)=(0:Int)))) rfl zL (fun lO=>?_) (fun lO=>?_)
  ·replace h:=eX h lO
   refine rG ?_
   refine XK.as (some 25) rfl rfl (bx (v:= .agg [.d (ah ((x_4.1).fp))]) rfl TT.fC rfl rfl ⟨⟨by simp,by simp⟩,rfl⟩ ⟨.d (.agg (dj (x_4.1))),(iy.cW rfl),?_⟩)
   refine XK.st none rfl rfl (bw (l':=[.d (ah ((x_4.1).fp))]) rfl TT.fC rfl rfl rfl rfl rfl rfl (by simp) rfl ?_)
   refine XK.nil (gC (aY ?_))
   refine rG ?_
   obtain ⟨mc,h⟩:=gG h
   refine xs 26 rfl (bY (a:=v10) (b:=(1:Int)) rfl rfl rfl mc ?_)
   refine xm 10 (pI (v10+(1:Int))) ?_
   refine XK.nz ?_
   exact ⟨k_1,by omega,⟨aF [(2, .aK 0 0),(3, .aK 1 0),(8, .d (.slice (l0.map bq))),(9,pI (l0.length:Int)),(10,pI (v10+(1:Int)))],aj [.var [.d (ah qn)], .var [.d (ah ((x_4.1).fp))]],2,[]⟩,View.mk 2 [0,1] _ _ _ rfl rfl (by decide) (iC (iC (iC (iC (iC trivial))))) (And.intro rfl (And.intro rfl trivial)) rfl zL rfl,(v10+(1:Int)),qn,(x_4.1).fp,by omega,jG h,rfl⟩
  ·replace h:=eY h lO
   refine QW.skip zL (gC (aY ?_))
   refine rG ?_
   obtain ⟨rM,h⟩:=gG h
   refine xs 26 rfl (bY (a:=v10) (b:=(1:Int)) rfl rfl rfl rM ?_)
   refine xm 10 (pI (v10+(1:Int))) ?_
   refine XK.nz ?_
   exact ⟨k_1,by omega,⟨aF [(2, .aK 0 0),(3, .aK 1 0),(8, .d (.slice (l0.map bq))),(9,pI (l0.length:Int)),(10,pI (v10+(1:Int)))],aj [.var [.d (ah qn)], .var [.d (ah mJ)]],2,[]⟩,View.mk 2 [0,1] _ _ _ rfl rfl (by decide) (iC (iC (iC (iC (iC trivial))))) (And.intro rfl (And.intro rfl trivial)) rfl zL rfl,(v10+(1:Int)),qn,mJ,by omega,jG h,rfl⟩
 ·replace h:=eY h cv
  refine QW.exit zL (eA (eA (jY (aY ?_))))
  refine sR ?_
  refine XK.as (some 27) rfl rfl (bx (v:= .agg [.d (ah mJ)]) rfl TT.fC rfl rfl ⟨⟨by simp,by simp⟩,rfl⟩ ⟨.d (.agg (dj (⟨mJ⟩:Tree))),(iy.cW rfl),?_⟩)
  refine XK.st none rfl rfl (bw (l':=[.d (ah mJ)]) rfl TT.fC rfl rfl rfl rfl rfl rfl (by simp) rfl ?_)
  refine XK.nz ?_
  refine QW.ret zL ?_
  obtain rfl:=sG h
  exact Ends.one (.inr rfl) rfl (aG.cell rfl rfl TT.fC ⟨⟨by simp,by simp⟩,rfl⟩) rfl rfl
inductive pP where
 | S
 | L1 (qb:Int)
noncomputable def cP (v0:(List UInt8)) (v1:(List UInt8)):pP→Option (pP⊕Bool)
 | .S=>
  (bif (!decide ((v0.length:Int)=(v1.length:Int))) then
  some (.inr false)
  else
  some (.inl (.L1 (0))))
 | .L1 qb=>
  (bif (decide (qb<(v0.length:Int))) then
  gO (0≤qb∧qb<(v0.length:Int)) (
  gO (0≤qb∧qb<(v1.length:Int)) (
  (bif (!decide (((idx v0 qb).toNat:Int)=((idx v1 qb).toNat:Int))) then
  some (.inr false)
  else
  gO (bA (qb+(1:Int))) (
  some (.inl (.L1 (qb+(1:Int))))))))
  else
  some (.inr true))
noncomputable def mg (v0:(List UInt8)) (v1:(List UInt8)):Option Bool:=gU (cP v0 v1) .S
theorem uX (v0:(List UInt8)) (v1:(List UInt8)) (r:Bool) (h:mg v0 v1=some r):bE Tryz.prog 46 [.slice (v0.map U), .slice (v1.map U)] (.val (.bool r)):=by
 refine bE.aU Tryz.func46 rfl (by simp [Tryz.ntmps46]) ?_
 rw [Tryz.ntmps46,TT.VQ]
 refine QW.view (s':=⟨aF [(0, .d (.slice (v0.map U))),(1, .d (.slice (v1.map U)))],aj [],0,[]⟩) (View.init (by rfl)) zL ?_
 replace h:=cG h
 obtain ⟨_,h⟩:=h
 obtain ⟨c8,rfl,h9⟩:=aQ h;replace h:=h9;clear h9;rw [cP] at h
 refine sR ?_
 refine xz 4 (pB false) ?_
 refine QW.seq ?_
 refine sR ?_
 refine xm 6 (.d (.slice (v0.map U))) ?_
 refine xs 7 rfl (cM (en:=U) (l:=v0) rfl TT.bC rfl ?_)
 refine xm 8 (.d (.slice (v1.map U))) ?_
 refine xs 9 rfl (cM (en:=U) (l:=v1) rfl TT.bC rfl ?_)
 refine xs 10 rfl (oa (a:=(v0.length:Int)) (b:=(v1.length:Int)) rfl rfl rfl ?_)
 refine XK.nz ?_
 refine QW.cond (t:=(!decide ((v0.length:Int)=(v1.length:Int)))) rfl zL (fun dm=>?_) (fun dm=>?_)
 ·replace h:=eX h dm
  refine sR ?_
  refine xz 4 (pB false) ?_
  refine QW.ret zL (eC ?_)
  obtain rfl:=sG h
  exact Ends.one (.inr rfl) rfl (aG.tmp rfl) rfl rfl
 ·replace h:=eY h dm
  refine QW.skip zL (aY ?_)
  refine QW.seq ?_
  refine sR ?_
  refine xm 11 (.d (.slice (v0.map U))) ?_
  refine xs 12 rfl (cM (en:=U) (l:=v0) rfl TT.bC rfl ?_)
  refine xm 13 (pI (0)) ?_
  refine XK.nz ?_
  refine QW.block ?_
  refine QW.loop (fun k σ=>∃ qb:Int,k≤c8∧run (cP v0 v1) k (.L1 qb)=some r∧σ=⟨aF [(0, .d (.slice (v0.map U))),(1, .d (.slice (v1.map U))),(12,pI (v0.length:Int)),(13,pI qb)],aj [],0,[]⟩) c8 zL ⟨⟨aF [(0, .d (.slice (v0.map U))),(1, .d (.slice (v1.map U))),(12,pI (v0.length:Int)),(13,pI (0))],aj [],0,[]⟩,View.mk 0 [] _ _ _ rfl rfl (by decide) (iC (iC (iC (iC trivial)))) trivial rfl zL rfl,0,Nat.le_refl _,jG h,rfl⟩ ?_
  rintro S9 _ ⟨qb,Ta,h,rfl⟩
  obtain ⟨k_2,rfl,h9⟩:=aQ h;replace h:=h9;clear h9;rw [cP] at h
  refine sR ?_
  refine xs 14 rfl (cK (a:=qb) (b:=(v0.length:Int)) rfl rfl rfl ?_)
  refine XK.nz ?_
  refine QW.seq ?_
  refine QW.cond (t:=(decide (qb<(v0.length:Int)))) rfl zL (fun dW=>?_) (fun dW=>?_)
  ·replace h:=eX h dW
   refine QW.skip zL (aY ?_)
   refine QW.seq ?_
   refine QW.block ?_
   refine sR ?_
   refine xm 15 (pI qb) ?_
   refine xz 5 (pI qb) ?_
   refine QW.seq ?_
   refine QW.region zL (PW.kC (id:=6) dh (M:=_) rfl (by kernel_rfl) ?_)
   refine RQ.st (some 16) rfl rfl (au (v:= .d (.slice (v0.map U))) rfl rfl ⟨⟨rfl,rfl⟩,?_⟩)
   refine RQ.st (some 17) rfl rfl (au (v:=pI qb) rfl rfl ⟨⟨rfl,rfl⟩,?_⟩)
   obtain ⟨lY,h⟩:=gG h
   refine RQ.st (some 18) rfl rfl (bN (l:=v0) (i:=qb) rfl TT.eD bH rfl rfl lY ⟨⟨rfl,rfl⟩,?_⟩)
   refine RQ.st (some 19) rfl rfl (aC (d:= .val (.int .u8 ((idx v0 qb).toNat:Int))) rfl TT.kG rfl (di.one) ⟨⟨rfl,rfl⟩,?_⟩)
   refine RQ.st (some 20) rfl rfl (au (v:= .d (.slice (v1.map U))) rfl rfl ⟨⟨rfl,rfl⟩,?_⟩)
   refine RQ.st (some 21) rfl rfl (au (v:=pI qb) rfl rfl ⟨⟨rfl,rfl⟩,?_⟩)
   obtain ⟨mR,h⟩:=gG h
   refine RQ.st (some 22) rfl rfl (bN (l:=v1) (i:=qb) rfl TT.eD bH rfl rfl mR ⟨⟨rfl,rfl⟩,?_⟩)
   refine RQ.st (some 23) rfl rfl (aC (d:= .val (.int .u8 ((idx v1 qb).toNat:Int))) rfl TT.kG rfl (di.one) ⟨⟨rfl,rfl⟩,?_⟩)
   refine RQ.st (some 24) rfl rfl (oa (a:=((idx v0 qb).toNat:Int)) (b:=((idx v1 qb).toNat:Int)) rfl rfl rfl ⟨⟨rfl,rfl⟩,?_⟩)
   refine RQ.nil (aY ?_)
   refine QW.cond (t:=(!decide (((idx v0 qb).toNat:Int)=((idx v1 qb).toNat:Int)))) rfl zL (fun lO=>?_) (fun lO=>?_)
   ·replace h:=eX h lO
    refine sR ?_
    refine xz 4 (pB false) ?_
    refine QW.ret zL (mO (eC (eC (mO (eC ?_)))))
    obtain rfl:=sG h
    exact Ends.one (.inr rfl) rfl (aG.tmp rfl) rfl rfl
   ·replace h:=eY h lO
    refine QW.skip zL (gC (aY ?_))
    refine rG ?_
    obtain ⟨mc,h⟩:=gG h
    refine xs 25 rfl (bY (a:=qb) (b:=(1:Int)) rfl rfl rfl mc ?_)
    refine xm 13 (pI (qb+(1:Int))) ?_
    refine XK.nz ?_
    exact ⟨k_2,by omega,⟨aF [(0, .d (.slice (v0.map U))),(1, .d (.slice (v1.map U))),(12,pI (v0.length:Int)),(13,pI (qb+(1:Int)))],aj [],0,[]⟩,View.mk 0 [] _ _ _ rfl rfl (by decide) (iC (iC (iC (iC trivial)))) trivial rfl zL rfl,(qb+(1:Int)),by omega,jG h,rfl⟩
  ·replace h:=eY h dW
   refine QW.exit zL (eA (eA (jY (aY ?_))))
   refine sR ?_
   refine xz 4 (pB true) ?_
   refine QW.ret zL ?_
   obtain rfl:=sG h
   exact Ends.one (.inr rfl) rfl (aG.tmp rfl) rfl rfl
noncomputable def gX (self:aa→(List UInt8)→Option ((List UInt8)×Bool)) (p0:aa) (aL:(List UInt8)):Option ((List UInt8)×Bool):=
  (bif p0.isNil then
  some (([]:List UInt8),false)
  else
  gO (p0.isNil=false) (
  (bif (decide (((p0.at).bg)=(-1:Int))) then
  none
  else
  (bif (decide (((p0.at).bg)=(1:Int))) then
  gO (p0.isNil=false) (
  gO (p0.isNil=false) (
  ((mg ((p0.at).bD) aL).bind fun (x_7:Bool)=>
  some ((p0.at).dG,x_7))))
  else
  (bif (decide (((p0.at).bg)=(2:Int))) then
  gO (p0.isNil=false) (
  gO (p0.isNil=false) (
  ((tv ((p0.at).bD) aL).bind fun (x_12:Int)=>
  (bif (decide (x_12<(((p0.at).bD).length:Int))) then
  some (([]:List UInt8),false)
  else
  gO (p0.isNil=false) (
  gO (0≤(((p0.at).bD).length:Int)∧(((p0.at).bD).length:Int)≤(aL.length:Int)∧(aL.length:Int)≤(aL.length:Int)) (
  ((self (idx ((p0.at).b8).1 (0:Int)) (sub aL (((p0.at).bD).length:Int) (aL.length:Int))).bind fun (x_17:((List UInt8)×Bool))=>
  some (x_17.1,x_17.2))))))))
  else
  gO (0≤(0:Int)∧(0:Int)<(aL.length:Int)) (
  gO (p0.isNil=false) (
  gO (0≤((idx aL (0:Int)).toNat:Int)∧((idx aL (0:Int)).toNat:Int)<((16:Nat):Int)) (
  gO (0≤(1:Int)∧(1:Int)≤(aL.length:Int)∧(aL.length:Int)≤(aL.length:Int)) (
  ((self (idx ((p0.at).b8).1 ((idx aL (0:Int)).toNat:Int)) (sub aL (1:Int) (aL.length:Int))).bind fun (x_23:((List UInt8)×Bool))=>
  some (x_23.1,x_23.2)))))))))))
theorem Bs (self:aa→(List UInt8)→Option ((List UInt8)×Bool)) (fP:∀ (y0:aa) (y1:(List UInt8)) (rr:((List UInt8)×Bool)),self y0 y1=some rr→bE Tryz.prog 28 [ah y0, .slice (y1.map U)] (.tuple [.val (sV (rr.1)), .val (.bool (rr.2))])) (p0:aa) (aL:(List UInt8)) (r:((List UInt8)×Bool)) (h:gX self p0 aL=some r):bE Tryz.prog 28 [ah p0, .slice (aL.map U)] (.tuple [.val (sV (r.1)), .val (.bool (r.2))]):=by
 refine bE.aU Tryz.func28 rfl (by simp [Tryz.ntmps28]) ?_
 rw [Tryz.ntmps28,TT.VL]
 refine QW.view (s':=⟨aF [(0, .d (ah p0)),(1, .d (.slice (aL.map U)))],aj [],0,[]⟩) (View.init (by rfl)) zL ?_
 unfold gX at h
 refine sR ?_
 refine xa 4 (pS ([]:List UInt8)) ?_
 refine xz 5 (pB false) ?_
 refine QW.seq ?_
 refine sR ?_
 refine xm 7 (.d (ah p0)) ?_
 refine xs 8 rfl (Aa rfl TT.ry rfl rfl ?_)
 refine XK.nz ?_
 refine QW.cond (t:=p0.isNil) rfl zL (fun dm=>?_) (fun dm=>?_)
 ·replace h:=bT h dm
  refine sR ?_
  refine xa 4 (pS ([]:List UInt8)) ?_
  refine xz 5 (pB false) ?_
  refine QW.ret zL (eC ?_)
  obtain rfl:=sO h
  exact Ends.more (.inr rfl) rfl (ps:=[pS ([]:List UInt8),pB false]) (And.intro (aG.tmp rfl) (And.intro (aG.tmp rfl) trivial)) rfl rfl
 ·replace h:=bF h dm
  refine QW.skip zL (aY ?_)
  refine QW.seq ?_
  refine sR ?_
  refine xm 9 (.d (ah p0)) ?_
  obtain ⟨xE,h⟩:=bk h
  refine xs 10 rfl (dA rfl (dB xE) rfl ?_)
  refine xs 11 rfl (aO rfl TT.lS (by decide) rfl ?_)
  refine xs 12 rfl (aC (d:= .val (.int .i64 ((p0.at).bg))) rfl TT.l9 rfl (kH _) ?_)
  refine XK.nz ?_
  refine QW.block ?_
  refine sR ?_
  refine xs 14 rfl (ej (a:=((p0.at).bg)) (b:=(-1:Int)) rfl rfl rfl ?_)
  refine xz 13 (pB (decide (((p0.at).bg)=(-1:Int)))) ?_
  refine QW.cond (t:=(decide (((p0.at).bg)=(-1:Int)))) rfl zL (fun dW=>?_) (fun dW=>?_)
  ·replace h:=bT h dW
   refine rG ?_
   refine xs 15 rfl (fk (v:= .agg []) rfl TT.G7 (dM rfl dL) ?_)
   refine xs 16 rfl (AY (y:= .agg []) rfl rfl TT.Au ?_)
   refine XK.panic rfl rfl rfl (Ks (sx ?_))
   cases h
  ·replace h:=bF h dW
   refine sR ?_
   refine xs 18 rfl (ej (a:=((p0.at).bg)) (b:=(1:Int)) rfl rfl rfl ?_)
   refine xz 17 (pB (decide (((p0.at).bg)=(1:Int)))) ?_
   refine QW.cond (t:=(decide (((p0.at).bg)=(1:Int)))) rfl zL (fun gD=>?_) (fun gD=>?_)
   ·replace h:=bT h gD
    refine QW.seq ?_
    refine QW.region zL (PW.kC (id:=7) dh (M:=_) rfl (by kernel_rfl) ?_)
    refine RQ.st (some 19) rfl rfl (au (v:= .d (ah p0)) rfl rfl ⟨⟨rfl,rfl⟩,?_⟩)
    obtain ⟨mR,h⟩:=bk h
    refine RQ.st (some 20) rfl rfl (dA rfl (dB mR) rfl ⟨⟨rfl,rfl⟩,?_⟩)
    refine RQ.st (some 21) rfl rfl (aO rfl TT.y7 (by decide) rfl ⟨⟨rfl,rfl⟩,?_⟩)
    refine RQ.st (some 22) rfl rfl (aC (d:= .val (sV ((p0.at).dG))) rfl TT.fF rfl (w4 _) ⟨⟨rfl,rfl⟩,?_⟩)
    refine RQ.st (some 23) rfl rfl (au (v:= .d (ah p0)) rfl rfl ⟨⟨rfl,rfl⟩,?_⟩)
    obtain ⟨lZ,h⟩:=bk h
    refine RQ.st (some 24) rfl rfl (dA rfl (dB lZ) rfl ⟨⟨rfl,rfl⟩,?_⟩)
    refine RQ.st (some 25) rfl rfl (aO rfl TT.jI (by decide) rfl ⟨⟨rfl,rfl⟩,?_⟩)
    refine RQ.st (some 26) rfl rfl (aC (d:= .slice (((p0.at).bD).map U)) rfl TT.fB rfl (iR _) ⟨⟨rfl,rfl⟩,?_⟩)
    refine RQ.st (some 27) rfl rfl (au (v:= .d (.slice (aL.map U))) rfl rfl ⟨⟨rfl,rfl⟩,?_⟩)
    obtain ⟨x_7,oo,h⟩:=bO h
    refine RQ.st (some 28) rfl rfl (aA rfl rfl TT.Ov rfl (uX ((p0.at).bD) aL _ oo) ⟨⟨rfl,rfl⟩,?_⟩)
    refine RQ.st (some 4) rfl rfl (cq (v:=pS ((p0.at).dG)) rfl rfl ⟨⟨rfl,rfl⟩,?_⟩)
    refine RQ.st (some 5) rfl rfl (cq (v:=pB x_7) rfl rfl ⟨⟨rfl,rfl⟩,?_⟩)
    refine RQ.nil (aY ?_)
    refine QW.ret zL (mO (eC ?_))
    obtain rfl:=sO h
    exact Ends.more (.inr rfl) rfl (ps:=[pS ((p0.at).dG),pB x_7]) (And.intro (aG.tmp rfl) (And.intro (aG.tmp rfl) trivial)) rfl rfl
   ·replace h:=bF h gD
    refine sR ?_
    refine xs 30 rfl (ej (a:=((p0.at).bg)) (b:=(2:Int)) rfl rfl rfl ?_)
    refine xz 29 (pB (decide (((p0.at).bg)=(2:Int)))) ?_
    refine QW.cond (t:=(decide (((p0.at).bg)=(2:Int)))) rfl zL (fun oU=>?_) (fun oU=>?_)
    ·replace h:=bT h oU
     refine sR ?_
     refine xm 31 (.d (ah p0)) ?_
     obtain ⟨oq,h⟩:=bk h
     refine xs 32 rfl (dA rfl (dB oq) rfl ?_)
     refine xs 33 rfl (aO rfl TT.jI (by decide) rfl ?_)
     refine xs 34 rfl (aC (d:= .slice (((p0.at).bD).map U)) rfl TT.fB rfl (iR _) ?_)
     refine xs 35 rfl (cM (en:=U) (l:=(p0.at).bD) rfl TT.bC rfl ?_)
     refine xz 6 (pI (((p0.at).bD).length:Int)) ?_
     refine QW.seq ?_
     refine sR ?_
     refine xm 36 (.d (ah p0)) ?_
     obtain ⟨vG,h⟩:=bk h
     refine xs 37 rfl (dA rfl (dB vG) rfl ?_)
     refine xs 38 rfl (aO rfl TT.jI (by decide) rfl ?_)
     refine xs 39 rfl (aC (d:= .slice (((p0.at).bD).map U)) rfl TT.fB rfl (iR _) ?_)
     refine xm 40 (.d (.slice (aL.map U))) ?_
     obtain ⟨x_12,rO,h⟩:=bO h
     refine xs 41 rfl (aA rfl rfl TT.Hf rfl (zC ((p0.at).bD) aL _ rO) ?_)
     refine xm 42 (pI (((p0.at).bD).length:Int)) ?_
     refine xs 43 rfl (cK (a:=x_12) (b:=(((p0.at).bD).length:Int)) rfl rfl rfl ?_)
     refine XK.nz ?_
     refine QW.cond (t:=(decide (x_12<(((p0.at).bD).length:Int)))) rfl zL (fun qA=>?_) (fun qA=>?_)
     ·replace h:=bT h qA
      refine sR ?_
      refine xa 4 (pS ([]:List UInt8)) ?_
      refine xz 5 (pB false) ?_
      refine QW.ret zL (eC (mO (eC ?_)))
      obtain rfl:=sO h
      exact Ends.more (.inr rfl) rfl (ps:=[pS ([]:List UInt8),pB false]) (And.intro (aG.tmp rfl) (And.intro (aG.tmp rfl) trivial)) rfl rfl
     ·replace h:=bF h qA
      refine QW.skip zL (aY ?_)
      refine QW.seq ?_
      refine QW.region zL (PW.kC (id:=12) dh (M:=_) rfl (by kernel_rfl) ?_)
      refine RQ.st (some 44) rfl rfl (au (v:= .d (ah p0)) rfl rfl ⟨⟨rfl,rfl⟩,?_⟩)
      obtain ⟨vH,h⟩:=bk h
      refine RQ.st (some 45) rfl rfl (dA rfl (dB vH) rfl ⟨⟨rfl,rfl⟩,?_⟩)
      refine RQ.st (some 46) rfl rfl (aO rfl TT.jk (by decide) rfl ⟨⟨rfl,rfl⟩,?_⟩)
      refine RQ.st (some 47) rfl rfl (mD (i:=(0:Int)) rfl TT.mH TT.kM rfl rfl (by decide) ⟨⟨rfl,rfl⟩,?_⟩)
      refine RQ.st (some 48) rfl rfl (aC (d:=ah (idx ((p0.at).b8).1 (0:Int))) rfl TT.hU rfl (om (nB _) (by decide)) ⟨⟨rfl,rfl⟩,?_⟩)
      refine RQ.st (some 49) rfl rfl (au (v:= .d (.slice (aL.map U))) rfl rfl ⟨⟨rfl,rfl⟩,?_⟩)
      refine RQ.st (some 50) rfl rfl (au (v:=pI (((p0.at).bD).length:Int)) rfl rfl ⟨⟨rfl,rfl⟩,?_⟩)
      obtain ⟨oP,h⟩:=bk h
      refine RQ.st (some 51) rfl rfl (nS (l:=aL) (a:=(((p0.at).bD).length:Int)) (b:=(aL.length:Int)) rfl TT.bC TT.eD bH rfl rfl rfl oP ⟨⟨rfl,rfl⟩,?_⟩)
      obtain ⟨x_17,Ck,h⟩:=bO h
      refine RQ.st (some 52) rfl rfl (aA rfl rfl TT.Cp rfl (fP (idx ((p0.at).b8).1 (0:Int)) (sub aL (((p0.at).bD).length:Int) (aL.length:Int)) _ Ck) ⟨⟨rfl,rfl⟩,?_⟩)
      refine RQ.st (some 53) rfl rfl (bz rfl rfl rfl ⟨⟨rfl,rfl⟩,?_⟩)
      refine RQ.st (some 54) rfl rfl (bz rfl rfl rfl ⟨⟨rfl,rfl⟩,?_⟩)
      refine RQ.st (some 4) rfl rfl (cq (v:=pS (x_17.1)) rfl rfl ⟨⟨rfl,rfl⟩,?_⟩)
      refine RQ.st (some 5) rfl rfl (cq (v:=pB (x_17.2)) rfl rfl ⟨⟨rfl,rfl⟩,?_⟩)
      refine RQ.nil (aY ?_)
      refine QW.ret zL (mO (eC ?_))
      obtain rfl:=sO h
      exact Ends.more (.inr rfl) rfl (ps:=[pS (x_17.1),pB (x_17.2)]) (And.intro (aG.tmp rfl) (And.intro (aG.tmp rfl) trivial)) rfl rfl
    ·replace h:=bF h oU
     refine QW.skip zL (gC (aY ?_))
     refine QW.seq ?_
     refine QW.region zL (PW.kC (id:=13) dh (M:=_) rfl (by kernel_rfl) ?_)
     refine RQ.st (some 55) rfl rfl (au (v:= .d (ah p0)) rfl rfl ⟨⟨rfl,rfl⟩,?_⟩)
     refine RQ.st (some 56) rfl rfl (au (v:= .d (.slice (aL.map U))) rfl rfl ⟨⟨rfl,rfl⟩,?_⟩)
     obtain ⟨yp,h⟩:=bk h
     refine RQ.st (some 57) rfl rfl (bN (l:=aL) (i:=(0:Int)) rfl TT.eD bH rfl rfl yp ⟨⟨rfl,rfl⟩,?_⟩)
     refine RQ.st (some 58) rfl rfl (aC (d:= .val (.int .u8 ((idx aL (0:Int)).toNat:Int))) rfl TT.kG rfl (di.one) ⟨⟨rfl,rfl⟩,?_⟩)
     obtain ⟨vS,h⟩:=bk h
     refine RQ.st (some 59) rfl rfl (dA rfl (dB vS) rfl ⟨⟨rfl,rfl⟩,?_⟩)
     refine RQ.st (some 60) rfl rfl (aO rfl TT.jk (by decide) rfl ⟨⟨rfl,rfl⟩,?_⟩)
     obtain ⟨Jt,h⟩:=bk h
     refine RQ.st (some 61) rfl rfl (mD (i:=((idx aL (0:Int)).toNat:Int)) rfl TT.mH TT.kM rfl rfl Jt ⟨⟨rfl,rfl⟩,?_⟩)
     refine RQ.st (some 62) rfl rfl (aC (d:=ah (idx ((p0.at).b8).1 ((idx aL (0:Int)).toNat:Int))) rfl TT.hU rfl (om (nB _) Jt) ⟨⟨rfl,rfl⟩,?_⟩)
     refine RQ.st (some 63) rfl rfl (au (v:= .d (.slice (aL.map U))) rfl rfl ⟨⟨rfl,rfl⟩,?_⟩)
     obtain ⟨Td,h⟩:=bk h
     refine RQ.st (some 64) rfl rfl (nS (l:=aL) (a:=(1:Int)) (b:=(aL.length:Int)) rfl TT.bC TT.eD bH rfl rfl rfl Td ⟨⟨rfl,rfl⟩,?_⟩)
     obtain ⟨x_23,XP,h⟩:=bO h
     refine RQ.st (some 65) rfl rfl (aA rfl rfl TT.Cp rfl (fP (idx ((p0.at).b8).1 ((idx aL (0:Int)).toNat:Int)) (sub aL (1:Int) (aL.length:Int)) _ XP) ⟨⟨rfl,rfl⟩,?_⟩)
     refine RQ.st (some 66) rfl rfl (bz rfl rfl rfl ⟨⟨rfl,rfl⟩,?_⟩)
     refine RQ.st (some 67) rfl rfl (bz rfl rfl rfl ⟨⟨rfl,rfl⟩,?_⟩)
     refine RQ.st (some 4) rfl rfl (cq (v:=pS (x_23.1)) rfl rfl ⟨⟨rfl,rfl⟩,?_⟩)
     refine RQ.st (some 5) rfl rfl (cq (v:=pB (x_23.2)) rfl rfl ⟨⟨rfl,rfl⟩,?_⟩)
     refine RQ.nil (aY ?_)
     refine QW.ret zL ?_
     obtain rfl:=sO h
     exact Ends.more (.inr rfl) rfl (ps:=[pS (x_23.1),pB (x_23.2)]) (And.intro (aG.tmp rfl) (And.intro (aG.tmp rfl) trivial)) rfl rfl
noncomputable def jm:Nat→aa→(List UInt8)→Option ((List UInt8)×Bool)
 | 0=>fun _ _=>none
 | n+1=>fun y0 y1=>gX (jm n) y0 y1
theorem uD:∀ (n:Nat) (y0:aa) (y1:(List UInt8)) (rr:((List UInt8)×Bool)),jm n y0 y1=some rr→bE Tryz.prog 28 [ah y0, .slice (y1.map U)] (.tuple [.val (sV (rr.1)), .val (.bool (rr.2))])
 | 0,_,_,_,h=>by cases h
 | n+1,y0,y1,rr,h=>Bs (jm n) (uD n) y0 y1 rr h
noncomputable def s7 (y0:aa) (y1:(List UInt8)):Option ((List UInt8)×Bool):=wX (fun n=>jm n y0 y1)
theorem Ct (y0:aa) (y1:(List UInt8)) (rr:((List UInt8)×Bool)) (h:s7 y0 y1=some rr):bE Tryz.prog 28 [ah y0, .slice (y1.map U)] (.tuple [.val (sV (rr.1)), .val (.bool (rr.2))]):=by
 obtain ⟨n,hn⟩:=nY h
 exact uD n y0 y1 rr hn
noncomputable def iH (t0:Tree) (k1:(aE 32 UInt8)):Option ((List UInt8)×Int):=
  ((q7 k1).bind fun (x_1:(List UInt8))=>
  ((s7 (t0.fp) x_1).bind fun (x_3:((List UInt8)×Bool))=>
  (bif (!(x_3).2) then
  some (([]:List UInt8),7)
  else
  some (x_3.1,0))))
theorem qI (t0:Tree) (k1:(aE 32 UInt8)) (r:((List UInt8)×Int)) (h:iH t0 k1=some r):bE Tryz.prog 11 [.agg (dj t0), .agg (k1.1.map U)] (.tuple [.val (sV (r.1)), .val (.int .i64 (r.2))]):=by
 refine bE.ya Tryz.func11 rfl (by simp [Tryz.ntmps11]) TT.Cm ?_
 rw [Tryz.ntmps11,TT.VD]
 refine QW.view (s':=⟨aF [(0, .d (.agg (dj t0))),(1, .d (.agg (k1.1.map U)))],aj [],0,[]⟩) (View.init (by rfl)) zL ?_
 unfold iH at h
 refine sR ?_
 refine XK.fz (some 2) rfl rfl (eJ (ds:=dj t0) rfl rfl rfl rfl rfl ?_)
 refine XK.fz (some 3) rfl rfl (eJ (ds:=k1.1.map U) rfl rfl rfl rfl cA ?_)
 refine xa 4 (pS ([]:List UInt8)) ?_
 refine xs 5 rfl (bP (l:=[pI (0)]) rfl TT.yd rfl rfl ?_)
 refine XK.nz ?_
 refine sR ?_
 refine XK.df (L:=[.aK 0 0]) none rfl rfl rfl rfl rfl ?_
 refine XK.nz ?_
 refine QW.seq ?_
 refine QW.region zL (PW.kC (id:=2) dh (M:=_) rfl (by kernel_rfl) ?_)
 refine RQ.st (some 8) rfl rfl (aO rfl TT.jH (by decide) rfl ⟨⟨rfl,rfl⟩,?_⟩)
 refine RQ.st (some 9) rfl rfl (aC (d:=ah (t0.fp)) rfl TT.hU rfl (di.one) ⟨⟨rfl,rfl⟩,?_⟩)
 refine RQ.st (some 10) rfl rfl (aC (d:= .agg (k1.1.map U)) rfl TT.iB rfl (nU (by rw [List.length_map,k1.2])) ⟨⟨rfl,rfl⟩,?_⟩)
 obtain ⟨x_1,fy,h⟩:=bO h
 refine RQ.st (some 11) rfl rfl (aA rfl rfl TT.Co rfl (xD k1 _ fy) ⟨⟨rfl,rfl⟩,?_⟩)
 obtain ⟨x_3,vM,h⟩:=bO h
 refine RQ.st (some 12) rfl rfl (aA rfl rfl TT.Cp rfl (Ct (t0.fp) x_1 _ vM) ⟨⟨rfl,rfl⟩,?_⟩)
 refine RQ.st (some 7) rfl rfl (au (v:= .d (.tuple [.val (sV (x_3.1)), .val (.bool (x_3.2))])) rfl rfl ⟨⟨rfl,rfl⟩,?_⟩)
 refine RQ.st (some 13) rfl rfl (bz rfl rfl rfl ⟨⟨rfl,rfl⟩,?_⟩)
 refine RQ.st (some 14) rfl rfl (bz rfl rfl rfl ⟨⟨rfl,rfl⟩,?_⟩)
 refine RQ.st (some 4) rfl rfl (cq (v:=pS (x_3.1)) rfl rfl ⟨⟨rfl,rfl⟩,?_⟩)
 refine RQ.st (some 6) rfl rfl (cq (v:=pB (x_3.2)) rfl rfl ⟨⟨rfl,rfl⟩,?_⟩)
 refine RQ.nil (aY ?_)
 refine QW.seq ?_
 refine QW.seq ?_
 refine QW.view (s':=⟨aF [(4,pS (x_3.1)),(5, .aK 0 0),(6,pB (x_3.2))],aj [.var [pI (0)]],1,[(25,[.aK 0 0])]⟩) (View.mk 1 [0] _ _ _ rfl rfl (by decide) (iC (iC (iC trivial))) (And.intro rfl trivial) rfl zL rfl) zL ?_
 refine rG ?_
 refine xm 15 (pB (x_3.2)) ?_
 refine xs 16 rfl (mC rfl rfl ?_)
 refine XK.nz ?_
 refine QW.cond (t:=(!(x_3).2)) rfl zL (fun kI=>?_) (fun kI=>?_)
 ·replace h:=bT h kI
  refine sR ?_
  refine xa 4 (pS ([]:List UInt8)) ?_
  refine XK.st none rfl rfl (bw (l':=[pI (7)]) rfl TT.kr rfl rfl rfl rfl rfl rfl (by simp) rfl ?_)
  refine XK.nz ?_
  refine QW.ret zL (eC ?_)
  obtain rfl:=sO h
  exact .inl (vu.more [pS ([]:List UInt8),pI (7)] 0 (pI (7)) (pI (7)) none rfl rfl (kz 7) rfl rfl rfl (And.intro (aG.tmp rfl) (And.intro (aG.cell rfl rfl TT.kr ⟨⟨by simp,by simp⟩,rfl⟩) trivial)) rfl)
 ·replace h:=bF h kI
  refine QW.skip zL (aY ?_)
  refine sR ?_
  refine xm 17 (pS (x_3.1)) ?_
  refine xa 4 (pS (x_3.1)) ?_
  refine XK.st none rfl rfl (bw (l':=[pI (0)]) rfl TT.kr rfl rfl rfl rfl rfl rfl (by simp) rfl ?_)
  refine XK.nz ?_
  refine QW.ret zL ?_
  obtain rfl:=sO h
  exact .inl (vu.more [pS (x_3.1),pI (0)] 0 (pI (0)) (pI (0)) none rfl rfl (kz 0) rfl rfl rfl (And.intro (aG.tmp rfl) (And.intro (aG.cell rfl rfl TT.kr ⟨⟨by simp,by simp⟩,rfl⟩) trivial)) rfl)
noncomputable def lC (eI:(List UInt8)) (p1:aa):Option aa:=
  gO (p1.isNil=false) (
  (bif (decide (((p1.at).bg)=(-1:Int))) then
  none
  else
  (bif (decide (((p1.at).bg)=(1:Int))) then
  gO (p1.isNil=false) (
  ((q8 ([eI,(p1.at).bD]:List (List UInt8))).bind fun (x_5:(List UInt8))=>
  gO (p1.isNil=false) (
  ((lq x_5 ((p1.at).dG)).bind fun (x_8:aa)=>
  some x_8))))
  else
  (bif (decide (((p1.at).bg)=(2:Int))) then
  gO (p1.isNil=false) (
  ((q8 ([eI,(p1.at).bD]:List (List UInt8))).bind fun (x_12:(List UInt8))=>
  gO (p1.isNil=false) (
  ((lA x_12 (idx ((p1.at).b8).1 (0:Int))).bind fun (x_15:aa)=>
  some x_15))))
  else
  ((lA eI p1).bind fun (x_17:aa)=>
  some x_17)))))
theorem zF (eI:(List UInt8)) (p1:aa) (r:aa) (h:lC eI p1=some r):bE Tryz.prog 44 [.slice (eI.map U),ah p1] (ah r):=by
 refine bE.aU Tryz.func44 rfl (by simp [Tryz.ntmps44]) ?_
 rw [Tryz.ntmps44,TT.VO]
 refine QW.view (s':=⟨aF [(0, .d (.slice (eI.map U))),(1, .d (ah p1))],aj [],0,[]⟩) (View.init (by rfl)) zL ?_
 unfold lC at h
 refine sR ?_
 refine xz 4 (.d (ah (aa.nil))) ?_
 refine QW.seq ?_
 refine sR ?_
 refine xm 5 (.d (ah p1)) ?_
 obtain ⟨nM,h⟩:=bk h
 refine xs 6 rfl (dA rfl (dB nM) rfl ?_)
 refine xs 7 rfl (aO rfl TT.lS (by decide) rfl ?_)
 refine xs 8 rfl (aC (d:= .val (.int .i64 ((p1.at).bg))) rfl TT.l9 rfl (kH _) ?_)
 refine XK.nz ?_
 refine QW.block ?_
 refine sR ?_
 refine xs 10 rfl (ej (a:=((p1.at).bg)) (b:=(-1:Int)) rfl rfl rfl ?_)
 refine xz 9 (pB (decide (((p1.at).bg)=(-1:Int)))) ?_
 refine QW.cond (t:=(decide (((p1.at).bg)=(-1:Int)))) rfl zL (fun cv=>?_) (fun cv=>?_)
 ·replace h:=bT h cv
  refine rG ?_
  refine xs 11 rfl (fk (v:= .agg []) rfl TT.G7 (dM rfl dL) ?_)
  refine xs 12 rfl (AY (y:= .agg []) rfl rfl TT.Au ?_)
  refine XK.panic rfl rfl rfl (Ks (sx ?_))
  cases h
 ·replace h:=bF h cv
  refine sR ?_
  refine xs 14 rfl (ej (a:=((p1.at).bg)) (b:=(1:Int)) rfl rfl rfl ?_)
  refine xz 13 (pB (decide (((p1.at).bg)=(1:Int)))) ?_
  refine QW.cond (t:=(decide (((p1.at).bg)=(1:Int)))) rfl zL (fun dW=>?_) (fun dW=>?_)
  ·replace h:=bT h dW
   refine QW.seq ?_
   refine QW.region zL (PW.kC (id:=5) dh (M:=_) rfl (by kernel_rfl) ?_)
   refine RQ.st (some 15) rfl rfl (au (v:= .d (.slice (eI.map U))) rfl rfl ⟨⟨rfl,rfl⟩,?_⟩)
   refine RQ.st (some 16) rfl rfl (au (v:= .d (ah p1)) rfl rfl ⟨⟨rfl,rfl⟩,?_⟩)
   obtain ⟨lY,h⟩:=bk h
   refine RQ.st (some 17) rfl rfl (dA rfl (dB lY) rfl ⟨⟨rfl,rfl⟩,?_⟩)
   refine RQ.st (some 18) rfl rfl (aO rfl TT.jI (by decide) rfl ⟨⟨rfl,rfl⟩,?_⟩)
   refine RQ.st (some 19) rfl rfl (aC (d:= .slice (((p1.at).bD).map U)) rfl TT.fB rfl (iR _) ⟨⟨rfl,rfl⟩,?_⟩)
   refine RQ.st (some 20) rfl rfl (dU (en:=(eL U)) (l:=([eI,(p1.at).bD]:List (List UInt8))) rfl TT.A5 Gn rfl rfl (by decide) (by simp [dg,cQ,aB,dK,PV.cz,cu,aF,jz,iL,jP,bV,Value.oneCell']) ⟨⟨rfl,rfl⟩,?_⟩)
   obtain ⟨x_5,rj,h⟩:=bO h
   refine RQ.st (some 21) rfl rfl (aA rfl rfl TT.yT rfl (tw ([eI,(p1.at).bD]:List (List UInt8)) _ rj) ⟨⟨rfl,rfl⟩,?_⟩)
   refine RQ.st (some 22) rfl rfl (au (v:= .d (ah p1)) rfl rfl ⟨⟨rfl,rfl⟩,?_⟩)
   obtain ⟨mc,h⟩:=bk h
   refine RQ.st (some 23) rfl rfl (dA rfl (dB mc) rfl ⟨⟨rfl,rfl⟩,?_⟩)
   refine RQ.st (some 24) rfl rfl (aO rfl TT.y7 (by decide) rfl ⟨⟨rfl,rfl⟩,?_⟩)
   refine RQ.st (some 25) rfl rfl (aC (d:= .val (sV ((p1.at).dG))) rfl TT.fF rfl (w4 _) ⟨⟨rfl,rfl⟩,?_⟩)
   obtain ⟨x_8,Am,h⟩:=bO h
   refine RQ.st (some 26) rfl rfl (aA rfl rfl TT.vW rfl (oZ x_5 ((p1.at).dG) _ Am) ⟨⟨rfl,rfl⟩,?_⟩)
   refine RQ.st (some 4) rfl rfl (cq (v:= .d (ah x_8)) rfl rfl ⟨⟨rfl,rfl⟩,?_⟩)
   refine RQ.nil (aY ?_)
   refine QW.ret zL (mO (eC ?_))
   obtain rfl:=sO h
   exact Ends.one (.inr rfl) rfl (aG.tmp rfl) rfl rfl
  ·replace h:=bF h dW
   refine sR ?_
   refine xs 28 rfl (ej (a:=((p1.at).bg)) (b:=(2:Int)) rfl rfl rfl ?_)
   refine xz 27 (pB (decide (((p1.at).bg)=(2:Int)))) ?_
   refine QW.cond (t:=(decide (((p1.at).bg)=(2:Int)))) rfl zL (fun qH=>?_) (fun qH=>?_)
   ·replace h:=bT h qH
    refine QW.seq ?_
    refine QW.region zL (PW.kC (id:=7) dh (M:=_) rfl (by kernel_rfl) ?_)
    refine RQ.st (some 29) rfl rfl (au (v:= .d (.slice (eI.map U))) rfl rfl ⟨⟨rfl,rfl⟩,?_⟩)
    refine RQ.st (some 30) rfl rfl (au (v:= .d (ah p1)) rfl rfl ⟨⟨rfl,rfl⟩,?_⟩)
    obtain ⟨vG,h⟩:=bk h
    refine RQ.st (some 31) rfl rfl (dA rfl (dB vG) rfl ⟨⟨rfl,rfl⟩,?_⟩)
    refine RQ.st (some 32) rfl rfl (aO rfl TT.jI (by decide) rfl ⟨⟨rfl,rfl⟩,?_⟩)
    refine RQ.st (some 33) rfl rfl (aC (d:= .slice (((p1.at).bD).map U)) rfl TT.fB rfl (iR _) ⟨⟨rfl,rfl⟩,?_⟩)
    refine RQ.st (some 34) rfl rfl (dU (en:=(eL U)) (l:=([eI,(p1.at).bD]:List (List UInt8))) rfl TT.A5 Gn rfl rfl (by decide) (by simp [dg,cQ,aB,dK,PV.cz,cu,aF,jz,iL,jP,bV,Value.oneCell']) ⟨⟨rfl,rfl⟩,?_⟩)
    obtain ⟨x_12,rO,h⟩:=bO h
    refine RQ.st (some 35) rfl rfl (aA rfl rfl TT.yT rfl (tw ([eI,(p1.at).bD]:List (List UInt8)) _ rO) ⟨⟨rfl,rfl⟩,?_⟩)
    refine RQ.st (some 36) rfl rfl (au (v:= .d (ah p1)) rfl rfl ⟨⟨rfl,rfl⟩,?_⟩)
    obtain ⟨rL,h⟩:=bk h
    refine RQ.st (some 37) rfl rfl (dA rfl (dB rL) rfl ⟨⟨rfl,rfl⟩,?_⟩)
    refine RQ.st (some 38) rfl rfl (aO rfl TT.jk (by decide) rfl ⟨⟨rfl,rfl⟩,?_⟩)
    refine RQ.st (some 39) rfl rfl (mD (i:=(0:Int)) rfl TT.mH TT.kM rfl rfl (by decide) ⟨⟨rfl,rfl⟩,?_⟩)
    refine RQ.st (some 40) rfl rfl (aC (d:=ah (idx ((p1.at).b8).1 (0:Int))) rfl TT.hU rfl (om (nB _) (by decide)) ⟨⟨rfl,rfl⟩,?_⟩)
    obtain ⟨x_15,vD,h⟩:=bO h
    refine RQ.st (some 41) rfl rfl (aA rfl rfl TT.vX rfl (qa x_12 (idx ((p1.at).b8).1 (0:Int)) _ vD) ⟨⟨rfl,rfl⟩,?_⟩)
    refine RQ.st (some 4) rfl rfl (cq (v:= .d (ah x_15)) rfl rfl ⟨⟨rfl,rfl⟩,?_⟩)
    refine RQ.nil (aY ?_)
    refine QW.ret zL (mO (eC ?_))
    obtain rfl:=sO h
    exact Ends.one (.inr rfl) rfl (aG.tmp rfl) rfl rfl
   ·replace h:=bF h qH
    refine QW.skip zL (gC (aY ?_))
    refine sR ?_
    refine xm 42 (.d (.slice (eI.map U))) ?_
    refine xm 43 (.d (ah p1)) ?_
    obtain ⟨x_17,Ck,h⟩:=bO h
    refine xs 44 rfl (aA rfl rfl TT.vX rfl (qa eI p1 _ Ck) ?_)
    refine xz 4 (.d (ah x_17)) ?_
    refine QW.ret zL ?_
    obtain rfl:=sO h
    exact Ends.one (.inr rfl) rfl (aG.tmp rfl) rfl rfl
inductive vZ where
 | S
 | L1 (ou:(aE 16 aa)) (kN:Int) (dc:Int) (kT:Int)
noncomputable def gY (gS:(aE 16 aa)):vZ→Option (vZ⊕aa)
 | .S=>
  some (.inl (.L1 gS (0) (0) (0)))
 | .L1 ou kN dc kT=>
  (bif (decide (kT<(16:Int))) then
  gO (0≤kT∧kT<((16:Nat):Int)) (
  (bif (!(idx gS.1 kT).isNil) then
  gO (bA (kN+(1:Int))) (
  gO (bA (kT+(1:Int))) (
  some (.inl (.L1 ou (kN+(1:Int)) kT (kT+(1:Int))))))
  else
  gO (bA (kT+(1:Int))) (
  some (.inl (.L1 ou kN dc (kT+(1:Int)))))))
  else
  (bif (decide ((1:Int)<kN)) then
  some (.inr (aa.of (⟨3,([]:(List UInt8)),([]:List UInt8),ou,([]:List UInt8)⟩:part)))
  else
  gO (0≤dc∧dc<((16:Nat):Int)) (
  ((lC ([(gb dc)]:List UInt8) (idx ou.1 dc)).bind fun (x_10:aa)=>
  some (.inr x_10)))))
noncomputable def rW (gS:(aE 16 aa)):Option aa:=gU (gY gS) .S
theorem Eg (gS:(aE 16 aa)) (r:aa) (h:rW gS=some r):bE Tryz.prog 45 [.agg (gS.1.map ah)] (ah r):=by
 refine bE.aU Tryz.func45 rfl (by simp [Tryz.ntmps45]) ?_
 rw [Tryz.ntmps45,TT.VP]
 refine QW.view (s':=⟨aF [(0, .d (.agg (gS.1.map ah)))],aj [],0,[]⟩) (View.init (by rfl)) zL ?_
 replace h:=cG h
 obtain ⟨_,h⟩:=h
 obtain ⟨c8,rfl,h9⟩:=aQ h;replace h:=h9;clear h9;rw [gY] at h
 refine sR ?_
 refine XK.fz (some 1) rfl rfl (eJ (ds:=gS.1.map ah) rfl rfl rfl rfl cA ?_)
 refine xz 2 (.d (ah (aa.nil))) ?_
 refine sR ?_
 refine xa 3 (pI (0)) ?_
 refine xz 4 (pI (0)) ?_
 refine QW.seq ?_
 refine sR ?_
 refine xs 7 rfl (aC (d:= .agg (gS.1.map ah)) rfl TT.y8 rfl (nU (by rw [List.length_map,gS.2])) ?_)
 refine xm 8 (pI (0)) ?_
 refine XK.nz ?_
 refine QW.block ?_
 refine QW.loop (fun k σ=>∃ ou:(aE 16 aa),∃ kN:Int,∃ dc:Int,∃ kT:Int,k≤c8∧run (gY gS) k (.L1 ou kN dc kT)=some r∧σ=⟨aF [(1, .d (.cr (ou.1.map ah))),(3,pI kN),(4,pI dc),(7, .d (.agg (gS.1.map ah))),(8,pI kT)],aj [],0,[]⟩) c8 zL ⟨⟨aF [(1, .d (.cr (gS.1.map ah))),(3,pI (0)),(4,pI (0)),(7, .d (.agg (gS.1.map ah))),(8,pI (0))],aj [],0,[]⟩,View.mk 0 [] _ _ _ rfl rfl (by decide) (iC (iC (iC (iC (iC trivial))))) trivial rfl zL rfl,gS,0,0,0,Nat.le_refl _,jG h,rfl⟩ ?_
 rintro pZ _ ⟨ou,kN,dc,kT,p4,h,rfl⟩
 obtain ⟨k_1,rfl,h9⟩:=aQ h;replace h:=h9;clear h9;rw [gY] at h
 refine sR ?_
 refine xs 9 rfl (cK (a:=kT) (b:=(16:Int)) rfl rfl rfl ?_)
 refine XK.nz ?_
 refine QW.seq ?_
 refine QW.cond (t:=(decide (kT<(16:Int)))) rfl zL (fun cv=>?_) (fun cv=>?_)
 ·replace h:=eX h cv
  refine QW.skip zL (aY ?_)
  refine QW.seq ?_
  refine QW.block ?_
  refine sR ?_
  refine xm 10 (pI kT) ?_
  obtain ⟨dP,h⟩:=gG h
  refine xs 11 rfl (x8 (a:=gS) (i:=kT) rfl TT.kM rfl rfl dP ?_)
  refine xa 5 (pI kT) ?_
  refine xz 6 (.d (ah (idx gS.1 kT))) ?_
  refine sR ?_
  refine xm 12 (.d (ah (idx gS.1 kT))) ?_
  refine xs 13 rfl (GC rfl TT.ry rfl rfl ?_)
  refine XK.nz ?_
  refine QW.cond (t:=(!(idx gS.1 kT).isNil)) rfl zL (fun gD=>?_) (fun gD=>?_)
  ·replace h:=eX h gD
   refine sR ?_
   refine xm 14 (pI kN) ?_
   obtain ⟨mR,h⟩:=gG h
   refine xs 15 rfl (bY (a:=kN) (b:=(1:Int)) rfl rfl rfl mR ?_)
   refine xz 3 (pI (kN+(1:Int))) ?_
   refine rG ?_
   refine xm 16 (pI kT) ?_
   refine xa 4 (pI kT) ?_
   refine XK.nil (gC (aY ?_))
   refine rG ?_
   obtain ⟨lZ,h⟩:=gG h
   refine xs 17 rfl (bY (a:=kT) (b:=(1:Int)) rfl rfl rfl lZ ?_)
   refine xm 8 (pI (kT+(1:Int))) ?_
   refine XK.nz ?_
   exact ⟨k_1,by omega,⟨aF [(1, .d (.cr (ou.1.map ah))),(3,pI (kN+(1:Int))),(4,pI kT),(7, .d (.agg (gS.1.map ah))),(8,pI (kT+(1:Int)))],aj [],0,[]⟩,View.mk 0 [] _ _ _ rfl rfl (by decide) (iC (iC (iC (iC (iC trivial))))) trivial rfl zL rfl,ou,(kN+(1:Int)),kT,(kT+(1:Int)),by omega,jG h,rfl⟩
  ·replace h:=eY h gD
   refine QW.skip zL (gC (aY ?_))
   refine rG ?_
   obtain ⟨mc,h⟩:=gG h
   refine xs 17 rfl (bY (a:=kT) (b:=(1:Int)) rfl rfl rfl mc ?_)
   refine xm 8 (pI (kT+(1:Int))) ?_
   refine XK.nz ?_
   exact ⟨k_1,by omega,⟨aF [(1, .d (.cr (ou.1.map ah))),(3,pI kN),(4,pI dc),(7, .d (.agg (gS.1.map ah))),(8,pI (kT+(1:Int)))],aj [],0,[]⟩,View.mk 0 [] _ _ _ rfl rfl (by decide) (iC (iC (iC (iC (iC trivial))))) trivial rfl zL rfl,ou,kN,dc,(kT+(1:Int)),by omega,jG h,rfl⟩
 ·replace h:=eY h cv
  refine QW.exit zL (eA (eA (jY (aY ?_))))
  refine QW.seq ?_
  refine sR ?_
  refine xm 18 (pI kN) ?_
  refine xs 19 rfl (oh (a:=kN) (b:=(1:Int)) rfl rfl rfl ?_)
  refine XK.nz ?_
  refine QW.cond (t:=(decide ((1:Int)<kN))) rfl zL (fun rV=>?_) (fun rV=>?_)
  ·replace h:=eX h rV
   refine sR ?_
   refine xs 20 rfl (aC (d:= .agg (ou.1.map ah)) rfl TT.y8 rfl (nU (by rw [List.length_map,ou.2])) ?_)
   refine xs 21 rfl (fk (v:= .agg (([pI (3), .full (([]:(List UInt8)).map U),pS ([]:List UInt8)])++(((ou.1.map ah).map PV.d)++([pS ([]:List UInt8)])))) rfl TT.Di (dM rfl (cx (p:=pI (3)) (cells:=(([pI (0), .full (([]:(List UInt8)).map U),pS ([]:List UInt8)])++((((aE.rep 16 aa.nil).1.map ah).map PV.d)++([pS ([]:List UInt8)])))) (cells':=(([pI (3), .full (([]:(List UInt8)).map U),pS ([]:List UInt8)])++((((aE.rep 16 aa.nil).1.map ah).map PV.d)++([pS ([]:List UInt8)])))) rfl rfl rfl (bX (aD (A:=[pI (0), .full (([]:(List UInt8)).map U),pS ([]:List UInt8)]) (b:=17) rfl (aD (A:=((aE.rep 16 aa.nil).1.map ah).map PV.d) (b:=1) (aq _) rfl rfl) rfl) bL) (fq 0 (by first | exact Nat.le_of_ble_eq_true rfl | simp) rfl) (cx (p:= .d (.agg (ou.1.map ah))) (cells:=(([pI (3), .full (([]:(List UInt8)).map U),pS ([]:List UInt8)])++((((aE.rep 16 aa.nil).1.map ah).map PV.d)++([pS ([]:List UInt8)])))) (cells':=(([pI (3), .full (([]:(List UInt8)).map U),pS ([]:List UInt8)])++(((ou.1.map ah).map PV.d)++([pS ([]:List UInt8)])))) rfl rfl (show ((ou.1.map ah).map PV.d).length=_ from aq _) (bX (aD (A:=[pI (3), .full (([]:(List UInt8)).map U),pS ([]:List UInt8)]) (b:=17) rfl (aD (A:=((aE.rep 16 aa.nil).1.map ah).map PV.d) (b:=1) (aq _) rfl rfl) rfl) bL) (ql 3 0 rfl (GA (aq _) (aq _))) dL))) ?_)
   refine XK.fx (some 22) rfl rfl (eJ (ds:=ja (⟨3,([]:(List UInt8)),([]:List UInt8),ou,([]:List UInt8)⟩:part)) rfl rfl rfl rfl (mj rfl (mj cA rfl)) ⟨_,iy.l5 (tQ (⟨3,([]:(List UInt8)),([]:List UInt8),ou,([]:List UInt8)⟩:part)) rfl,?_⟩)
   refine xz 2 (.d (ah (aa.of (⟨3,([]:(List UInt8)),([]:List UInt8),ou,([]:List UInt8)⟩:part)))) ?_
   refine QW.ret zL (eC ?_)
   obtain rfl:=sG h
   exact Ends.one (.inr rfl) rfl (aG.tmp rfl) rfl rfl
  ·replace h:=eY h rV
   refine QW.skip zL (aY ?_)
   refine sR ?_
   refine xm 23 (pI dc) ?_
   refine xs 24 rfl (nR (n:=dc) rfl TT.kY TT.dV rfl ?_)
   refine xs 25 rfl (dU (en:=U) (l:=([(gb dc)]:List UInt8)) rfl TT.e9 bH rfl rfl (by decide) (by simp [dg,cQ,aB,dK,PV.cz,cu,aF,jz,iL,jP,bV,Value.oneCell']) ?_)
   refine xm 26 (pI dc) ?_
   obtain ⟨rN,h⟩:=gG h
   refine xs 27 rfl (mD (i:=dc) rfl TT.mH TT.kM rfl rfl rN ?_)
   refine xs 28 rfl (aC (d:=ah (idx ou.1 dc)) rfl TT.hU rfl (om (Pre.all _) rN) ?_)
   obtain ⟨x_10,qD,h⟩:=bG h
   refine xs 29 rfl (aA rfl rfl TT.He rfl (zF ([(gb dc)]:List UInt8) (idx ou.1 dc) _ qD) ?_)
   refine xz 2 (.d (ah x_10)) ?_
   refine QW.ret zL ?_
   obtain rfl:=sG h
   exact Ends.one (.inr rfl) rfl (aG.tmp rfl) rfl rfl
noncomputable def jJ (self:aa→(List UInt8)→Option aa) (p0:aa) (aL:(List UInt8)):Option aa:=
  gO (p0.isNil=false) (
  (bif (decide (((p0.at).bg)=(1:Int))) then
  some (aa.nil)
  else
  (bif (decide (((p0.at).bg)=(2:Int))) then
  gO (p0.isNil=false) (
  gO (p0.isNil=false) (
  gO (p0.isNil=false) (
  gO (0≤(((p0.at).bD).length:Int)∧(((p0.at).bD).length:Int)≤(aL.length:Int)∧(aL.length:Int)≤(aL.length:Int)) (
  ((self (idx ((p0.at).b8).1 (0:Int)) (sub aL (((p0.at).bD).length:Int) (aL.length:Int))).bind fun (x_8:aa)=>
  ((lC ((p0.at).bD) x_8).bind fun (x_10:aa)=>
  some x_10))))))
  else
  gO (p0.isNil=false) (
  gO (0≤(0:Int)∧(0:Int)<(aL.length:Int)) (
  gO (0≤(0:Int)∧(0:Int)<(aL.length:Int)) (
  gO (p0.isNil=false) (
  gO (0≤((idx aL (0:Int)).toNat:Int)∧((idx aL (0:Int)).toNat:Int)<((16:Nat):Int)) (
  gO (0≤(1:Int)∧(1:Int)≤(aL.length:Int)∧(aL.length:Int)≤(aL.length:Int)) (
  ((self (idx ((p0.at).b8).1 ((idx aL (0:Int)).toNat:Int)) (sub aL (1:Int) (aL.length:Int))).bind fun (x_18:aa)=>
  gO (0≤((idx aL (0:Int)).toNat:Int)∧((idx aL (0:Int)).toNat:Int)<((16:Nat):Int)) (
  ((rW (((p0.at).b8).put ((idx aL (0:Int)).toNat:Int) x_18)).bind fun (x_21:aa)=>
  some x_21))))))))))))
theorem Bt (self:aa→(List UInt8)→Option aa) (fP:∀ (y0:aa) (y1:(List UInt8)) (rr:aa),self y0 y1=some rr→bE Tryz.prog 26 [ah y0, .slice (y1.map U)] (ah rr)) (p0:aa) (aL:(List UInt8)) (r:aa) (h:jJ self p0 aL=some r):bE Tryz.prog 26 [ah p0, .slice (aL.map U)] (ah r):=by
 refine bE.aU Tryz.func26 rfl (by simp [Tryz.ntmps26]) ?_
 rw [Tryz.ntmps26,TT.VK]
 refine QW.view (s':=⟨aF [(0, .d (ah p0)),(1, .d (.slice (aL.map U)))],aj [],0,[]⟩) (View.init (by rfl)) zL ?_
 unfold jJ at h
 refine sR ?_
 refine xz 4 (.d (ah (aa.nil))) ?_
 refine QW.seq ?_
 refine sR ?_
 refine xm 6 (.d (ah p0)) ?_
 obtain ⟨nM,h⟩:=bk h
 refine xs 7 rfl (dA rfl (dB nM) rfl ?_)
 refine xs 8 rfl (aO rfl TT.lS (by decide) rfl ?_)
 refine xs 9 rfl (aC (d:= .val (.int .i64 ((p0.at).bg))) rfl TT.l9 rfl (kH _) ?_)
 refine XK.nz ?_
 refine QW.block ?_
 refine sR ?_
 refine xs 11 rfl (ej (a:=((p0.at).bg)) (b:=(1:Int)) rfl rfl rfl ?_)
 refine xz 10 (pB (decide (((p0.at).bg)=(1:Int)))) ?_
 refine QW.cond (t:=(decide (((p0.at).bg)=(1:Int)))) rfl zL (fun cv=>?_) (fun cv=>?_)
 ·replace h:=bT h cv
  refine sR ?_
  refine xz 4 (.d (ah (aa.nil))) ?_
  refine QW.ret zL (mO (eC ?_))
  obtain rfl:=sO h
  exact Ends.one (.inr rfl) rfl (aG.tmp rfl) rfl rfl
 ·replace h:=bF h cv
  refine sR ?_
  refine xs 13 rfl (ej (a:=((p0.at).bg)) (b:=(2:Int)) rfl rfl rfl ?_)
  refine xz 12 (pB (decide (((p0.at).bg)=(2:Int)))) ?_
  refine QW.cond (t:=(decide (((p0.at).bg)=(2:Int)))) rfl zL (fun dW=>?_) (fun dW=>?_)
  ·replace h:=bT h dW
   refine QW.seq ?_
   refine QW.region zL (PW.kC (id:=5) dh (M:=_) rfl (by kernel_rfl) ?_)
   refine RQ.st (some 14) rfl rfl (au (v:= .d (ah p0)) rfl rfl ⟨⟨rfl,rfl⟩,?_⟩)
   obtain ⟨lY,h⟩:=bk h
   refine RQ.st (some 15) rfl rfl (dA rfl (dB lY) rfl ⟨⟨rfl,rfl⟩,?_⟩)
   refine RQ.st (some 16) rfl rfl (aO rfl TT.jI (by decide) rfl ⟨⟨rfl,rfl⟩,?_⟩)
   refine RQ.st (some 17) rfl rfl (aC (d:= .slice (((p0.at).bD).map U)) rfl TT.fB rfl (iR _) ⟨⟨rfl,rfl⟩,?_⟩)
   refine RQ.st (some 18) rfl rfl (au (v:= .d (ah p0)) rfl rfl ⟨⟨rfl,rfl⟩,?_⟩)
   obtain ⟨mR,h⟩:=bk h
   refine RQ.st (some 19) rfl rfl (dA rfl (dB mR) rfl ⟨⟨rfl,rfl⟩,?_⟩)
   refine RQ.st (some 20) rfl rfl (aO rfl TT.jk (by decide) rfl ⟨⟨rfl,rfl⟩,?_⟩)
   refine RQ.st (some 21) rfl rfl (mD (i:=(0:Int)) rfl TT.mH TT.kM rfl rfl (by decide) ⟨⟨rfl,rfl⟩,?_⟩)
   refine RQ.st (some 22) rfl rfl (aC (d:=ah (idx ((p0.at).b8).1 (0:Int))) rfl TT.hU rfl (om (nB _) (by decide)) ⟨⟨rfl,rfl⟩,?_⟩)
   refine RQ.st (some 23) rfl rfl (au (v:= .d (.slice (aL.map U))) rfl rfl ⟨⟨rfl,rfl⟩,?_⟩)
   refine RQ.st (some 24) rfl rfl (au (v:= .d (ah p0)) rfl rfl ⟨⟨rfl,rfl⟩,?_⟩)
   obtain ⟨lZ,h⟩:=bk h
   refine RQ.st (some 25) rfl rfl (dA rfl (dB lZ) rfl ⟨⟨rfl,rfl⟩,?_⟩)
   refine RQ.st (some 26) rfl rfl (aO rfl TT.jI (by decide) rfl ⟨⟨rfl,rfl⟩,?_⟩)
   refine RQ.st (some 27) rfl rfl (aC (d:= .slice (((p0.at).bD).map U)) rfl TT.fB rfl (iR _) ⟨⟨rfl,rfl⟩,?_⟩)
   refine RQ.st (some 28) rfl rfl (cM (en:=U) (l:=(p0.at).bD) rfl TT.bC rfl ⟨⟨rfl,rfl⟩,?_⟩)
   obtain ⟨mc,h⟩:=bk h
   refine RQ.st (some 29) rfl rfl (nS (l:=aL) (a:=(((p0.at).bD).length:Int)) (b:=(aL.length:Int)) rfl TT.bC TT.eD bH rfl rfl rfl mc ⟨⟨rfl,rfl⟩,?_⟩)
   obtain ⟨x_8,Am,h⟩:=bO h
   refine RQ.st (some 30) rfl rfl (aA rfl rfl TT.Cn rfl (fP (idx ((p0.at).b8).1 (0:Int)) (sub aL (((p0.at).bD).length:Int) (aL.length:Int)) _ Am) ⟨⟨rfl,rfl⟩,?_⟩)
   obtain ⟨x_10,qD,h⟩:=bO h
   refine RQ.st (some 31) rfl rfl (aA rfl rfl TT.He rfl (zF ((p0.at).bD) x_8 _ qD) ⟨⟨rfl,rfl⟩,?_⟩)
   refine RQ.st (some 4) rfl rfl (cq (v:= .d (ah x_10)) rfl rfl ⟨⟨rfl,rfl⟩,?_⟩)
   refine RQ.nil (aY ?_)
   refine QW.ret zL (mO (eC ?_))
   obtain rfl:=sO h
   exact Ends.one (.inr rfl) rfl (aG.tmp rfl) rfl rfl
  ·replace h:=bF h dW
   refine QW.skip zL (gC (aY ?_))
   refine sR ?_
   refine xm 32 (.d (ah p0)) ?_
   obtain ⟨mX,h⟩:=bk h
   refine xs 33 rfl (dA rfl (dB mX) rfl ?_)
   refine xs 34 rfl (aO rfl TT.jk (by decide) rfl ?_)
   refine xs 35 rfl (aC (d:= .agg (((p0.at).b8).1.map ah)) rfl TT.y8 rfl (Ae _) ?_)
   refine xs 5 rfl (bP (l:=(((aE.rep 16 aa.nil).1.map ah).map .d)) rfl TT.QO rfl rfl ?_)
   refine XK.st none rfl rfl (bw (l':=((((p0.at).b8).1.map ah).map .d)) rfl TT.y8 rfl rfl rfl rfl rfl (aq _) (nT _) (cT ((aq _).trans (aq _).symm)) ?_)
   refine XK.nz ?_
   refine QW.seq ?_
   refine QW.region zL (PW.tN (id:=7) dh (M:=_) rfl (by kernel_rfl) ?_)
   refine RK.st (some 36) rfl rfl (au (v:= .d (.slice (aL.map U))) rfl rfl ?_)
   obtain ⟨nE,h⟩:=bk h
   refine RK.st (some 37) rfl rfl (bN (l:=aL) (i:=(0:Int)) rfl TT.eD bH rfl rfl nE ?_)
   refine RK.st (some 38) rfl rfl (aC (d:= .val (.int .u8 ((idx aL (0:Int)).toNat:Int))) rfl TT.kG rfl (di.one) ?_)
   refine RK.st (some 39) rfl rfl (au (v:= .d (ah p0)) rfl rfl ?_)
   refine RK.st (some 40) rfl rfl (au (v:= .d (.slice (aL.map U))) rfl rfl ?_)
   obtain ⟨rL,h⟩:=bk h
   refine RK.st (some 41) rfl rfl (bN (l:=aL) (i:=(0:Int)) rfl TT.eD bH rfl rfl rL ?_)
   refine RK.st (some 42) rfl rfl (aC (d:= .val (.int .u8 ((idx aL (0:Int)).toNat:Int))) rfl TT.kG rfl (di.one) ?_)
   obtain ⟨vH,h⟩:=bk h
   refine RK.st (some 43) rfl rfl (dA rfl (dB vH) rfl ?_)
   refine RK.st (some 44) rfl rfl (aO rfl TT.jk (by decide) rfl ?_)
   obtain ⟨oP,h⟩:=bk h
   refine RK.st (some 45) rfl rfl (mD (i:=((idx aL (0:Int)).toNat:Int)) rfl TT.mH TT.kM rfl rfl oP ?_)
   refine RK.st (some 46) rfl rfl (aC (d:=ah (idx ((p0.at).b8).1 ((idx aL (0:Int)).toNat:Int))) rfl TT.hU rfl (om (nB _) oP) ?_)
   refine RK.st (some 47) rfl rfl (au (v:= .d (.slice (aL.map U))) rfl rfl ?_)
   obtain ⟨pO,h⟩:=bk h
   refine RK.st (some 48) rfl rfl (nS (l:=aL) (a:=(1:Int)) (b:=(aL.length:Int)) rfl TT.bC TT.eD bH rfl rfl rfl pO ?_)
   obtain ⟨x_18,xF,h⟩:=bO h
   refine RK.st (some 49) rfl rfl (aA rfl rfl TT.Cn rfl (fP (idx ((p0.at).b8).1 ((idx aL (0:Int)).toNat:Int)) (sub aL (1:Int) (aL.length:Int)) _ xF) ?_)
   obtain ⟨vS,h⟩:=bk h
   refine RK.st (some 50) rfl rfl (cX (i:=((idx aL (0:Int)).toNat:Int)) rfl TT.mH TT.kM rfl rfl vS ?_)
   refine RK.st none rfl rfl (bw (l':=(((((p0.at).b8).put ((idx aL (0:Int)).toNat:Int) x_18).1.map ah).map .d)) rfl TT.hU rfl rfl rfl rfl rfl rfl (tP vS) (rI vS) ?_)
   refine RK.nil ⟨gl.last 15 (by simp) (by simp) (by rfl),(aY ?_)⟩
   refine QW.seq ?_
   refine QW.view (s':=⟨aF [(5, .aK 0 0)],aj [.var (((((p0.at).b8).put ((idx aL (0:Int)).toNat:Int) x_18).1.map ah).map .d)],1,[]⟩) (View.mk 1 [0] _ _ _ rfl rfl (by decide) (iC trivial) (And.intro (by simp only [cF,bB,PV.bR];rfl) trivial) rfl zL rfl) zL ?_
   refine rG ?_
   refine XK.as (some 51) rfl rfl (bx (v:= .agg (((((p0.at).b8).put ((idx aL (0:Int)).toNat:Int) x_18).1.map ah).map .d)) rfl TT.y8 rfl rfl (kE (by decide)) ⟨.d (.agg ((((p0.at).b8).put ((idx aL (0:Int)).toNat:Int) x_18).1.map ah)),ia,?_⟩)
   obtain ⟨x_21,G6,h⟩:=bO h
   refine xs 52 rfl (aA rfl rfl TT.Ou rfl (Eg (((p0.at).b8).put ((idx aL (0:Int)).toNat:Int) x_18) _ G6) ?_)
   refine xz 4 (.d (ah x_21)) ?_
   refine QW.ret zL ?_
   obtain rfl:=sO h
   exact Ends.one (.inr rfl) rfl (aG.tmp rfl) rfl rfl
noncomputable def jn:Nat→aa→(List UInt8)→Option aa
 | 0=>fun _ _=>none
 | n+1=>fun y0 y1=>jJ (jn n) y0 y1
theorem uE:∀ (n:Nat) (y0:aa) (y1:(List UInt8)) (rr:aa),jn n y0 y1=some rr→bE Tryz.prog 26 [ah y0, .slice (y1.map U)] (ah rr)
 | 0,_,_,_,h=>by cases h
 | n+1,y0,y1,rr,h=>Bt (jn n) (uE n) y0 y1 rr h
noncomputable def s9 (y0:aa) (y1:(List UInt8)):Option aa:=wX (fun n=>jn n y0 y1)
theorem Cu (y0:aa) (y1:(List UInt8)) (rr:aa) (h:s9 y0 y1=some rr):bE Tryz.prog 26 [ah y0, .slice (y1.map U)] (ah rr):=by
 obtain ⟨n,hn⟩:=nY h
 exact uE n y0 y1 rr hn
noncomputable def gN (t0:Tree) (k1:(aE 32 UInt8)):Option (Tree×Int):=
  ((iH t0 k1).bind fun (x_1:((List UInt8)×Int))=>
  (bif (!decide ((x_1.2)=(0:Int))) then
  some ((⟨aa.nil⟩:Tree),x_1.2)
  else
  ((q7 k1).bind fun (x_4:(List UInt8))=>
  ((s9 (t0.fp) x_4).bind fun (x_6:aa)=>
  some ((⟨x_6⟩:Tree),0)))))
theorem we (t0:Tree) (k1:(aE 32 UInt8)) (r:(Tree×Int)) (h:gN t0 k1=some r):bE Tryz.prog 8 [.agg (dj t0), .agg (k1.1.map U)] (.tuple [.agg (dj (r.1)), .val (.int .i64 (r.2))]):=by
 refine bE.ya Tryz.func8 rfl (by simp [Tryz.ntmps8]) TT.Cm ?_
 rw [Tryz.ntmps8,TT.XN]
 refine QW.view (s':=⟨aF [(0, .d (.agg (dj t0))),(1, .d (.agg (k1.1.map U)))],aj [],0,[]⟩) (View.init (by rfl)) zL ?_
 unfold gN at h
 refine sR ?_
 refine XK.fz (some 2) rfl rfl (eJ (ds:=dj t0) rfl rfl rfl rfl rfl ?_)
 refine XK.fz (some 3) rfl rfl (eJ (ds:=k1.1.map U) rfl rfl rfl rfl cA ?_)
 refine xs 4 rfl (bP (l:=[.d (ah (aa.nil))]) rfl TT.n4 rfl rfl ?_)
 refine xs 5 rfl (bP (l:=[pI (0)]) rfl TT.yd rfl rfl ?_)
 refine XK.nz ?_
 refine QW.seq ?_
 refine sR ?_
 refine xs 10 rfl (aC (d:= .agg (dj t0)) rfl TT.fC rfl (⟨by simp [dj],rfl⟩) ?_)
 refine xs 11 rfl (aC (d:= .agg (k1.1.map U)) rfl TT.iB rfl (nU (by rw [List.length_map,k1.2])) ?_)
 obtain ⟨x_1,fy,h⟩:=bO h
 refine xs 12 rfl (aA rfl rfl TT.Cl rfl (qI t0 k1 _ fy) ?_)
 refine xm 9 (.d (.tuple [.val (sV (x_1.1)), .val (.int .i64 (x_1.2))])) ?_
 refine xs 13 rfl (bz rfl rfl rfl ?_)
 refine xs 14 rfl (bz rfl rfl rfl ?_)
 refine xa 6 (pS (x_1.1)) ?_
 refine xz 7 (pI (x_1.2)) ?_
 refine sR ?_
 refine xm 15 (pI (x_1.2)) ?_
 refine xs 16 rfl (oa (a:=(x_1.2)) (b:=(0:Int)) rfl rfl rfl ?_)
 refine XK.nz ?_
 refine QW.cond (t:=(!decide ((x_1.2)=(0:Int)))) rfl zL (fun dW=>?_) (fun dW=>?_)
 ·replace h:=bT h dW
  refine sR ?_
  refine xs 17 rfl (fk (v:= .agg [.d (ah (aa.nil))]) rfl TT.vU (dM rfl dL) ?_)
  refine xm 18 (pI (x_1.2)) ?_
  refine XK.st none rfl rfl (bw (l':=[.d (ah (aa.nil))]) rfl TT.fC rfl rfl rfl rfl rfl rfl (by simp) rfl ?_)
  refine XK.st none rfl rfl (bw (l':=[pI (x_1.2)]) rfl TT.kr rfl rfl rfl rfl rfl rfl (by simp) rfl ?_)
  refine XK.nz ?_
  refine QW.ret zL (eC ?_)
  obtain rfl:=sO h
  exact .inr (Ends.more (.inr rfl) rfl (ps:=[.agg [.d (ah (aa.nil))],pI (x_1.2)]) (And.intro (aG.cell rfl rfl TT.fC ⟨⟨by simp,by simp⟩,rfl⟩) (And.intro (aG.cell rfl rfl TT.kr ⟨⟨by simp,by simp⟩,rfl⟩) trivial)) rfl rfl)
 ·replace h:=bF h dW
  refine QW.skip zL (aY ?_)
  refine sR ?_
  refine XK.df (L:=[.aK 1 0]) none rfl rfl rfl rfl rfl ?_
  refine XK.nz ?_
  refine QW.seq ?_
  refine QW.region zL (PW.kC (id:=5) dh (M:=_) rfl (by kernel_rfl) ?_)
  refine RQ.st (some 19) rfl rfl (aO rfl TT.jH (by decide) rfl ⟨⟨rfl,rfl⟩,?_⟩)
  refine RQ.st (some 20) rfl rfl (aC (d:=ah (t0.fp)) rfl TT.hU rfl (di.one) ⟨⟨rfl,rfl⟩,?_⟩)
  refine RQ.st (some 21) rfl rfl (aC (d:= .agg (k1.1.map U)) rfl TT.iB rfl (nU (by rw [List.length_map,k1.2])) ⟨⟨rfl,rfl⟩,?_⟩)
  obtain ⟨x_4,kZ,h⟩:=bO h
  refine RQ.st (some 22) rfl rfl (aA rfl rfl TT.Co rfl (xD k1 _ kZ) ⟨⟨rfl,rfl⟩,?_⟩)
  obtain ⟨x_6,ym,h⟩:=bO h
  refine RQ.st (some 23) rfl rfl (aA rfl rfl TT.Cn rfl (Cu (t0.fp) x_4 _ ym) ⟨⟨rfl,rfl⟩,?_⟩)
  refine RQ.st (some 8) rfl rfl (cq (v:= .d (ah x_6)) rfl rfl ⟨⟨rfl,rfl⟩,?_⟩)
  refine RQ.nil (aY ?_)
  refine sR ?_
  refine xm 24 (.d (ah x_6)) ?_
  refine xs 25 rfl (fk (v:= .agg [.d (ah x_6)]) rfl TT.vU (dM rfl (cx (cells':=[.d (ah x_6)]) rfl rfl rfl bL rfl dL)) ?_)
  refine XK.st none rfl rfl (bw (l':=[.d (ah x_6)]) rfl TT.fC rfl rfl rfl rfl rfl rfl (by simp) rfl ?_)
  refine XK.st none rfl rfl (bw (l':=[pI (0)]) rfl TT.kr rfl rfl rfl rfl rfl rfl (by simp) rfl ?_)
  refine XK.nz ?_
  refine QW.ret zL ?_
  obtain rfl:=sO h
  exact .inl (vu.more [.agg [.d (ah x_6)],pI (0)] 1 (pI (0)) (pI (0)) none rfl rfl (kz 0) rfl rfl rfl (And.intro (aG.cell rfl rfl TT.fC ⟨⟨by simp,by simp⟩,rfl⟩) (And.intro (aG.cell rfl rfl TT.kr ⟨⟨by simp,by simp⟩,rfl⟩) trivial)) rfl)
inductive rX where
 | S
 | L1 (g7:Int) (kU:(List UInt8)) (kN:(aE 16 (List UInt8)))
noncomputable def ij (self:Tree→Option (List UInt8)) (p0:aa):rX→Option (rX⊕Node)
 | .S=>
  gO (p0.isNil=false) (
  gO (p0.isNil=false) (
  ((cV ((p0.at).bD)).bind fun (x_3:(List UInt8))=>
  gO (p0.isNil=false) (
  gO (p0.isNil=false) (
  some (.inl (.L1 (0) x_3 (aE.rep 16 ([]:(List UInt8))))))))))
 | .L1 g7 kU kN=>
  (bif (decide (g7<(16:Int))) then
  gO (0≤g7∧g7<((16:Nat):Int)) (
  ((self (⟨(idx ((p0.at).b8).1 g7)⟩:Tree)).bind fun (x_10:(List UInt8))=>
  gO (0≤g7∧g7<((16:Nat):Int)) (
  gO (bA (g7+(1:Int))) (
  some (.inl (.L1 (g7+(1:Int)) kU (kN.put g7 x_10)))))))
  else
  some (.inr (⟨(p0.at).bg,kU,(p0.at).dG,kN⟩:Node)))
noncomputable def gu (self:Tree→Option (List UInt8)) (p0:aa):Option Node:=gU (ij self p0) .S
theorem uc (self:Tree→Option (List UInt8)) (fP:∀ (y0:Tree) (rr:(List UInt8)),self y0=some rr→bE Tryz.prog 19 [.agg (dj y0)] (.val (sV rr))) (p0:aa) (r:Node) (h:gu self p0=some r):bE Tryz.prog 31 [ah p0] (.agg (cNode r)):=by
 refine bE.aU Tryz.func31 rfl (by simp [Tryz.ntmps31]) ?_
 rw [Tryz.ntmps31,TT.VN]
 refine QW.view (s':=⟨aF [(0, .d (ah p0))],aj [],0,[]⟩) (View.init (by rfl)) zL ?_
 replace h:=cG h
 obtain ⟨_,h⟩:=h
 obtain ⟨c8,rfl,h9⟩:=aQ h;replace h:=h9;clear h9;rw [ij] at h
 refine sR ?_
 refine xs 2 rfl (bP (l:=(([pI (0), .full (([]:(List UInt8)).map U),pS ([]:List UInt8)])++(((aE.rep 16 ([]:(List UInt8))).1.map eS).map PV.d))) rfl TT.j9 rfl rfl ?_)
 refine XK.nz ?_
 refine QW.seq ?_
 refine QW.region zL (PW.tN (id:=1) dh (M:=_) rfl (by kernel_rfl) ?_)
 refine RK.st (some 6) rfl rfl (au (v:= .d (ah p0)) rfl rfl ?_)
 obtain ⟨nM,h⟩:=gG h
 refine RK.st (some 7) rfl rfl (dA rfl (dB nM) rfl ?_)
 refine RK.st (some 8) rfl rfl (aO rfl TT.lS (by decide) rfl ?_)
 refine RK.st (some 9) rfl rfl (aC (d:= .val (.int .i64 ((p0.at).bg))) rfl TT.l9 rfl (kH _) ?_)
 refine RK.st (some 10) rfl rfl (au (v:= .d (ah p0)) rfl rfl ?_)
 obtain ⟨xE,h⟩:=gG h
 refine RK.st (some 11) rfl rfl (dA rfl (dB xE) rfl ?_)
 refine RK.st (some 12) rfl rfl (aO rfl TT.jI (by decide) rfl ?_)
 refine RK.st (some 13) rfl rfl (aC (d:= .slice (((p0.at).bD).map U)) rfl TT.fB rfl (iR _) ?_)
 obtain ⟨x_3,vM,h⟩:=bG h
 refine RK.st (some 14) rfl rfl (aA rfl rfl TT.vJ rfl (gV ((p0.at).bD) _ vM) ?_)
 refine RK.st (some 15) rfl rfl (au (v:= .d (ah p0)) rfl rfl ?_)
 obtain ⟨mR,h⟩:=gG h
 refine RK.st (some 16) rfl rfl (dA rfl (dB mR) rfl ?_)
 refine RK.st (some 17) rfl rfl (aO rfl TT.y7 (by decide) rfl ?_)
 refine RK.st (some 18) rfl rfl (aC (d:= .val (sV ((p0.at).dG))) rfl TT.fF rfl (w4 _) ?_)
 refine RK.st (some 19) rfl rfl (fk (v:= .agg (([pI ((p0.at).bg), .d (.slice (x_3.map U)),pS ((p0.at).dG)])++(((aE.rep 16 ([]:(List UInt8))).1.map eS).map PV.d))) rfl TT.oO (dM rfl (cx (p:=pI ((p0.at).bg)) (cells:=(([pI (0), .full (([]:(List UInt8)).map U),pS ([]:List UInt8)])++(((aE.rep 16 ([]:(List UInt8))).1.map eS).map PV.d))) (cells':=(([pI ((p0.at).bg), .full (([]:(List UInt8)).map U),pS ([]:List UInt8)])++(((aE.rep 16 ([]:(List UInt8))).1.map eS).map PV.d))) rfl rfl rfl (bX (aD (A:=[pI (0), .full (([]:(List UInt8)).map U),pS ([]:List UInt8)]) (b:=16) rfl (aq _) rfl) bL) (fq 0 (by first | exact Nat.le_of_ble_eq_true rfl | simp) rfl) (cx (p:= .d (.slice (x_3.map U))) (cells:=(([pI ((p0.at).bg), .full (([]:(List UInt8)).map U),pS ([]:List UInt8)])++(((aE.rep 16 ([]:(List UInt8))).1.map eS).map PV.d))) (cells':=(([pI ((p0.at).bg), .d (.slice (x_3.map U)),pS ([]:List UInt8)])++(((aE.rep 16 ([]:(List UInt8))).1.map eS).map PV.d))) rfl rfl rfl (bX (aD (A:=[pI ((p0.at).bg), .full (([]:(List UInt8)).map U),pS ([]:List UInt8)]) (b:=16) rfl (aq _) rfl) bL) (fq 1 (by first | exact Nat.le_of_ble_eq_true rfl | simp) rfl) (cx (p:=pS ((p0.at).dG)) (cells:=(([pI ((p0.at).bg), .d (.slice (x_3.map U)),pS ([]:List UInt8)])++(((aE.rep 16 ([]:(List UInt8))).1.map eS).map PV.d))) (cells':=(([pI ((p0.at).bg), .d (.slice (x_3.map U)),pS ((p0.at).dG)])++(((aE.rep 16 ([]:(List UInt8))).1.map eS).map PV.d))) rfl rfl rfl (bX (aD (A:=[pI ((p0.at).bg), .d (.slice (x_3.map U)),pS ([]:List UInt8)]) (b:=16) rfl (aq _) rfl) bL) (fq 2 (by first | exact Nat.le_of_ble_eq_true rfl | simp) rfl) dL)))) ?_)
 refine RK.st (some 3) rfl rfl (bP (l:=(([pI (0), .full (([]:(List UInt8)).map U),pS ([]:List UInt8)])++(((aE.rep 16 ([]:(List UInt8))).1.map eS).map PV.d))) rfl TT.j9 rfl rfl ?_)
 refine RK.st none rfl rfl (bw (c:=(([pI ((p0.at).bg), .d (.slice (x_3.map U)),pS ((p0.at).dG)])++(((aE.rep 16 ([]:(List UInt8))).1.map eS).map PV.d))) (l':=(([pI ((p0.at).bg), .d (.slice (x_3.map U)),pS ((p0.at).dG)])++(((aE.rep 16 ([]:(List UInt8))).1.map eS).map PV.d))) rfl TT.dY rfl rfl rfl rfl rfl (aD (A:=[pI ((p0.at).bg), .d (.slice (x_3.map U)),pS ((p0.at).dG)]) (b:=16) rfl (aq _) rfl) (bX (aD (A:=[pI (0), .full (([]:(List UInt8)).map U),pS ([]:List UInt8)]) (b:=16) rfl (aq _) rfl) bL) (cT ((aD (A:=[pI (0), .full (([]:(List UInt8)).map U),pS ([]:List UInt8)]) (b:=16) rfl (aq _) rfl).trans (aD (A:=[pI ((p0.at).bg), .d (.slice (x_3.map U)),pS ((p0.at).dG)]) (b:=16) rfl (aq _) rfl).symm)) ?_)
 refine RK.nil ⟨gl.comp (by rfl),(aY ?_)⟩
 refine QW.seq ?_
 refine QW.seq ?_
 refine QW.view (s':=⟨aF [(0, .d (ah p0)),(2, .aK 0 0),(3, .aK 1 0)],aj [.var (([pI (0), .full (([]:(List UInt8)).map U),pS ([]:List UInt8)])++(((aE.rep 16 ([]:(List UInt8))).1.map eS).map PV.d)), .var (([pI ((p0.at).bg), .d (.slice (x_3.map U)),pS ((p0.at).dG)])++(((aE.rep 16 ([]:(List UInt8))).1.map eS).map PV.d))],2,[]⟩) (View.mk 2 [0,1] _ _ _ rfl rfl (by decide) (iC (iC (iC trivial))) (And.intro (by simp only [cF,eR,PV.bR];rfl) (And.intro (by simp only [cF,eR,PV.bR];rfl) trivial)) rfl zL rfl) zL ?_
 refine rG ?_
 refine xm 20 (.d (ah p0)) ?_
 obtain ⟨lZ,h⟩:=gG h
 refine xs 21 rfl (dA rfl (dB lZ) rfl ?_)
 refine xs 22 rfl (aO rfl TT.jk (by decide) rfl ?_)
 refine xs 23 rfl (aC (d:= .agg (((p0.at).b8).1.map ah)) rfl TT.y8 rfl (Ae _) ?_)
 refine xm 24 (pI (0)) ?_
 refine XK.nz ?_
 refine QW.block ?_
 refine QW.loop (fun k σ=>∃ g7:Int,∃ kU:(List UInt8),∃ kN:(aE 16 (List UInt8)),k≤c8∧run (ij self p0) k (.L1 g7 kU kN)=some r∧σ=⟨aF [(2, .aK 0 0),(3, .aK 1 0),(23, .d (.agg (((p0.at).b8).1.map ah))),(24,pI g7)],aj [.var (([pI (0), .full (([]:(List UInt8)).map U),pS ([]:List UInt8)])++(((aE.rep 16 ([]:(List UInt8))).1.map eS).map PV.d)), .var (([pI ((p0.at).bg), .d (.slice (kU.map U)),pS ((p0.at).dG)])++((kN.1.map eS).map PV.d))],2,[]⟩) c8 zL ⟨⟨aF [(2, .aK 0 0),(3, .aK 1 0),(23, .d (.agg (((p0.at).b8).1.map ah))),(24,pI (0))],aj [.var (([pI (0), .full (([]:(List UInt8)).map U),pS ([]:List UInt8)])++(((aE.rep 16 ([]:(List UInt8))).1.map eS).map PV.d)), .var (([pI ((p0.at).bg), .d (.slice (x_3.map U)),pS ((p0.at).dG)])++(((aE.rep 16 ([]:(List UInt8))).1.map eS).map PV.d))],2,[]⟩,View.mk 2 [0,1] _ _ _ rfl rfl (by decide) (iC (iC (iC (iC trivial)))) (And.intro (by simp only [cF,eR,PV.bR];rfl) (And.intro (by simp only [cF,eR,PV.bR];rfl) trivial)) rfl zL rfl,0,x_3,(aE.rep 16 ([]:(List UInt8))),Nat.le_refl _,jG h,rfl⟩ ?_
 rintro Zp _ ⟨g7,kU,kN,Zq,h,rfl⟩
 obtain ⟨XQ,rfl,h9⟩:=aQ h;replace h:=h9;clear h9;rw [ij] at h
 refine sR ?_
 refine xs 25 rfl (cK (a:=g7) (b:=(16:Int)) rfl rfl rfl ?_)
 refine XK.nz ?_
 refine QW.seq ?_
 refine QW.cond (t:=(decide (g7<(16:Int)))) rfl zL (fun rV=>?_) (fun rV=>?_)
 ·replace h:=eX h rV
  refine QW.skip zL (aY ?_)
  refine QW.seq ?_
  refine QW.block ?_
  refine sR ?_
  refine xm 26 (pI g7) ?_
  obtain ⟨rN,h⟩:=gG h
  refine xs 27 rfl (x8 (a:=(p0.at).b8) (i:=g7) rfl TT.kM rfl rfl rN ?_)
  refine xa 4 (pI g7) ?_
  refine xz 5 (.d (ah (idx ((p0.at).b8).1 g7))) ?_
  refine rG ?_
  refine xm 28 (pI g7) ?_
  refine xm 29 (.d (ah (idx ((p0.at).b8).1 g7))) ?_
  refine xs 30 rfl (fk (v:= .agg [.d (ah (idx ((p0.at).b8).1 g7))]) rfl TT.vU (dM rfl (cx (cells':=[.d (ah (idx ((p0.at).b8).1 g7))]) rfl rfl rfl bL rfl dL)) ?_)
  obtain ⟨x_10,qD,h⟩:=bG h
  refine xs 31 rfl (aA rfl rfl TT.Oq rfl (fP (⟨(idx ((p0.at).b8).1 g7)⟩:Tree) _ qD) ?_)
  refine xs 32 rfl (fm rfl TT.mT (by decide) rfl ?_)
  obtain ⟨mX,h⟩:=gG h
  refine xs 33 rfl (cX (i:=g7) rfl TT.tV TT.oN rfl rfl mX ?_)
  refine XK.st none rfl rfl (bw (l':=(([pI ((p0.at).bg), .d (.slice (kU.map U)),pS ((p0.at).dG)])++(((kN.put g7 x_10).1.map eS).map PV.d))) rfl TT.fF rfl rfl rfl rfl rfl rfl (yS (n:=16) mX (aD (A:=[pI ((p0.at).bg), .d (.slice (kU.map U)),pS ((p0.at).dG)]) (b:=16) rfl (aq _) rfl) bL) (ql 3 _ rfl (sX mX)) ?_)
  refine XK.nil (gC (aY ?_))
  refine rG ?_
  obtain ⟨nE,h⟩:=gG h
  refine xs 34 rfl (bY (a:=g7) (b:=(1:Int)) rfl rfl rfl nE ?_)
  refine xm 24 (pI (g7+(1:Int))) ?_
  refine XK.nz ?_
  exact ⟨XQ,by omega,⟨aF [(2, .aK 0 0),(3, .aK 1 0),(23, .d (.agg (((p0.at).b8).1.map ah))),(24,pI (g7+(1:Int)))],aj [.var (([pI (0), .full (([]:(List UInt8)).map U),pS ([]:List UInt8)])++(((aE.rep 16 ([]:(List UInt8))).1.map eS).map PV.d)), .var (([pI ((p0.at).bg), .d (.slice (kU.map U)),pS ((p0.at).dG)])++(((kN.put g7 x_10).1.map eS).map PV.d))],2,[]⟩,View.mk 2 [0,1] _ _ _ rfl rfl (by decide) (iC (iC (iC (iC trivial)))) (And.intro (by simp only [cF,eR,PV.bR];rfl) (And.intro (by simp only [cF,eR,PV.bR];rfl) trivial)) rfl zL rfl,(g7+(1:Int)),kU,(kN.put g7 x_10),by omega,jG h,rfl⟩
 ·replace h:=eY h rV
  refine QW.exit zL (eA (eA (jY (aY ?_))))
  refine sR ?_
  refine XK.as (some 35) rfl rfl (bx (v:= .agg (([pI ((p0.at).bg), .d (.slice (kU.map U)),pS ((p0.at).dG)])++((kN.1.map eS).map PV.d))) rfl TT.dY rfl rfl (fO (aD (A:=[pI ((p0.at).bg), .d (.slice (kU.map U)),pS ((p0.at).dG)]) (b:=16) rfl (aq _) rfl) (Nat.succ_pos _)) ⟨.d (.agg (cNode (⟨(p0.at).bg,kU,(p0.at).dG,kN⟩:Node))),(iy.cW (oI (mj rfl cA))),?_⟩)
  refine XK.st none rfl rfl (bw (c:=(([pI ((p0.at).bg), .d (.slice (kU.map U)),pS ((p0.at).dG)])++((kN.1.map eS).map PV.d))) (l':=(([pI ((p0.at).bg), .d (.slice (kU.map U)),pS ((p0.at).dG)])++((kN.1.map eS).map PV.d))) rfl TT.dY rfl rfl rfl rfl (show (cNode (⟨(p0.at).bg,kU,(p0.at).dG,kN⟩:Node)).map PV.d=_ by simp only [cNode,List.map_append];rfl) (aD (A:=[pI ((p0.at).bg), .d (.slice (kU.map U)),pS ((p0.at).dG)]) (b:=16) rfl (aq _) rfl) (bX (aD (A:=[pI (0), .full (([]:(List UInt8)).map U),pS ([]:List UInt8)]) (b:=16) rfl (aq _) rfl) bL) (cT ((aD (A:=[pI (0), .full (([]:(List UInt8)).map U),pS ([]:List UInt8)]) (b:=16) rfl (aq _) rfl).trans (aD (A:=[pI ((p0.at).bg), .d (.slice (kU.map U)),pS ((p0.at).dG)]) (b:=16) rfl (aq _) rfl).symm)) ?_)
  refine XK.nz ?_
  refine QW.ret zL ?_
  obtain rfl:=sG h
  exact Ends.one (.inr rfl) rfl (aG.cell rfl rfl TT.dY (fO (aD (A:=[pI ((p0.at).bg), .d (.slice (kU.map U)),pS ((p0.at).dG)]) (b:=16) rfl (aq _) rfl) (Nat.succ_pos _))) (by simp only [PV.cW,PV.eg,iM,cA,Option.bind_some,Option.map_some,cNode]<;>rfl) rfl
noncomputable def jK (self:Tree→Option (List UInt8)) (t0:Tree):Option (List UInt8):=
  gO ((t0.fp).isNil=false→(t0.fp).isNil=false) (
  (bif ((t0.fp).isNil||(decide ((((t0.fp).at).bg)=(-1:Int)))) then
  some ([]:List UInt8)
  else
  ((gu self (t0.fp)).bind fun (x_3:Node)=>
  ((Ar x_3).bind fun (x_5:((List UInt8)×Int))=>
  some (x_5.1)))))
theorem uF (self:Tree→Option (List UInt8)) (fP:∀ (y0:Tree) (rr:(List UInt8)),self y0=some rr→bE Tryz.prog 19 [.agg (dj y0)] (.val (sV rr))) (t0:Tree) (r:(List UInt8)) (h:jK self t0=some r):bE Tryz.prog 14 [.agg (dj t0)] (.val (sV r)):=by
 refine bE.aU Tryz.func14 rfl (by simp [Tryz.ntmps14]) ?_
 rw [Tryz.ntmps14,TT.VF]
 refine QW.view (s':=⟨aF [(0, .d (.agg (dj t0)))],aj [],0,[]⟩) (View.init (by rfl)) zL ?_
 unfold jK at h
 refine sR ?_
 refine XK.fz (some 1) rfl rfl (eJ (ds:=dj t0) rfl rfl rfl rfl rfl ?_)
 refine xz 2 (pS ([]:List UInt8)) ?_
 refine QW.seq ?_
 refine sR ?_
 refine xs 5 rfl (aO rfl TT.jH (by decide) rfl ?_)
 refine xs 6 rfl (aC (d:=ah (t0.fp)) rfl TT.hU rfl (di.one) ?_)
 refine xs 7 rfl (Aa rfl TT.ry rfl rfl ?_)
 refine xm 8 (pB ((t0.fp).isNil)) ?_
 refine xg 9 (.d (.cr ((dj t0).drop 0))) rfl rfl (fun hg=>aO rfl TT.jH (by decide) rfl g3) ?_
 refine xg 10 (.d (ah (t0.fp))) rfl rfl (fun hg=>aC (d:=ah (t0.fp)) rfl TT.hU rfl (di.one) g3) ?_
 obtain ⟨nM,h⟩:=bk h
 refine xg 11 (.d (.cr (ja ((t0.fp).at)))) rfl rfl (fun hg=>dA rfl (dB (nM (Fo hg))) rfl g3) ?_
 refine xg 12 (.d (.cr ((ja ((t0.fp).at)).drop 0))) rfl rfl (fun hg=>aO rfl TT.lS (by decide) rfl g3) ?_
 refine xg 13 (pI (((t0.fp).at).bg)) rfl rfl (fun hg=>aC (d:= .val (.int .i64 (((t0.fp).at).bg))) rfl TT.l9 rfl (kH _) g3) ?_
 refine xg 14 (pB (decide ((((t0.fp).at).bg)=(-1:Int)))) rfl rfl (fun hg=>ej (a:=(((t0.fp).at).bg)) (b:=(-1:Int)) rfl rfl rfl g3) ?_
 refine xs 15 rfl (gL rfl rfl rfl rfl (fun _=>rfl) (fun hb=>by rw [hb];rfl) ?_)
 refine XK.nz ?_
 refine QW.cond (t:=((t0.fp).isNil||(decide ((((t0.fp).at).bg)=(-1:Int))))) rfl zL (fun cv=>?_) (fun cv=>?_)
 ·replace h:=bT h cv
  refine sR ?_
  refine xz 2 (pS ([]:List UInt8)) ?_
  refine QW.ret zL (eC ?_)
  obtain rfl:=sO h
  exact Ends.one (.inr rfl) rfl (aG.tmp rfl) rfl rfl
 ·replace h:=bF h cv
  refine QW.skip zL (aY ?_)
  refine sR ?_
  refine xs 17 rfl (aO rfl TT.jH (by decide) rfl ?_)
  refine xs 18 rfl (aC (d:=ah (t0.fp)) rfl TT.hU rfl (di.one) ?_)
  obtain ⟨x_3,vM,h⟩:=bO h
  refine xs 19 rfl (aA rfl rfl TT.G9 rfl (uc self fP (t0.fp) _ vM) ?_)
  obtain ⟨x_5,rj,h⟩:=bO h
  refine xs 20 rfl (aA rfl rfl TT.GP rfl (ID x_3 _ rj) ?_)
  refine xm 16 (.d (.tuple [.val (sV (x_5.1)), .val (.int .i64 (x_5.2))])) ?_
  refine xs 21 rfl (bz rfl rfl rfl ?_)
  refine xs 22 rfl (bz rfl rfl rfl ?_)
  refine xa 3 (pS (x_5.1)) ?_
  refine xz 4 (pI (x_5.2)) ?_
  refine sR ?_
  refine xm 23 (pS (x_5.1)) ?_
  refine xz 2 (pS (x_5.1)) ?_
  refine QW.ret zL ?_
  obtain rfl:=sO h
  exact Ends.one (.inr rfl) rfl (aG.tmp rfl) rfl rfl
noncomputable def mK (self:Tree→Option (List UInt8)) (t0:Tree):Option (List UInt8):=
  gO ((!(t0.fp).isNil)=true→(t0.fp).isNil=false) (
  (bif ((!(t0.fp).isNil)&&(decide ((((t0.fp).at).bg)=(-1:Int)))) then
  gO ((t0.fp).isNil=false) (
  some (((t0.fp).at).vA))
  else
  ((jK self t0).bind fun (x_4:(List UInt8))=>
  ((vT x_4).bind fun (x_6:(List UInt8))=>
  some x_6))))
theorem Bu (self:Tree→Option (List UInt8)) (fP:∀ (y0:Tree) (rr:(List UInt8)),self y0=some rr→bE Tryz.prog 19 [.agg (dj y0)] (.val (sV rr))) (t0:Tree) (r:(List UInt8)) (h:mK self t0=some r):bE Tryz.prog 19 [.agg (dj t0)] (.val (sV r)):=by
 refine bE.aU Tryz.func19 rfl (by simp [Tryz.ntmps19]) ?_
 rw [Tryz.ntmps19,TT.VH]
 refine QW.view (s':=⟨aF [(0, .d (.agg (dj t0)))],aj [],0,[]⟩) (View.init (by rfl)) zL ?_
 unfold mK at h
 refine sR ?_
 refine XK.fz (some 1) rfl rfl (eJ (ds:=dj t0) rfl rfl rfl rfl rfl ?_)
 refine xz 2 (pS ([]:List UInt8)) ?_
 refine QW.seq ?_
 refine sR ?_
 refine xs 3 rfl (aO rfl TT.jH (by decide) rfl ?_)
 refine xs 4 rfl (aC (d:=ah (t0.fp)) rfl TT.hU rfl (di.one) ?_)
 refine xs 5 rfl (GC rfl TT.ry rfl rfl ?_)
 refine xm 6 (pB (!(t0.fp).isNil)) ?_
 refine xg 7 (.d (.cr ((dj t0).drop 0))) rfl rfl (fun hg=>aO rfl TT.jH (by decide) rfl g3) ?_
 refine xg 8 (.d (ah (t0.fp))) rfl rfl (fun hg=>aC (d:=ah (t0.fp)) rfl TT.hU rfl (di.one) g3) ?_
 obtain ⟨nM,h⟩:=bk h
 refine xg 9 (.d (.cr (ja ((t0.fp).at)))) rfl rfl (fun hg=>dA rfl (dB (nM (Fo hg))) rfl g3) ?_
 refine xg 10 (.d (.cr ((ja ((t0.fp).at)).drop 0))) rfl rfl (fun hg=>aO rfl TT.lS (by decide) rfl g3) ?_
 refine xg 11 (pI (((t0.fp).at).bg)) rfl rfl (fun hg=>aC (d:= .val (.int .i64 (((t0.fp).at).bg))) rfl TT.l9 rfl (kH _) g3) ?_
 refine xg 12 (pB (decide ((((t0.fp).at).bg)=(-1:Int)))) rfl rfl (fun hg=>ej (a:=(((t0.fp).at).bg)) (b:=(-1:Int)) rfl rfl rfl g3) ?_
 refine xs 13 rfl (gK rfl rfl rfl rfl (fun hb=>by rw [hb];rfl) (fun _=>rfl) ?_)
 refine XK.nz ?_
 refine QW.cond (t:=((!(t0.fp).isNil)&&(decide ((((t0.fp).at).bg)=(-1:Int))))) rfl zL (fun cv=>?_) (fun cv=>?_)
 ·replace h:=bT h cv
  refine sR ?_
  refine xs 14 rfl (aO rfl TT.jH (by decide) rfl ?_)
  refine xs 15 rfl (aC (d:=ah (t0.fp)) rfl TT.hU rfl (di.one) ?_)
  obtain ⟨dP,h⟩:=bk h
  refine xs 16 rfl (dA rfl (dB dP) rfl ?_)
  refine xs 17 rfl (aO rfl TT.Ox (by decide) rfl ?_)
  refine xs 18 rfl (aC (d:= .val (sV (((t0.fp).at).vA))) rfl TT.fF rfl (LU _) ?_)
  refine xz 2 (pS (((t0.fp).at).vA)) ?_
  refine QW.ret zL (eC ?_)
  obtain rfl:=sO h
  exact Ends.one (.inr rfl) rfl (aG.tmp rfl) rfl rfl
 ·replace h:=bF h cv
  refine QW.skip zL (aY ?_)
  refine sR ?_
  refine xs 19 rfl (aC (d:= .agg (dj t0)) rfl TT.fC rfl (⟨by simp [dj],rfl⟩) ?_)
  obtain ⟨x_4,kZ,h⟩:=bO h
  refine xs 20 rfl (aA rfl rfl TT.vV rfl (uF self fP t0 _ kZ) ?_)
  obtain ⟨x_6,ym,h⟩:=bO h
  refine xs 21 rfl (aA rfl rfl TT.Ot rfl (KF x_4 _ ym) ?_)
  refine xz 2 (pS x_6) ?_
  refine QW.ret zL ?_
  obtain rfl:=sO h
  exact Ends.one (.inr rfl) rfl (aG.tmp rfl) rfl rfl
noncomputable def jo:Nat→Tree→Option (List UInt8)
 | 0=>fun _=>none
 | n+1=>fun y0=>mK (jo n) y0
theorem uG:∀ (n:Nat) (y0:Tree) (rr:(List UInt8)),jo n y0=some rr→bE Tryz.prog 19 [.agg (dj y0)] (.val (sV rr))
 | 0,_,_,h=>by cases h
 | n+1,y0,rr,h=>Bu (jo n) (uG n) y0 rr h
noncomputable def jy (y0:Tree):Option (List UInt8):=wX (fun n=>jo n y0)
theorem wg (y0:Tree) (rr:(List UInt8)) (h:jy y0=some rr):bE Tryz.prog 19 [.agg (dj y0)] (.val (sV rr)):=by
 obtain ⟨n,hn⟩:=nY h
 exact uG n y0 rr hn
noncomputable def ov (p0:aa):Option Node:=gu jy p0
theorem Bv (p0:aa) (r:Node) (h:ov p0=some r):bE Tryz.prog 31 [ah p0] (.agg (cNode r)):=uc jy wg p0 r h
noncomputable def kf (t0:Tree):Option (List UInt8):=jK jy t0
theorem nN (t0:Tree) (r:(List UInt8)) (h:kf t0=some r):bE Tryz.prog 14 [.agg (dj t0)] (.val (sV r)):=uF jy wg t0 r h
inductive rY where
 | S
 | L1 (v4:(List Tree)) (g7:Int)
noncomputable def iq (t0:Tree):rY→Option (rY⊕(Node×(List Tree)))
 | .S=>
  gO ((t0.fp).isNil=false→(t0.fp).isNil=false) (
  (bif ((t0.fp).isNil||(decide ((((t0.fp).at).bg)=(-1:Int)))) then
  some (.inr ((⟨0,([]:(List UInt8)),([]:List UInt8),(aE.rep 16 ([]:(List UInt8)))⟩:Node),([]:(List Tree))))
  else
  gO ((t0.fp).isNil=false) (
  some (.inl (.L1 ([]:(List Tree)) (0))))))
 | .L1 v4 g7=>
  (bif (decide (g7<(16:Int))) then
  gO (0≤g7∧g7<((16:Nat):Int)) (
  (bif (!(idx (((t0.fp).at).b8).1 g7).isNil) then
  gO ((v4.length+([(⟨(idx (((t0.fp).at).b8).1 g7)⟩:Tree)]:List Tree).length)*8≤140737488355328) (
  gO (bA (g7+(1:Int))) (
  some (.inl (.L1 (v4++([(⟨(idx (((t0.fp).at).b8).1 g7)⟩:Tree)]:List Tree)) (g7+(1:Int))))))
  else
  gO (bA (g7+(1:Int))) (
  some (.inl (.L1 v4 (g7+(1:Int)))))))
  else
  ((ov (t0.fp)).bind fun (x_11:Node)=>
  some (.inr (x_11,v4))))
noncomputable def ow (t0:Tree):Option (Node×(List Tree)):=gU (iq t0) .S
theorem Bw (t0:Tree) (r:(Node×(List Tree))) (h:ow t0=some r):bE Tryz.prog 21 [.agg (dj t0)] (.tuple [.agg (cNode (r.1)), .slice ((r.2).map lg)]):=by
 refine bE.aU Tryz.func21 rfl (by simp [Tryz.ntmps21]) ?_
 rw [Tryz.ntmps21,TT.VI]
 refine QW.view (s':=⟨aF [(0, .d (.agg (dj t0)))],aj [],0,[]⟩) (View.init (by rfl)) zL ?_
 replace h:=cG h
 obtain ⟨_,h⟩:=h
 obtain ⟨c8,rfl,h9⟩:=aQ h;replace h:=h9;clear h9;rw [iq] at h
 refine sR ?_
 refine XK.fz (some 1) rfl rfl (eJ (ds:=dj t0) rfl rfl rfl rfl rfl ?_)
 refine xs 2 rfl (bP (l:=(([pI (0), .full (([]:(List UInt8)).map U),pS ([]:List UInt8)])++(((aE.rep 16 ([]:(List UInt8))).1.map eS).map PV.d))) rfl TT.j9 rfl rfl ?_)
 refine xz 3 (.full (([]:(List Tree)).map lg)) ?_
 refine QW.seq ?_
 refine sR ?_
 refine xs 7 rfl (aO rfl TT.jH (by decide) rfl ?_)
 refine xs 8 rfl (aC (d:=ah (t0.fp)) rfl TT.hU rfl (di.one) ?_)
 refine xs 9 rfl (Aa rfl TT.ry rfl rfl ?_)
 refine xm 10 (pB ((t0.fp).isNil)) ?_
 refine xg 11 (.d (.cr ((dj t0).drop 0))) rfl rfl (fun hg=>aO rfl TT.jH (by decide) rfl g3) ?_
 refine xg 12 (.d (ah (t0.fp))) rfl rfl (fun hg=>aC (d:=ah (t0.fp)) rfl TT.hU rfl (di.one) g3) ?_
 obtain ⟨nM,h⟩:=gG h
 refine xg 13 (.d (.cr (ja ((t0.fp).at)))) rfl rfl (fun hg=>dA rfl (dB (nM (Fo hg))) rfl g3) ?_
 refine xg 14 (.d (.cr ((ja ((t0.fp).at)).drop 0))) rfl rfl (fun hg=>aO rfl TT.lS (by decide) rfl g3) ?_
 refine xg 15 (pI (((t0.fp).at).bg)) rfl rfl (fun hg=>aC (d:= .val (.int .i64 (((t0.fp).at).bg))) rfl TT.l9 rfl (kH _) g3) ?_
 refine xg 16 (pB (decide ((((t0.fp).at).bg)=(-1:Int)))) rfl rfl (fun hg=>ej (a:=(((t0.fp).at).bg)) (b:=(-1:Int)) rfl rfl rfl g3) ?_
 refine xs 17 rfl (gL rfl rfl rfl rfl (fun _=>rfl) (fun hb=>by rw [hb];rfl) ?_)
 refine XK.nz ?_
 refine QW.cond (t:=((t0.fp).isNil||(decide ((((t0.fp).at).bg)=(-1:Int))))) rfl zL (fun cv=>?_) (fun cv=>?_)
 ·replace h:=eX h cv
  refine sR ?_
  refine xs 18 rfl (fk (v:= .agg (([pI (0), .full (([]:(List UInt8)).map U),pS ([]:List UInt8)])++(((aE.rep 16 ([]:(List UInt8))).1.map eS).map PV.d))) rfl TT.oO (dM rfl dL) ?_)
  refine XK.st none rfl rfl (bw (c:=(([pI (0), .full (([]:(List UInt8)).map U),pS ([]:List UInt8)])++(((aE.rep 16 ([]:(List UInt8))).1.map eS).map PV.d))) (l':=(([pI (0), .full (([]:(List UInt8)).map U),pS ([]:List UInt8)])++(((aE.rep 16 ([]:(List UInt8))).1.map eS).map PV.d))) rfl TT.dY rfl rfl rfl rfl rfl (aD (A:=[pI (0), .full (([]:(List UInt8)).map U),pS ([]:List UInt8)]) (b:=16) rfl (aq _) rfl) (bX (aD (A:=[pI (0), .full (([]:(List UInt8)).map U),pS ([]:List UInt8)]) (b:=16) rfl (aq _) rfl) bL) (cT ((aD (A:=[pI (0), .full (([]:(List UInt8)).map U),pS ([]:List UInt8)]) (b:=16) rfl (aq _) rfl).trans (aD (A:=[pI (0), .full (([]:(List UInt8)).map U),pS ([]:List UInt8)]) (b:=16) rfl (aq _) rfl).symm)) ?_)
  refine xz 3 (.full (([]:(List Tree)).map lg)) ?_
  refine QW.ret zL (eC ?_)
  obtain rfl:=sG h
  exact Ends.more (.inr rfl) rfl (ps:=[.agg (([pI (0), .full (([]:(List UInt8)).map U),pS ([]:List UInt8)])++(((aE.rep 16 ([]:(List UInt8))).1.map eS).map PV.d)), .full (([]:(List Tree)).map lg)]) (And.intro (aG.cell rfl rfl TT.dY (fO (aD (A:=[pI (0), .full (([]:(List UInt8)).map U),pS ([]:List UInt8)]) (b:=16) rfl (aq _) rfl) (Nat.succ_pos _))) (And.intro (aG.tmp rfl) trivial)) (by simp only [PV.cW,PV.eg,iM,cA,Option.bind_some,Option.map_some,cNode]<;>rfl) rfl
 ·replace h:=eY h cv
  refine QW.skip zL (aY ?_)
  refine sR ?_
  refine xz 4 (.full (([]:(List Tree)).map lg)) ?_
  refine QW.seq ?_
  refine sR ?_
  refine xs 19 rfl (aO rfl TT.jH (by decide) rfl ?_)
  refine xs 20 rfl (aC (d:=ah (t0.fp)) rfl TT.hU rfl (di.one) ?_)
  obtain ⟨dP,h⟩:=gG h
  refine xs 21 rfl (dA rfl (dB dP) rfl ?_)
  refine xs 22 rfl (aO rfl TT.jk (by decide) rfl ?_)
  refine xs 23 rfl (aC (d:= .agg ((((t0.fp).at).b8).1.map ah)) rfl TT.y8 rfl (Ae _) ?_)
  refine xm 24 (pI (0)) ?_
  refine XK.nz ?_
  refine QW.block ?_
  refine QW.loop (fun k σ=>∃ v4:(List Tree),∃ g7:Int,k≤c8∧run (iq t0) k (.L1 v4 g7)=some r∧σ=⟨aF [(1, .d (.cr (dj t0))),(2, .aK 0 0),(4, .own 1 (v4.map lg)),(23, .d (.agg ((((t0.fp).at).b8).1.map ah))),(24,pI g7)],aj [.var (([pI (0), .full (([]:(List UInt8)).map U),pS ([]:List UInt8)])++(((aE.rep 16 ([]:(List UInt8))).1.map eS).map PV.d)), .spare 1 v4.length],2,[]⟩) c8 zL ⟨⟨aF [(1, .d (.cr (dj t0))),(2, .aK 0 0),(4, .own 1 (([]:(List Tree)).map lg)),(23, .d (.agg ((((t0.fp).at).b8).1.map ah))),(24,pI (0))],aj [.var (([pI (0), .full (([]:(List UInt8)).map U),pS ([]:List UInt8)])++(((aE.rep 16 ([]:(List UInt8))).1.map eS).map PV.d)), .spare 1 ([]:(List Tree)).length],2,[]⟩,View.trans (View.buf 4 1 rfl zL) (View.mk 2 [0,1] _ _ _ rfl rfl (by decide) (iC (iC (iC (iC (iC trivial))))) (And.intro (by simp only [cF,eR,PV.bR];rfl) (And.intro rfl trivial)) rfl zL rfl),([]:(List Tree)),0,Nat.le_refl _,jG h,rfl⟩ ?_
  rintro WV _ ⟨v4,g7,WW,h,rfl⟩
  obtain ⟨L7,rfl,h9⟩:=aQ h;replace h:=h9;clear h9;rw [iq] at h
  refine sR ?_
  refine xs 25 rfl (cK (a:=g7) (b:=(16:Int)) rfl rfl rfl ?_)
  refine XK.nz ?_
  refine QW.seq ?_
  refine QW.cond (t:=(decide (g7<(16:Int)))) rfl zL (fun kI=>?_) (fun kI=>?_)
  ·replace h:=eX h kI
   refine QW.skip zL (aY ?_)
   refine QW.seq ?_
   refine QW.block ?_
   refine sR ?_
   obtain ⟨lZ,h⟩:=gG h
   refine xs 26 rfl (x8 (a:=((t0.fp).at).b8) (i:=g7) rfl TT.kM rfl rfl lZ ?_)
   refine xz 6 (.d (ah (idx (((t0.fp).at).b8).1 g7))) ?_
   refine sR ?_
   refine xm 27 (.d (ah (idx (((t0.fp).at).b8).1 g7))) ?_
   refine xs 28 rfl (GC rfl TT.ry rfl rfl ?_)
   refine XK.nz ?_
   refine QW.cond (t:=(!(idx (((t0.fp).at).b8).1 g7).isNil)) rfl zL (fun rS=>?_) (fun rS=>?_)
   ·replace h:=eX h rS
    refine rG ?_
    refine xm 29 (.own 1 (v4.map lg)) ?_
    refine xm 30 (.d (ah (idx (((t0.fp).at).b8).1 g7))) ?_
    refine xs 31 rfl (fk (v:= .agg [.d (ah (idx (((t0.fp).at).b8).1 g7))]) rfl TT.vU (dM rfl (cx (cells':=[.d (ah (idx (((t0.fp).at).b8).1 g7))]) rfl rfl rfl bL rfl dL)) ?_)
    refine xs 32 rfl (dU (en:=lg) (l:=([(⟨(idx (((t0.fp).at).b8).1 g7)⟩:Tree)]:List Tree)) rfl TT.Mn Jm (by first | rfl | (simp only [List.map_cons,List.map_nil,QI];rfl)) rfl (by decide) (by simp [dg,cQ,aB,dK,PV.cz,cu,aF,jz,iL,jP,bV,Value.oneCell']) ?_)
    obtain ⟨rM,h⟩:=gG h
    refine xs 33 rfl (iJ (en:=lg) (l:=v4) (l2:=([(⟨(idx (((t0.fp).at).b8).1 g7)⟩:Tree)]:List Tree)) rfl TT.Mn TT.Js rfl Jm rfl rfl rfl rM (by decide) ?_)
    refine xa 4 (.own 2 ((v4++([(⟨(idx (((t0.fp).at).b8).1 g7)⟩:Tree)]:List Tree)).map lg)) ?_
    refine XK.nil (gC (aY ?_))
    refine rG ?_
    obtain ⟨rN,h⟩:=gG h
    refine xs 34 rfl (bY (a:=g7) (b:=(1:Int)) rfl rfl rfl rN ?_)
    refine xm 24 (pI (g7+(1:Int))) ?_
    refine XK.nz ?_
    exact ⟨L7,by omega,⟨aF [(1, .d (.cr (dj t0))),(2, .aK 0 0),(4, .own 1 ((v4++([(⟨(idx (((t0.fp).at).b8).1 g7)⟩:Tree)]:List Tree)).map lg)),(23, .d (.agg ((((t0.fp).at).b8).1.map ah))),(24,pI (g7+(1:Int)))],aj [.var (([pI (0), .full (([]:(List UInt8)).map U),pS ([]:List UInt8)])++(((aE.rep 16 ([]:(List UInt8))).1.map eS).map PV.d)), .spare 1 (v4++([(⟨(idx (((t0.fp).at).b8).1 g7)⟩:Tree)]:List Tree)).length],2,[]⟩,View.mk 2 [0,2] _ _ _ rfl rfl (by decide) (iC (iC (iC (iC (iC trivial))))) (And.intro (by simp only [cF,eR,PV.bR];rfl) (And.intro rfl trivial)) rfl zL rfl,(v4++([(⟨(idx (((t0.fp).at).b8).1 g7)⟩:Tree)]:List Tree)),(g7+(1:Int)),by omega,jG h,rfl⟩
   ·replace h:=eY h rS
    refine QW.skip zL (gC (aY ?_))
    refine rG ?_
    obtain ⟨oq,h⟩:=gG h
    refine xs 34 rfl (bY (a:=g7) (b:=(1:Int)) rfl rfl rfl oq ?_)
    refine xm 24 (pI (g7+(1:Int))) ?_
    refine XK.nz ?_
    exact ⟨L7,by omega,⟨aF [(1, .d (.cr (dj t0))),(2, .aK 0 0),(4, .own 1 (v4.map lg)),(23, .d (.agg ((((t0.fp).at).b8).1.map ah))),(24,pI (g7+(1:Int)))],aj [.var (([pI (0), .full (([]:(List UInt8)).map U),pS ([]:List UInt8)])++(((aE.rep 16 ([]:(List UInt8))).1.map eS).map PV.d)), .spare 1 v4.length],2,[]⟩,View.mk 2 [0,1] _ _ _ rfl rfl (by decide) (iC (iC (iC (iC (iC trivial))))) (And.intro (by simp only [cF,eR,PV.bR];rfl) (And.intro rfl trivial)) rfl zL rfl,v4,(g7+(1:Int)),by omega,jG h,rfl⟩
  ·replace h:=eY h kI
   refine QW.exit zL (eA (eA (jY (aY ?_))))
   refine sR ?_
   refine xs 35 rfl (aO rfl TT.jH (by decide) rfl ?_)
   refine xs 36 rfl (aC (d:=ah (t0.fp)) rfl TT.hU rfl (di.one) ?_)
   obtain ⟨x_11,pR,h⟩:=bG h
   refine xs 37 rfl (aA rfl rfl TT.G9 rfl (Bv (t0.fp) _ pR) ?_)
   refine xm 38 (.own 1 (v4.map lg)) ?_
   refine XK.st none rfl rfl (bw (c:=(([pI (x_11.aW), .d (.slice ((x_11.az).map U)),pS (x_11.ay)])++(((x_11.aT).1.map eS).map PV.d))) (l':=(([pI (x_11.aW), .d (.slice ((x_11.az).map U)),pS (x_11.ay)])++(((x_11.aT).1.map eS).map PV.d))) rfl TT.dY rfl rfl rfl rfl (show (cNode x_11).map PV.d=_ by simp only [cNode,List.map_append];rfl) (aD (A:=[pI (x_11.aW), .d (.slice ((x_11.az).map U)),pS (x_11.ay)]) (b:=16) rfl (aq _) rfl) (bX (aD (A:=[pI (0), .full (([]:(List UInt8)).map U),pS ([]:List UInt8)]) (b:=16) rfl (aq _) rfl) bL) (cT ((aD (A:=[pI (0), .full (([]:(List UInt8)).map U),pS ([]:List UInt8)]) (b:=16) rfl (aq _) rfl).trans (aD (A:=[pI (x_11.aW), .d (.slice ((x_11.az).map U)),pS (x_11.ay)]) (b:=16) rfl (aq _) rfl).symm)) ?_)
   refine xz 3 (.own 1 (v4.map lg)) ?_
   refine QW.ret zL ?_
   obtain rfl:=sG h
   exact Ends.more (.inr rfl) rfl (ps:=[.agg (([pI (x_11.aW), .d (.slice ((x_11.az).map U)),pS (x_11.ay)])++(((x_11.aT).1.map eS).map PV.d)), .own 1 (v4.map lg)]) (And.intro (aG.cell rfl rfl TT.dY (fO (aD (A:=[pI (x_11.aW), .d (.slice ((x_11.az).map U)),pS (x_11.ay)]) (b:=16) rfl (aq _) rfl) (Nat.succ_pos _))) (And.intro (aG.tmp rfl) trivial)) (by simp only [PV.cW,PV.eg,iM,cA,Option.bind_some,Option.map_some,cNode]<;>rfl) rfl
noncomputable def jq (t0:Tree):Option Bool:=
  some ((t0.fp).isNil)
theorem o5 (t0:Tree) (r:Bool) (h:jq t0=some r):bE Tryz.prog 9 [.agg (dj t0)] (.val (.bool r)):=by
 refine bE.aU Tryz.func9 rfl (by simp [Tryz.ntmps9]) ?_
 rw [Tryz.ntmps9,TT.XO]
 refine QW.view (s':=⟨aF [(0, .d (.agg (dj t0)))],aj [],0,[]⟩) (View.init (by rfl)) zL ?_
 unfold jq at h
 refine sR ?_
 refine XK.fz (some 1) rfl rfl (eJ (ds:=dj t0) rfl rfl rfl rfl rfl ?_)
 refine xz 2 (pB false) ?_
 refine sR ?_
 refine xs 3 rfl (aO rfl TT.jH (by decide) rfl ?_)
 refine xs 4 rfl (aC (d:=ah (t0.fp)) rfl TT.hU rfl (di.one) ?_)
 refine xs 5 rfl (Aa rfl TT.ry rfl rfl ?_)
 refine xz 2 (pB ((t0.fp).isNil)) ?_
 refine QW.ret zL ?_
 obtain rfl:=sO h
 exact Ends.one (.inr rfl) rfl (aG.tmp rfl) rfl rfl
end Go.Proofs.YtlfjfoknbjcncaaGreat.K
namespace Go.Proofs.YtlfjfoknbjcncaaGreat.K
open Go Go.RowKit
set_option linter.unusedSimpArgs false
set_option linter.unusedVariables false
set_option maxRecDepth 20000
set_option maxHeartbeats 4000000
namespace TT
theorem VU:Tryz.f34.results.toList=[.tmp 2]:=rfl
theorem VV:Tryz.f60.results.toList=[.tmp 4]:=rfl
theorem VW:Tryz.f84.results.toList=[.tmp 4]:=rfl
theorem VX:Tryz.f85.results.toList=[.tmp 4]:=rfl
theorem Mo:l6 Tryz.prog 28=none:=by kernel_rfl
end TT
inductive xL where
 | S
 | L1 (v3:(List UInt8)) (v4:Int)
noncomputable def kg (k0:(aE 32 UInt8)):xL→Option (xL⊕(List UInt8))
 | .S=>
  some (.inl (.L1 ([]:(List UInt8)) (0)))
 | .L1 v3 v4=>
  (bif (decide (v4<(64:Int))) then
  gO ((2:Int)≠0∧bA (v4.tdiv (2:Int))) (
  gO (0≤(v4.tdiv (2:Int))∧(v4.tdiv (2:Int))<((32:Nat):Int)) (
  (((bif (decide ((v4.tmod (2:Int))=(0:Int))) then
  some ((idx k0.1 (v4.tdiv (2:Int)))/(16:UInt8))
  else
  some (idx k0.1 (v4.tdiv (2:Int)))):Option UInt8).bind fun (lQ:UInt8)=>
  gO ((v3.length+([(lQ%(16:UInt8))]:List UInt8).length)*1≤140737488355328) (
  gO (bA (v4+(1:Int))) (
  some (.inl (.L1 (v3++([(lQ%(16:UInt8))]:List UInt8)) (v4+(1:Int)))))))))
  else
  some (.inr v3))
noncomputable def xM (k0:(aE 32 UInt8)):Option (List UInt8):=gU (kg k0) .S
theorem Fx (k0:(aE 32 UInt8)) (r:(List UInt8)) (h:xM k0=some r):bE Tryz.prog 34 [.agg (k0.1.map U)] (.slice (r.map U)):=by
 refine bE.aU Tryz.func34 rfl (by simp [Tryz.ntmps34]) ?_
 rw [Tryz.ntmps34,TT.VU]
 refine QW.view (s':=⟨aF [(0, .d (.agg (k0.1.map U)))],aj [],0,[]⟩) (View.init (by rfl)) zL ?_
 replace h:=cG h
 obtain ⟨_,h⟩:=h
 obtain ⟨c8,rfl,h9⟩:=aQ h;replace h:=h9;clear h9;rw [kg] at h
 refine sR ?_
 refine XK.fz (some 1) rfl rfl (eJ (ds:=k0.1.map U) rfl rfl rfl rfl cA ?_)
 refine xz 2 (.full (([]:(List UInt8)).map U)) ?_
 refine sR ?_
 refine xz 3 (.full (([]:(List UInt8)).map U)) ?_
 refine QW.seq ?_
 refine sR ?_
 refine xz 4 (pI (0)) ?_
 refine QW.block ?_
 refine QW.loop (fun k σ=>∃ v3:(List UInt8),∃ v4:Int,k≤c8∧run (kg k0) k (.L1 v3 v4)=some r∧σ=⟨aF [(1, .d (.cr (k0.1.map U))),(3, .own 0 (v3.map U)),(4,pI v4)],aj [.spare 1 v3.length],1,[]⟩) c8 zL ⟨⟨aF [(1, .d (.cr (k0.1.map U))),(3, .own 0 (([]:(List UInt8)).map U)),(4,pI (0))],aj [.spare 1 ([]:(List UInt8)).length],1,[]⟩,View.trans (View.buf 3 1 rfl zL) (View.mk 1 [0] _ _ _ rfl rfl (by decide) (iC (iC (iC trivial))) (And.intro rfl trivial) rfl zL rfl),([]:(List UInt8)),0,Nat.le_refl _,jG h,rfl⟩ ?_
 rintro pZ _ ⟨v3,v4,p4,h,rfl⟩
 obtain ⟨k_1,rfl,h9⟩:=aQ h;replace h:=h9;clear h9;rw [kg] at h
 refine QW.seq ?_
 refine sR ?_
 refine xm 6 (pI v4) ?_
 refine xs 7 rfl (cK (a:=v4) (b:=(64:Int)) rfl rfl rfl ?_)
 refine XK.nz ?_
 refine QW.cond (t:=(decide (v4<(64:Int)))) rfl zL (fun cv=>?_) (fun cv=>?_)
 ·replace h:=eX h cv
  refine QW.skip zL (aY ?_)
  refine QW.seq ?_
  refine QW.block ?_
  refine sR ?_
  refine xm 10 (pI v4) ?_
  obtain ⟨dP,h⟩:=gG h
  refine xs 11 rfl (FJ (a:=v4) (b:=(2:Int)) rfl rfl rfl dP ?_)
  obtain ⟨lY,h⟩:=gG h
  refine xs 12 rfl (mD (i:=(v4.tdiv (2:Int))) rfl TT.Mo TT.GD rfl rfl lY ?_)
  refine xs 13 rfl (aC (d:= .val (.int .u8 ((idx k0.1 (v4.tdiv (2:Int))).toNat:Int))) rfl TT.kG rfl (om (Pre.all _) lY) ?_)
  refine xz 5 (.d (.val (.int .u8 ((idx k0.1 (v4.tdiv (2:Int))).toNat:Int)))) ?_
  obtain ⟨lQ,hq,h⟩:=bG h
  refine QW.rH (fun s'=>s'=⟨aF [(1, .d (.cr (k0.1.map U))),(3, .own 0 (v3.map U)),(4,pI v4),(5, .d (.val (.int .u8 (lQ.toNat:Int))))],aj [.spare 1 v3.length],1,[]⟩) ?_ ?_
  ·replace h:=hq;clear hq
   refine sR ?_
   refine xm 14 (pI v4) ?_
   refine xs 15 rfl (wS (a:=v4) (b:=(2:Int)) rfl rfl rfl (by decide) ?_)
   refine xs 16 rfl (ej (a:=(v4.tmod (2:Int))) (b:=(0:Int)) rfl rfl rfl ?_)
   refine XK.nz ?_
   refine QW.cond (t:=(decide ((v4.tmod (2:Int))=(0:Int)))) rfl zL (fun kI=>?_) (fun kI=>?_)
   ·replace h:=bT h kI
    refine rG ?_
    refine xm 17 (.d (.val (.int .u8 ((idx k0.1 (v4.tdiv (2:Int))).toNat:Int)))) ?_
    refine xs 18 rfl (Qk (p:=(idx k0.1 (v4.tdiv (2:Int)))) (q:=(16:UInt8)) rfl rfl rfl (by decide) ?_)
    refine xz 5 (.d (.val (.int .u8 (((idx k0.1 (v4.tdiv (2:Int)))/(16:UInt8)).toNat:Int)))) ?_
    obtain rfl:=sO h
    exact ⟨⟨aF [(1, .d (.cr (k0.1.map U))),(3, .own 0 (v3.map U)),(4,pI v4),(5, .d (.val (.int .u8 (((idx k0.1 (v4.tdiv (2:Int)))/(16:UInt8)).toNat:Int))))],aj [.spare 1 v3.length],1,[]⟩,View.mk 1 [0] _ _ _ rfl rfl (by decide) (iC (iC (iC (iC trivial)))) (And.intro rfl trivial) rfl zL rfl,rfl⟩
   ·replace h:=bF h kI
    refine QW.skip zL (aY ?_)
    obtain rfl:=sO h
    exact ⟨⟨aF [(1, .d (.cr (k0.1.map U))),(3, .own 0 (v3.map U)),(4,pI v4),(5, .d (.val (.int .u8 ((idx k0.1 (v4.tdiv (2:Int))).toNat:Int))))],aj [.spare 1 v3.length],1,[]⟩,View.mk 1 [0] _ _ _ rfl rfl (by decide) (iC (iC (iC (iC trivial)))) (And.intro rfl trivial) rfl zL rfl,rfl⟩
  ·rintro _ rfl
   refine rG ?_
   refine xm 19 (.own 0 (v3.map U)) ?_
   refine xm 20 (.d (.val (.int .u8 (lQ.toNat:Int)))) ?_
   refine xs 21 rfl (D2 (p:=lQ) (q:=(16:UInt8)) rfl rfl rfl (by decide) ?_)
   refine xs 22 rfl (dU (en:=U) (l:=([(lQ%(16:UInt8))]:List UInt8)) rfl TT.e9 bH rfl rfl (by decide) (by simp [dg,cQ,aB,dK,PV.cz,cu,aF,jz,iL,jP,bV,Value.oneCell']) ?_)
   obtain ⟨lZ,h⟩:=gG h
   refine xs 23 rfl (iJ (en:=U) (l:=v3) (l2:=([(lQ%(16:UInt8))]:List UInt8)) rfl TT.e9 TT.bC rfl bH rfl rfl rfl lZ (by decide) ?_)
   refine xa 3 (.own 1 ((v3++([(lQ%(16:UInt8))]:List UInt8)).map U)) ?_
   refine XK.nil (gC (aY ?_))
   refine rG ?_
   refine xm 8 (pI v4) ?_
   obtain ⟨mc,h⟩:=gG h
   refine xs 9 rfl (bY (a:=v4) (b:=(1:Int)) rfl rfl rfl mc ?_)
   refine xz 4 (pI (v4+(1:Int))) ?_
   exact ⟨k_1,by omega,⟨aF [(1, .d (.cr (k0.1.map U))),(3, .own 0 ((v3++([(lQ%(16:UInt8))]:List UInt8)).map U)),(4,pI (v4+(1:Int)))],aj [.spare 1 (v3++([(lQ%(16:UInt8))]:List UInt8)).length],1,[]⟩,View.mk 1 [1] _ _ _ rfl rfl (by decide) (iC (iC (iC trivial))) (And.intro rfl trivial) rfl zL rfl,(v3++([(lQ%(16:UInt8))]:List UInt8)),(v4+(1:Int)),by omega,jG h,rfl⟩
 ·replace h:=eY h cv
  refine QW.exit zL (eA (eA (jY (aY ?_))))
  refine sR ?_
  refine xm 24 (.own 0 (v3.map U)) ?_
  refine xz 2 (.own 0 (v3.map U)) ?_
  refine QW.ret zL ?_
  obtain rfl:=sG h
  exact Ends.one (.inr rfl) rfl (aG.tmp rfl) rfl rfl
inductive zG where
 | S
 | L1 (v5:Int)
noncomputable def fQ (a0:(List UInt8)) (b1:(List UInt8)):zG→Option (zG⊕Int)
 | .S=>
  some (.inl (.L1 (0)))
 | .L1 v5=>
  (bif (decide (v5<(a0.length:Int))) then
  gO ((decide ((b1.length:Int)≤v5))=false→0≤v5∧v5<(a0.length:Int)) (
  gO ((decide ((b1.length:Int)≤v5))=false→0≤v5∧v5<(b1.length:Int)) (
  (bif ((decide ((b1.length:Int)≤v5))||(!decide (((idx a0 v5).toNat:Int)=((idx b1 v5).toNat:Int)))) then
  some (.inr v5)
  else
  gO (bA (v5+(1:Int))) (
  some (.inl (.L1 (v5+(1:Int))))))))
  else
  some (.inr (a0.length:Int)))
noncomputable def uo (a0:(List UInt8)) (b1:(List UInt8)):Option Int:=gU (fQ a0 b1) .S
theorem Dl (a0:(List UInt8)) (b1:(List UInt8)) (r:Int) (h:uo a0 b1=some r):bE Tryz.prog 85 [.slice (a0.map U), .slice (b1.map U)] (.val (.int .i64 r)):=by
 refine bE.aU Tryz.func85 rfl (by simp [Tryz.ntmps85]) ?_
 rw [Tryz.ntmps85,TT.VX]
 refine QW.view (s':=⟨aF [(0, .d (.slice (a0.map U))),(1, .d (.slice (b1.map U)))],aj [],0,[]⟩) (View.init (by rfl)) zL ?_
 replace h:=cG h
 obtain ⟨_,h⟩:=h
 obtain ⟨c8,rfl,h9⟩:=aQ h;replace h:=h9;clear h9;rw [fQ] at h
 refine sR ?_
 refine xz 4 (pI (0)) ?_
 refine QW.seq ?_
 refine sR ?_
 refine xz 5 (pI (0)) ?_
 refine QW.block ?_
 refine QW.loop (fun k σ=>∃ v5:Int,k≤c8∧run (fQ a0 b1) k (.L1 v5)=some r∧σ=⟨aF [(0, .d (.slice (a0.map U))),(1, .d (.slice (b1.map U))),(5,pI v5)],aj [],0,[]⟩) c8 zL ⟨⟨aF [(0, .d (.slice (a0.map U))),(1, .d (.slice (b1.map U))),(5,pI (0))],aj [],0,[]⟩,View.mk 0 [] _ _ _ rfl rfl (by decide) (iC (iC (iC trivial))) trivial rfl zL rfl,0,Nat.le_refl _,jG h,rfl⟩ ?_
 rintro pZ _ ⟨v5,p4,h,rfl⟩
 obtain ⟨k_1,rfl,h9⟩:=aQ h;replace h:=h9;clear h9;rw [fQ] at h
 refine QW.seq ?_
 refine sR ?_
 refine xm 6 (pI v5) ?_
 refine xm 7 (.d (.slice (a0.map U))) ?_
 refine xs 8 rfl (cM (en:=U) (l:=a0) rfl TT.bC rfl ?_)
 refine xs 9 rfl (cK (a:=v5) (b:=(a0.length:Int)) rfl rfl rfl ?_)
 refine XK.nz ?_
 refine QW.cond (t:=(decide (v5<(a0.length:Int)))) rfl zL (fun cv=>?_) (fun cv=>?_)
 ·replace h:=eX h cv
  refine QW.skip zL (aY ?_)
  refine QW.seq ?_
  refine QW.block ?_
  refine QW.seq ?_
  refine QW.region zL (PW.kC (id:=4) dh (M:=_) rfl (by kernel_rfl) ?_)
  refine RQ.st (some 12) rfl rfl (au (v:=pI v5) rfl rfl ⟨⟨rfl,rfl⟩,?_⟩)
  refine RQ.st (some 13) rfl rfl (au (v:= .d (.slice (b1.map U))) rfl rfl ⟨⟨rfl,rfl⟩,?_⟩)
  refine RQ.st (some 14) rfl rfl (cM (en:=U) (l:=b1) rfl TT.bC rfl ⟨⟨rfl,rfl⟩,?_⟩)
  refine RQ.st (some 15) rfl rfl (wU (a:=v5) (b:=(b1.length:Int)) rfl rfl rfl ⟨⟨rfl,rfl⟩,?_⟩)
  refine RQ.st (some 16) rfl rfl (au (v:=pB (decide ((b1.length:Int)≤v5))) rfl rfl ⟨⟨rfl,rfl⟩,?_⟩)
  refine RQ.gd (v:= .d (.slice (a0.map U))) (T:=[]) (some 17) rfl rfl (by repeat (first | exact trivial | refine ⟨fun q=>by first | rfl | exact q | exact jQ q | exact jZ q,?_⟩)) (fun hg=>au (v:= .d (.slice (a0.map U))) rfl rfl g3) lf ?_
  refine RQ.gd (v:=pI v5) (T:=[]) (some 18) rfl rfl (by repeat (first | exact trivial | refine ⟨fun q=>by first | rfl | exact q | exact jQ q | exact jZ q,?_⟩)) (fun hg=>au (v:=pI v5) rfl rfl g3) lf ?_
  obtain ⟨dP,h⟩:=gG h
  refine RQ.gd (v:= .d (.cr ([.val (.int .u8 ((idx a0 v5).toNat:Int))]))) (T:=[]) (some 19) rfl rfl (by repeat (first | exact trivial | refine ⟨fun q=>by first | rfl | exact q | exact jQ q | exact jZ q,?_⟩)) (fun hg=>bN (l:=a0) (i:=v5) rfl TT.eD bH rfl rfl (dP (Fo hg)) g3) lf ?_
  refine RQ.gd (v:= .d (.val (.int .u8 ((idx a0 v5).toNat:Int)))) (T:=[]) (some 20) rfl rfl (by repeat (first | exact trivial | refine ⟨fun q=>by first | rfl | exact q | exact jQ q | exact jZ q,?_⟩)) (fun hg=>aC (d:= .val (.int .u8 ((idx a0 v5).toNat:Int))) rfl TT.kG rfl (di.one) g3) lf ?_
  refine RQ.gd (v:= .d (.slice (b1.map U))) (T:=[]) (some 21) rfl rfl (by repeat (first | exact trivial | refine ⟨fun q=>by first | rfl | exact q | exact jQ q | exact jZ q,?_⟩)) (fun hg=>au (v:= .d (.slice (b1.map U))) rfl rfl g3) lf ?_
  refine RQ.gd (v:=pI v5) (T:=[]) (some 22) rfl rfl (by repeat (first | exact trivial | refine ⟨fun q=>by first | rfl | exact q | exact jQ q | exact jZ q,?_⟩)) (fun hg=>au (v:=pI v5) rfl rfl g3) lf ?_
  obtain ⟨lY,h⟩:=gG h
  refine RQ.gd (v:= .d (.cr ([.val (.int .u8 ((idx b1 v5).toNat:Int))]))) (T:=[]) (some 23) rfl rfl (by repeat (first | exact trivial | refine ⟨fun q=>by first | rfl | exact q | exact jQ q | exact jZ q,?_⟩)) (fun hg=>bN (l:=b1) (i:=v5) rfl TT.eD bH rfl rfl (lY (Fo hg)) g3) lf ?_
  refine RQ.gd (v:= .d (.val (.int .u8 ((idx b1 v5).toNat:Int)))) (T:=[]) (some 24) rfl rfl (by repeat (first | exact trivial | refine ⟨fun q=>by first | rfl | exact q | exact jQ q | exact jZ q,?_⟩)) (fun hg=>aC (d:= .val (.int .u8 ((idx b1 v5).toNat:Int))) rfl TT.kG rfl (di.one) g3) lf ?_
  refine RQ.gd (v:=pB (!decide (((idx a0 v5).toNat:Int)=((idx b1 v5).toNat:Int)))) (T:=[]) (some 25) rfl rfl (by repeat (first | exact trivial | refine ⟨fun q=>by first | rfl | exact q | exact jQ q | exact jZ q,?_⟩)) (fun hg=>oa (a:=((idx a0 v5).toNat:Int)) (b:=((idx b1 v5).toNat:Int)) rfl rfl rfl g3) lf ?_
  refine RQ.st (some 26) rfl rfl (gL rfl rfl rfl rfl (fun _=>rfl) (fun hb=>by rw [hb];rfl) ⟨⟨rfl,rfl⟩,?_⟩)
  refine RQ.nil (aY ?_)
  refine QW.cond (t:=((decide ((b1.length:Int)≤v5))||(!decide (((idx a0 v5).toNat:Int)=((idx b1 v5).toNat:Int))))) rfl zL (fun kI=>?_) (fun kI=>?_)
  ·replace h:=eX h kI
   refine sR ?_
   refine xm 27 (pI v5) ?_
   refine xz 4 (pI v5) ?_
   refine QW.ret zL (mO (eC (eC (mO (eC ?_)))))
   obtain rfl:=sG h
   exact Ends.one (.inr rfl) rfl (aG.tmp rfl) rfl rfl
  ·replace h:=eY h kI
   refine QW.skip zL (gC (aY ?_))
   refine rG ?_
   refine xm 10 (pI v5) ?_
   obtain ⟨lZ,h⟩:=gG h
   refine xs 11 rfl (bY (a:=v5) (b:=(1:Int)) rfl rfl rfl lZ ?_)
   refine xz 5 (pI (v5+(1:Int))) ?_
   exact ⟨k_1,by omega,⟨aF [(0, .d (.slice (a0.map U))),(1, .d (.slice (b1.map U))),(5,pI (v5+(1:Int)))],aj [],0,[]⟩,View.mk 0 [] _ _ _ rfl rfl (by decide) (iC (iC (iC trivial))) trivial rfl zL rfl,(v5+(1:Int)),by omega,jG h,rfl⟩
 ·replace h:=eY h cv
  refine QW.exit zL (eA (eA (jY (aY ?_))))
  refine sR ?_
  refine xm 28 (.d (.slice (a0.map U))) ?_
  refine xs 29 rfl (cM (en:=U) (l:=a0) rfl TT.bC rfl ?_)
  refine xz 4 (pI (a0.length:Int)) ?_
  refine QW.ret zL ?_
  obtain rfl:=sG h
  exact Ends.one (.inr rfl) rfl (aG.tmp rfl) rfl rfl
noncomputable def rZ (a0:Int) (b1:Int):Option Int:=
  (bif (decide (a0<b1)) then
  some a0
  else
  some b1)
theorem Hi (a0:Int) (b1:Int) (r:Int) (h:rZ a0 b1=some r):bE Tryz.prog 84 [.val (.int .i64 a0), .val (.int .i64 b1)] (.val (.int .i64 r)):=by
 refine bE.aU Tryz.func84 rfl (by simp [Tryz.ntmps84]) ?_
 rw [Tryz.ntmps84,TT.VW]
 refine QW.view (s':=⟨aF [(0,pI a0),(1,pI b1)],aj [],0,[]⟩) (View.init (by rfl)) zL ?_
 unfold rZ at h
 refine sR ?_
 refine xz 4 (pI (0)) ?_
 refine QW.seq ?_
 refine sR ?_
 refine xm 5 (pI a0) ?_
 refine xm 6 (pI b1) ?_
 refine xs 7 rfl (cK (a:=a0) (b:=b1) rfl rfl rfl ?_)
 refine XK.nz ?_
 refine QW.cond (t:=(decide (a0<b1))) rfl zL (fun dm=>?_) (fun dm=>?_)
 ·replace h:=bT h dm
  refine sR ?_
  refine xm 8 (pI a0) ?_
  refine xz 4 (pI a0) ?_
  refine QW.ret zL (eC ?_)
  obtain rfl:=sO h
  exact Ends.one (.inr rfl) rfl (aG.tmp rfl) rfl rfl
 ·replace h:=bF h dm
  refine QW.skip zL (aY ?_)
  refine sR ?_
  refine xm 9 (pI b1) ?_
  refine xz 4 (pI b1) ?_
  refine QW.ret zL ?_
  obtain rfl:=sO h
  exact Ends.one (.inr rfl) rfl (aG.tmp rfl) rfl rfl
inductive BL where
 | S
 | L3 (uH:(List UInt8)) (gR:Int)
noncomputable def gh (p0:(List UInt8)) (oc:Bool):BL→Option (BL⊕(List UInt8))
 | .S=>
  (((bif oc then
  some (32)
  else
  some (0)):Option Int).bind fun (v5:Int)=>
  (((bif (decide (((p0.length:Int).tmod (2:Int))=(1:Int))) then
  gO (bA (v5+(16:Int))) (
  gO (0≤(0:Int)∧(0:Int)<(p0.length:Int)) (
  gO (bA ((v5+(16:Int))+((idx p0 (0:Int)).toNat:Int))) (
  some (((v5+(16:Int))+((idx p0 (0:Int)).toNat:Int)),1))))
  else
  some (v5,0)):Option (Int×Int)).bind fun (bl,v6)=>
  some (.inl (.L3 ([(gb bl)]:List UInt8) v6))))
 | .L3 uH gR=>
  (bif (decide (gR<(p0.length:Int))) then
  gO (0≤gR∧gR<(p0.length:Int)) (
  gO (bA (gR+(1:Int))) (
  gO (0≤(gR+(1:Int))∧(gR+(1:Int))<(p0.length:Int)) (
  gO (uH.length+([(((16:UInt8)*(idx p0 gR))+(idx p0 (gR+(1:Int))))]:List UInt8).length≤9223372036854775807) (
  gO (bA (gR+(2:Int))) (
  some (.inl (.L3 (uH++([(((16:UInt8)*(idx p0 gR))+(idx p0 (gR+(1:Int))))]:List UInt8)) (gR+(2:Int)))))))))
  else
  some (.inr uH))
noncomputable def tA (p0:(List UInt8)) (oc:Bool):Option (List UInt8):=gU (gh p0 oc) .S
theorem zH (p0:(List UInt8)) (oc:Bool) (r:(List UInt8)) (h:tA p0 oc=some r):bE Tryz.prog 60 [.slice (p0.map U), .val (.bool oc)] (.val (sV r)):=by
 refine bE.aU Tryz.func60 rfl (by simp [Tryz.ntmps60]) ?_
 rw [Tryz.ntmps60,TT.VV]
 refine QW.view (s':=⟨aF [(0, .d (.slice (p0.map U))),(1,pB oc)],aj [],0,[]⟩) (View.init (by rfl)) zL ?_
 replace h:=cG h
 obtain ⟨_,h⟩:=h
 obtain ⟨c8,rfl,h9⟩:=aQ h;replace h:=h9;clear h9;rw [gh] at h
 refine sR ?_
 refine xz 4 (pS ([]:List UInt8)) ?_
 refine sR ?_
 refine xz 5 (pI (0)) ?_
 obtain ⟨v5,hq,h⟩:=bG h
 refine QW.rH (fun s'=>s'=⟨aF [(0, .d (.slice (p0.map U))),(5,pI v5)],aj [],0,[]⟩) ?_ ?_
 ·replace h:=hq;clear hq
  refine sR ?_
  refine xm 9 (pB oc) ?_
  refine XK.nz ?_
  refine QW.cond (t:=oc) rfl zL (fun dm=>?_) (fun dm=>?_)
  ·replace h:=bT h dm
   refine rG ?_
   refine xz 5 (pI (32)) ?_
   obtain rfl:=sO h
   exact ⟨⟨aF [(0, .d (.slice (p0.map U))),(5,pI (32))],aj [],0,[]⟩,View.mk 0 [] _ _ _ rfl rfl (by decide) (iC (iC trivial)) trivial rfl zL rfl,rfl⟩
  ·replace h:=bF h dm
   refine QW.skip zL (aY ?_)
   obtain rfl:=sO h
   exact ⟨⟨aF [(0, .d (.slice (p0.map U))),(5,pI (0))],aj [],0,[]⟩,View.mk 0 [] _ _ _ rfl rfl (by decide) (iC (iC trivial)) trivial rfl zL rfl,rfl⟩
 ·rintro _ rfl
  refine sR ?_
  refine xz 6 (pI (0)) ?_
  obtain ⟨⟨bl,v6⟩,hq,h⟩:=bG h
  refine QW.rH (fun s'=>s'=⟨aF [(0, .d (.slice (p0.map U))),(5,pI bl),(6,pI v6)],aj [],0,[]⟩) ?_ ?_
  ·replace h:=hq;clear hq
   refine sR ?_
   refine xm 10 (.d (.slice (p0.map U))) ?_
   refine xs 11 rfl (cM (en:=U) (l:=p0) rfl TT.bC rfl ?_)
   refine xs 12 rfl (wS (a:=(p0.length:Int)) (b:=(2:Int)) rfl rfl rfl (by decide) ?_)
   refine xs 13 rfl (ej (a:=((p0.length:Int).tmod (2:Int))) (b:=(1:Int)) rfl rfl rfl ?_)
   refine XK.nz ?_
   refine QW.cond (t:=(decide (((p0.length:Int).tmod (2:Int))=(1:Int)))) rfl zL (fun cv=>?_) (fun cv=>?_)
   ·replace h:=bT h cv
    refine sR ?_
    refine xm 14 (pI v5) ?_
    obtain ⟨dP,h⟩:=bk h
    refine xs 15 rfl (bY (a:=v5) (b:=(16:Int)) rfl rfl rfl dP ?_)
    refine xm 16 (.d (.slice (p0.map U))) ?_
    obtain ⟨lY,h⟩:=bk h
    refine xs 17 rfl (bN (l:=p0) (i:=(0:Int)) rfl TT.eD bH rfl rfl lY ?_)
    refine xs 18 rfl (aC (d:= .val (.int .u8 ((idx p0 (0:Int)).toNat:Int))) rfl TT.kG rfl (di.one) ?_)
    refine xs 19 rfl (C4 (n:=((idx p0 (0:Int)).toNat:Int)) rfl TT.dV TT.kY rfl (C6 _) ?_)
    obtain ⟨mR,h⟩:=bk h
    refine xs 20 rfl (bY (a:=(v5+(16:Int))) (b:=((idx p0 (0:Int)).toNat:Int)) rfl rfl rfl mR ?_)
    refine xz 5 (pI ((v5+(16:Int))+((idx p0 (0:Int)).toNat:Int))) ?_
    refine rG ?_
    refine xz 6 (pI (1)) ?_
    simp only [Option.some.injEq,Prod.mk.injEq] at h
    obtain ⟨rfl,rfl⟩:=h
    exact ⟨⟨aF [(0, .d (.slice (p0.map U))),(5,pI ((v5+(16:Int))+((idx p0 (0:Int)).toNat:Int))),(6,pI (1))],aj [],0,[]⟩,View.mk 0 [] _ _ _ rfl rfl (by decide) (iC (iC (iC trivial))) trivial rfl zL rfl,rfl⟩
   ·replace h:=bF h cv
    refine QW.skip zL (aY ?_)
    simp only [Option.some.injEq,Prod.mk.injEq] at h
    obtain ⟨rfl,rfl⟩:=h
    exact ⟨⟨aF [(0, .d (.slice (p0.map U))),(5,pI v5),(6,pI (0))],aj [],0,[]⟩,View.mk 0 [] _ _ _ rfl rfl (by decide) (iC (iC (iC trivial))) trivial rfl zL rfl,rfl⟩
  ·rintro _ rfl
   refine sR ?_
   refine xm 21 (pI bl) ?_
   refine xs 22 rfl (nR (n:=bl) rfl TT.kY TT.dV rfl ?_)
   refine xs 23 rfl (dU (en:=U) (l:=([(gb bl)]:List UInt8)) rfl TT.e9 bH rfl rfl (by decide) (by simp [dg,cQ,aB,dK,PV.cz,cu,aF,jz,iL,jP,bV,Value.oneCell']) ?_)
   refine xs 24 rfl (nK (l:=([(gb bl)]:List UInt8)) rfl TT.bC TT.dV TT.bZ rfl ?_)
   refine xz 7 (pS ([(gb bl)]:List UInt8)) ?_
   refine QW.seq ?_
   refine sR ?_
   refine xm 25 (pI v6) ?_
   refine xz 8 (pI v6) ?_
   refine QW.block ?_
   refine QW.loop (fun k σ=>∃ uH:(List UInt8),∃ gR:Int,k≤c8∧run (gh p0 oc) k (.L3 uH gR)=some r∧σ=⟨aF [(0, .d (.slice (p0.map U))),(7,pS uH),(8,pI gR)],aj [],0,[]⟩) c8 zL ⟨⟨aF [(0, .d (.slice (p0.map U))),(7,pS ([(gb bl)]:List UInt8)),(8,pI v6)],aj [],0,[]⟩,View.mk 0 [] _ _ _ rfl rfl (by decide) (iC (iC (iC trivial))) trivial rfl zL rfl,([(gb bl)]:List UInt8),v6,Nat.le_refl _,jG h,rfl⟩ ?_
   rintro Zr _ ⟨uH,gR,Zs,h,rfl⟩
   obtain ⟨XR,rfl,h9⟩:=aQ h;replace h:=h9;clear h9;rw [gh] at h
   refine QW.seq ?_
   refine sR ?_
   refine xm 26 (pI gR) ?_
   refine xm 27 (.d (.slice (p0.map U))) ?_
   refine xs 28 rfl (cM (en:=U) (l:=p0) rfl TT.bC rfl ?_)
   refine xs 29 rfl (cK (a:=gR) (b:=(p0.length:Int)) rfl rfl rfl ?_)
   refine XK.nz ?_
   refine QW.cond (t:=(decide (gR<(p0.length:Int)))) rfl zL (fun rS=>?_) (fun rS=>?_)
   ·replace h:=eX h rS
    refine QW.skip zL (aY ?_)
    refine QW.seq ?_
    refine QW.block ?_
    refine QW.region zL (PW.kC (id:=12) dh (M:=_) rfl (by kernel_rfl) ?_)
    refine RQ.st (some 32) rfl rfl (au (v:=pS uH) rfl rfl ⟨⟨rfl,rfl⟩,?_⟩)
    refine RQ.st (some 33) rfl rfl (au (v:= .d (.slice (p0.map U))) rfl rfl ⟨⟨rfl,rfl⟩,?_⟩)
    refine RQ.st (some 34) rfl rfl (au (v:=pI gR) rfl rfl ⟨⟨rfl,rfl⟩,?_⟩)
    obtain ⟨rM,h⟩:=gG h
    refine RQ.st (some 35) rfl rfl (bN (l:=p0) (i:=gR) rfl TT.eD bH rfl rfl rM ⟨⟨rfl,rfl⟩,?_⟩)
    refine RQ.st (some 36) rfl rfl (aC (d:= .val (.int .u8 ((idx p0 gR).toNat:Int))) rfl TT.kG rfl (di.one) ⟨⟨rfl,rfl⟩,?_⟩)
    refine RQ.st (some 37) rfl rfl (Qj (p:=(16:UInt8)) (q:=(idx p0 gR)) rfl rfl rfl ⟨⟨rfl,rfl⟩,?_⟩)
    refine RQ.st (some 38) rfl rfl (au (v:= .d (.slice (p0.map U))) rfl rfl ⟨⟨rfl,rfl⟩,?_⟩)
    refine RQ.st (some 39) rfl rfl (au (v:=pI gR) rfl rfl ⟨⟨rfl,rfl⟩,?_⟩)
    obtain ⟨rN,h⟩:=gG h
    refine RQ.st (some 40) rfl rfl (bY (a:=gR) (b:=(1:Int)) rfl rfl rfl rN ⟨⟨rfl,rfl⟩,?_⟩)
    obtain ⟨oq,h⟩:=gG h
    refine RQ.st (some 41) rfl rfl (bN (l:=p0) (i:=(gR+(1:Int))) rfl TT.eD bH rfl rfl oq ⟨⟨rfl,rfl⟩,?_⟩)
    refine RQ.st (some 42) rfl rfl (aC (d:= .val (.int .u8 ((idx p0 (gR+(1:Int))).toNat:Int))) rfl TT.kG rfl (di.one) ⟨⟨rfl,rfl⟩,?_⟩)
    refine RQ.st (some 43) rfl rfl (I6 (p:=((16:UInt8)*(idx p0 gR))) (q:=(idx p0 (gR+(1:Int)))) rfl rfl rfl ⟨⟨rfl,rfl⟩,?_⟩)
    refine RQ.st (some 44) rfl rfl (dU (en:=U) (l:=([(((16:UInt8)*(idx p0 gR))+(idx p0 (gR+(1:Int))))]:List UInt8)) rfl TT.e9 bH rfl rfl (by decide) (by simp [dg,cQ,aB,dK,PV.cz,cu,aF,jz,iL,jP,bV,Value.oneCell']) ⟨⟨rfl,rfl⟩,?_⟩)
    refine RQ.st (some 45) rfl rfl (nK (l:=([(((16:UInt8)*(idx p0 gR))+(idx p0 (gR+(1:Int))))]:List UInt8)) rfl TT.bC TT.dV TT.bZ rfl ⟨⟨rfl,rfl⟩,?_⟩)
    obtain ⟨vG,h⟩:=gG h
    refine RQ.st (some 46) rfl rfl (ld (a:=uH) (b:=([(((16:UInt8)*(idx p0 gR))+(idx p0 (gR+(1:Int))))]:List UInt8)) rfl rfl rfl vG ⟨⟨rfl,rfl⟩,?_⟩)
    refine RQ.st (some 7) rfl rfl (cq (v:=pS (uH++([(((16:UInt8)*(idx p0 gR))+(idx p0 (gR+(1:Int))))]:List UInt8))) rfl rfl ⟨⟨rfl,rfl⟩,?_⟩)
    refine RQ.nil (gC (aY ?_))
    refine QW.view (s':=⟨aF [(0, .d (.slice (p0.map U))),(7,pS (uH++([(((16:UInt8)*(idx p0 gR))+(idx p0 (gR+(1:Int))))]:List UInt8))),(8,pI gR)],aj [],0,[]⟩) (View.mk 0 [] _ _ _ rfl rfl (by decide) (iC (iC (iC trivial))) trivial rfl zL rfl) zL ?_
    refine rG ?_
    refine xm 30 (pI gR) ?_
    obtain ⟨mX,h⟩:=gG h
    refine xs 31 rfl (bY (a:=gR) (b:=(2:Int)) rfl rfl rfl mX ?_)
    refine xz 8 (pI (gR+(2:Int))) ?_
    exact ⟨XR,by omega,⟨aF [(0, .d (.slice (p0.map U))),(7,pS (uH++([(((16:UInt8)*(idx p0 gR))+(idx p0 (gR+(1:Int))))]:List UInt8))),(8,pI (gR+(2:Int)))],aj [],0,[]⟩,View.mk 0 [] _ _ _ rfl rfl (by decide) (iC (iC (iC trivial))) trivial rfl zL rfl,(uH++([(((16:UInt8)*(idx p0 gR))+(idx p0 (gR+(1:Int))))]:List UInt8)),(gR+(2:Int)),by omega,jG h,rfl⟩
   ·replace h:=eY h rS
    refine QW.exit zL (eA (eA (jY (aY ?_))))
    refine sR ?_
    refine xm 47 (pS uH) ?_
    refine xz 4 (pS uH) ?_
    refine QW.ret zL ?_
    obtain rfl:=sG h
    exact Ends.one (.inr rfl) rfl (aG.tmp rfl) rfl rfl
end Go.Proofs.YtlfjfoknbjcncaaGreat.K
