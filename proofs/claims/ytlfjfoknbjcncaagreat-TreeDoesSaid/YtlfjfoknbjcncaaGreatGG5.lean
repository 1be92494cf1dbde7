/- Package node: what it reckons. -/
import Derived.Test.YtlfjfoknbjcncaaGreatGG4
import Derived.KernelRfl
namespace Go.Proofs.YtlfjfoknbjcncaaGreat.K
open Go Go.RowKit
set_option linter.unusedSimpArgs false
set_option linter.unusedVariables false
set_option maxRecDepth 20000
set_option maxHeartbeats 4000000
namespace TT
theorem oN:mu Tryz.prog 56=some (16,1,false):=by kernel_rfl
theorem L8:pX Tryz.prog 56=some ([Value.string ⟨#[]⟩,Value.string ⟨#[]⟩,Value.string ⟨#[]⟩,Value.string ⟨#[]⟩,Value.string ⟨#[]⟩,Value.string ⟨#[]⟩,Value.string ⟨#[]⟩,Value.string ⟨#[]⟩,Value.string ⟨#[]⟩,Value.string ⟨#[]⟩,Value.string ⟨#[]⟩,Value.string ⟨#[]⟩,Value.string ⟨#[]⟩,Value.string ⟨#[]⟩,Value.string ⟨#[]⟩,Value.string ⟨#[]⟩], .inr 1):=by kernel_rfl
theorem oO:pX Tryz.prog 58=some ([Value.int IntKind.i64 0,Value.slice none 0 0,Value.string ⟨#[]⟩,Value.string ⟨#[]⟩,Value.string ⟨#[]⟩,Value.string ⟨#[]⟩,Value.string ⟨#[]⟩,Value.string ⟨#[]⟩,Value.string ⟨#[]⟩,Value.string ⟨#[]⟩,Value.string ⟨#[]⟩,Value.string ⟨#[]⟩,Value.string ⟨#[]⟩,Value.string ⟨#[]⟩,Value.string ⟨#[]⟩,Value.string ⟨#[]⟩,Value.string ⟨#[]⟩,Value.string ⟨#[]⟩,Value.string ⟨#[]⟩], .inl [(0,1),(1,1),(2,1),(3,16)]):=by kernel_rfl
theorem L9:aN Tryz.prog 106=true:=by kernel_rfl
theorem E0:aN Tryz.prog 107=true:=by kernel_rfl
theorem Ma:aN Tryz.prog 108=true:=by kernel_rfl
theorem Mb:aN Tryz.prog 114=true:=by kernel_rfl
theorem Mc:aN Tryz.prog 115=true:=by kernel_rfl
theorem Md:aN Tryz.prog 116=true:=by kernel_rfl
theorem GP:aN Tryz.prog 30=true:=by kernel_rfl
theorem N3:aN Tryz.prog 41=true:=by kernel_rfl
theorem N4:aN Tryz.prog 42=true:=by kernel_rfl
theorem vJ:aN Tryz.prog 43=true:=by kernel_rfl
theorem N5:aN Tryz.prog 51=true:=by kernel_rfl
theorem yZ:aN Tryz.prog 52=true:=by kernel_rfl
theorem Cg:aN Tryz.prog 53=true:=by kernel_rfl
theorem GQ:aN Tryz.prog 55=true:=by kernel_rfl
theorem N6:aN Tryz.prog 71=true:=by kernel_rfl
theorem N7:aN Tryz.prog 72=true:=by kernel_rfl
theorem N8:aN Tryz.prog 73=true:=by kernel_rfl
theorem N9:aN Tryz.prog 75=true:=by kernel_rfl
theorem Oa:aN Tryz.prog 76=true:=by kernel_rfl
theorem Ob:aN Tryz.prog 77=true:=by kernel_rfl
theorem Oc:aN Tryz.prog 78=true:=by kernel_rfl
theorem GR:aN Tryz.prog 83=true:=by kernel_rfl
theorem Od:aN Tryz.prog 94=true:=by kernel_rfl
theorem GS:aN Tryz.prog 97=true:=by kernel_rfl
theorem qE:lu Tryz.prog 58 0=some (0,1,false):=by kernel_rfl
theorem qF:lu Tryz.prog 58 1=some (1,1,false):=by kernel_rfl
theorem sZ:lu Tryz.prog 58 2=some (2,1,false):=by kernel_rfl
theorem mT:lu Tryz.prog 58 3=some (3,16,true):=by kernel_rfl
theorem Tf:Tryz.f106.results.toList=[.cell 4 58]:=rfl
theorem Tg:Tryz.f107.results.toList=[.tmp 2]:=rfl
theorem Th:Tryz.f108.results.toList=[.cell 2 58]:=rfl
theorem Ti:Tryz.f115.results.toList=[.cell 4 58]:=rfl
theorem Tj:Tryz.f116.results.toList=[.cell 4 58]:=rfl
theorem Vh:Tryz.f30.results.toList=[.tmp 2, .tmp 3]:=rfl
theorem Vi:Tryz.f41.results.toList=[.tmp 2]:=rfl
theorem Vj:Tryz.f42.results.toList=[.tmp 2]:=rfl
theorem Vk:Tryz.f55.results.toList=[.cell 2 82]:=rfl
theorem Vl:Tryz.f71.results.toList=[.tmp 2]:=rfl
theorem Vm:Tryz.f72.results.toList=[.tmp 2]:=rfl
theorem Vn:Tryz.f73.results.toList=[.tmp 2]:=rfl
theorem Vo:Tryz.f75.results.toList=[.tmp 4]:=rfl
theorem Vp:Tryz.f76.results.toList=[.tmp 4]:=rfl
theorem Vq:Tryz.f77.results.toList=[.tmp 2]:=rfl
theorem Vt:Tryz.f78.results.toList=[.tmp 2]:=rfl
theorem Vu:Tryz.f94.results.toList=[.cell 2 58, .tmp 3]:=rfl
theorem Vv:Tryz.f97.results.toList=[.tmp 4]:=rfl
theorem GU:oE Tryz.prog 90=some (1,16):=by kernel_rfl
theorem Tk:SH Tryz.prog 90=true:=by kernel_rfl
theorem tV:l6 Tryz.prog 56=none:=by kernel_rfl
theorem An:l6 Tryz.prog 90=some (1,16,false):=by kernel_rfl
theorem KE:jC Tryz.prog 56=some (true,16):=by kernel_rfl
theorem dY:jC Tryz.prog 58=some (true,19):=by kernel_rfl
theorem Jn:Program.underlying Tryz.prog 56=some (.array 16 9):=by kernel_rfl
theorem yo:Program.underlying Tryz.prog 90=some (.slice 9):=by kernel_rfl
theorem QJ:lG Tryz.prog 56=some [Value.string ⟨#[]⟩,Value.string ⟨#[]⟩,Value.string ⟨#[]⟩,Value.string ⟨#[]⟩,Value.string ⟨#[]⟩,Value.string ⟨#[]⟩,Value.string ⟨#[]⟩,Value.string ⟨#[]⟩,Value.string ⟨#[]⟩,Value.string ⟨#[]⟩,Value.string ⟨#[]⟩,Value.string ⟨#[]⟩,Value.string ⟨#[]⟩,Value.string ⟨#[]⟩,Value.string ⟨#[]⟩,Value.string ⟨#[]⟩]:=by kernel_rfl
theorem j9:lG Tryz.prog 58=some [Value.int IntKind.i64 0,Value.slice none 0 0,Value.string ⟨#[]⟩,Value.string ⟨#[]⟩,Value.string ⟨#[]⟩,Value.string ⟨#[]⟩,Value.string ⟨#[]⟩,Value.string ⟨#[]⟩,Value.string ⟨#[]⟩,Value.string ⟨#[]⟩,Value.string ⟨#[]⟩,Value.string ⟨#[]⟩,Value.string ⟨#[]⟩,Value.string ⟨#[]⟩,Value.string ⟨#[]⟩,Value.string ⟨#[]⟩,Value.string ⟨#[]⟩,Value.string ⟨#[]⟩,Value.string ⟨#[]⟩]:=by kernel_rfl
end TT
noncomputable def rP (eI:(List UInt8)) (iF:(List UInt8)):Option Node:=
  ((cV eI).bind fun (x_1:(List UInt8))=>
  some (⟨1,x_1,iF,(aE.rep 16 ([]:(List UInt8)))⟩:Node))
theorem GV (eI:(List UInt8)) (iF:(List UInt8)) (r:Node) (h:rP eI iF=some r):bE Tryz.prog 115 [.slice (eI.map U), .val (sV iF)] (.agg (cNode r)):=by
 refine bE.aU Tryz.func115 rfl (by simp [Tryz.ntmps115]) ?_
 rw [Tryz.ntmps115,TT.Ti]
 refine QW.view (s':=⟨aF [(0, .d (.slice (eI.map U))),(1,pS iF)],aj [],0,[]⟩) (View.init (by rfl)) zL ?_
 unfold rP at h
 refine sR ?_
 refine xs 4 rfl (bP (l:=(([pI (0), .full (([]:(List UInt8)).map U),pS ([]:List UInt8)])++(((aE.rep 16 ([]:(List UInt8))).1.map eS).map PV.d))) rfl TT.j9 rfl rfl ?_)
 refine XK.nz ?_
 refine sR ?_
 refine xm 5 (.d (.slice (eI.map U))) ?_
 obtain ⟨x_1,fy,h⟩:=bO h
 refine xs 6 rfl (aA rfl rfl TT.vJ rfl (gV eI _ fy) ?_)
 refine xm 7 (pS iF) ?_
 refine xs 8 rfl (fk (v:= .agg (([pI (1), .d (.slice (x_1.map U)),pS iF])++(((aE.rep 16 ([]:(List UInt8))).1.map eS).map PV.d))) rfl TT.oO (dM rfl (cx (p:=pI (1)) (cells:=(([pI (0), .full (([]:(List UInt8)).map U),pS ([]:List UInt8)])++(((aE.rep 16 ([]:(List UInt8))).1.map eS).map PV.d))) (cells':=(([pI (1), .full (([]:(List UInt8)).map U),pS ([]:List UInt8)])++(((aE.rep 16 ([]:(List UInt8))).1.map eS).map PV.d))) rfl rfl rfl (bX (aD (A:=[pI (0), .full (([]:(List UInt8)).map U),pS ([]:List UInt8)]) (b:=16) rfl (aq _) rfl) bL) (fq 0 (by first | exact Nat.le_of_ble_eq_true rfl | simp) rfl) (cx (p:= .d (.slice (x_1.map U))) (cells:=(([pI (1), .full (([]:(List UInt8)).map U),pS ([]:List UInt8)])++(((aE.rep 16 ([]:(List UInt8))).1.map eS).map PV.d))) (cells':=(([pI (1), .d (.slice (x_1.map U)),pS ([]:List UInt8)])++(((aE.rep 16 ([]:(List UInt8))).1.map eS).map PV.d))) rfl rfl rfl (bX (aD (A:=[pI (1), .full (([]:(List UInt8)).map U),pS ([]:List UInt8)]) (b:=16) rfl (aq _) rfl) bL) (fq 1 (by first | exact Nat.le_of_ble_eq_true rfl | simp) rfl) (cx (p:=pS iF) (cells:=(([pI (1), .d (.slice (x_1.map U)),pS ([]:List UInt8)])++(((aE.rep 16 ([]:(List UInt8))).1.map eS).map PV.d))) (cells':=(([pI (1), .d (.slice (x_1.map U)),pS iF])++(((aE.rep 16 ([]:(List UInt8))).1.map eS).map PV.d))) rfl rfl rfl (bX (aD (A:=[pI (1), .d (.slice (x_1.map U)),pS ([]:List UInt8)]) (b:=16) rfl (aq _) rfl) bL) (fq 2 (by first | exact Nat.le_of_ble_eq_true rfl | simp) rfl) dL)))) ?_)
 refine XK.st none rfl rfl (bw (c:=(([pI (1), .d (.slice (x_1.map U)),pS iF])++(((aE.rep 16 ([]:(List UInt8))).1.map eS).map PV.d))) (l':=(([pI (1), .d (.slice (x_1.map U)),pS iF])++(((aE.rep 16 ([]:(List UInt8))).1.map eS).map PV.d))) rfl TT.dY rfl rfl rfl rfl rfl (aD (A:=[pI (1), .d (.slice (x_1.map U)),pS iF]) (b:=16) rfl (aq _) rfl) (bX (aD (A:=[pI (0), .full (([]:(List UInt8)).map U),pS ([]:List UInt8)]) (b:=16) rfl (aq _) rfl) bL) (cT ((aD (A:=[pI (0), .full (([]:(List UInt8)).map U),pS ([]:List UInt8)]) (b:=16) rfl (aq _) rfl).trans (aD (A:=[pI (1), .d (.slice (x_1.map U)),pS iF]) (b:=16) rfl (aq _) rfl).symm)) ?_)
 refine XK.nz ?_
 refine QW.ret zL ?_
 obtain rfl:=sO h
 exact Ends.one (.inr rfl) rfl (aG.cell rfl rfl TT.dY (fO (aD (A:=[pI (1), .d (.slice (x_1.map U)),pS iF]) (b:=16) rfl (aq _) rfl) (Nat.succ_pos _))) (by simp only [PV.cW,PV.eg,iM,cA,Option.bind_some,Option.map_some,cNode]<;>rfl) rfl
noncomputable def kS (x0:Item):Option (List UInt8):=
  (bif (!(x0).cD) then
  some (x0.fS)
  else
  ((lN x0).bind fun (x_2:((List UInt8)×Int))=>
  some (x_2.1)))
theorem uB (x0:Item) (r:(List UInt8)) (h:kS x0=some r):bE Tryz.prog 107 [.agg (dr x0)] (.val (sV r)):=by
 refine bE.aU Tryz.func107 rfl (by simp [Tryz.ntmps107]) ?_
 rw [Tryz.ntmps107,TT.Tg]
 refine QW.view (s':=⟨aF [(0, .d (.agg (dr x0)))],aj [],0,[]⟩) (View.init (by rfl)) zL ?_
 unfold kS at h
 refine sR ?_
 refine XK.fz (some 1) rfl rfl (eJ (ds:=dr x0) rfl rfl rfl rfl rfl ?_)
 refine xz 2 (pS ([]:List UInt8)) ?_
 refine QW.seq ?_
 refine sR ?_
 refine xs 5 rfl (aO rfl TT.vz (by decide) rfl ?_)
 refine xs 6 rfl (aC (d:= .val (.bool (x0.cD))) rfl TT.GI rfl (di.one) ?_)
 refine xs 7 rfl (mC rfl rfl ?_)
 refine XK.nz ?_
 refine QW.cond (t:=(!(x0).cD)) rfl zL (fun dm=>?_) (fun dm=>?_)
 ·replace h:=bT h dm
  refine sR ?_
  refine xs 8 rfl (aO rfl TT.jE (by decide) rfl ?_)
  refine xs 9 rfl (aC (d:= .val (sV (x0.fS))) rfl TT.fF rfl (di.one) ?_)
  refine xz 2 (pS (x0.fS)) ?_
  refine QW.ret zL (eC ?_)
  obtain rfl:=sO h
  exact Ends.one (.inr rfl) rfl (aG.tmp rfl) rfl rfl
 ·replace h:=bF h dm
  refine QW.skip zL (aY ?_)
  refine sR ?_
  refine xs 11 rfl (aC (d:= .agg (dr x0)) rfl TT.ew rfl (⟨by simp [dr],rfl⟩) ?_)
  obtain ⟨x_2,nD,h⟩:=bO h
  refine xs 12 rfl (aA rfl rfl TT.yZ rfl (uS x0 _ nD) ?_)
  refine xm 10 (.d (.tuple [.val (sV (x_2.1)), .val (.int .i64 (x_2.2))])) ?_
  refine xs 13 rfl (bz rfl rfl rfl ?_)
  refine xs 14 rfl (bz rfl rfl rfl ?_)
  refine xa 3 (pS (x_2.1)) ?_
  refine xz 4 (pI (x_2.2)) ?_
  refine sR ?_
  refine xm 15 (pS (x_2.1)) ?_
  refine xz 2 (pS (x_2.1)) ?_
  refine QW.ret zL ?_
  obtain rfl:=sO h
  exact Ends.one (.inr rfl) rfl (aG.tmp rfl) rfl rfl
noncomputable def tW (eI:(List UInt8)) (w6:(List UInt8)):Option Node:=
  ((cV eI).bind fun (x_1:(List UInt8))=>
  some (⟨2,x_1,([]:List UInt8),(⟨[w6,([]:(List UInt8)),([]:(List UInt8)),([]:(List UInt8)),([]:(List UInt8)),([]:(List UInt8)),([]:(List UInt8)),([]:(List UInt8)),([]:(List UInt8)),([]:(List UInt8)),([]:(List UInt8)),([]:(List UInt8)),([]:(List UInt8)),([]:(List UInt8)),([]:(List UInt8)),([]:(List UInt8))],rfl⟩:(aE 16 (List UInt8)))⟩:Node))
theorem IC (eI:(List UInt8)) (w6:(List UInt8)) (r:Node) (h:tW eI w6=some r):bE Tryz.prog 116 [.slice (eI.map U), .val (sV w6)] (.agg (cNode r)):=by
 refine bE.aU Tryz.func116 rfl (by simp [Tryz.ntmps116]) ?_
 rw [Tryz.ntmps116,TT.Tj]
 refine QW.view (s':=⟨aF [(0, .d (.slice (eI.map U))),(1,pS w6)],aj [],0,[]⟩) (View.init (by rfl)) zL ?_
 unfold tW at h
 refine sR ?_
 refine xs 4 rfl (bP (l:=(([pI (0), .full (([]:(List UInt8)).map U),pS ([]:List UInt8)])++(((aE.rep 16 ([]:(List UInt8))).1.map eS).map PV.d))) rfl TT.j9 rfl rfl ?_)
 refine XK.nz ?_
 refine sR ?_
 refine xm 5 (.d (.slice (eI.map U))) ?_
 obtain ⟨x_1,fy,h⟩:=bO h
 refine xs 6 rfl (aA rfl rfl TT.vJ rfl (gV eI _ fy) ?_)
 refine xm 7 (pS w6) ?_
 refine XK.as (some 8) rfl rfl (u5 (v:= .agg [pS w6,pS ([]:List UInt8),pS ([]:List UInt8),pS ([]:List UInt8),pS ([]:List UInt8),pS ([]:List UInt8),pS ([]:List UInt8),pS ([]:List UInt8),pS ([]:List UInt8),pS ([]:List UInt8),pS ([]:List UInt8),pS ([]:List UInt8),pS ([]:List UInt8),pS ([]:List UInt8),pS ([]:List UInt8),pS ([]:List UInt8)]) rfl (by rw [TT.L8];simp [k8,k7,placeOf,og,aB,PV.cz,PV.g8,Value.oneCell',lX,nG,dK,List.all,cu,aF,jz,iL,bV,jP]) (by rw [TT.L8];rfl) ⟨.d (.agg ((⟨[w6,([]:(List UInt8)),([]:(List UInt8)),([]:(List UInt8)),([]:(List UInt8)),([]:(List UInt8)),([]:(List UInt8)),([]:(List UInt8)),([]:(List UInt8)),([]:(List UInt8)),([]:(List UInt8)),([]:(List UInt8)),([]:(List UInt8)),([]:(List UInt8)),([]:(List UInt8)),([]:(List UInt8))],rfl⟩:(aE 16 (List UInt8))).1.map eS)),(iy.cW rfl),?_⟩)
 refine xs 9 rfl (fk (v:= .agg (([pI (2), .d (.slice (x_1.map U)),pS ([]:List UInt8)])++(((⟨[w6,([]:(List UInt8)),([]:(List UInt8)),([]:(List UInt8)),([]:(List UInt8)),([]:(List UInt8)),([]:(List UInt8)),([]:(List UInt8)),([]:(List UInt8)),([]:(List UInt8)),([]:(List UInt8)),([]:(List UInt8)),([]:(List UInt8)),([]:(List UInt8)),([]:(List UInt8)),([]:(List UInt8))],rfl⟩:(aE 16 (List UInt8))).1.map eS).map PV.d))) rfl TT.oO (dM rfl (cx (p:=pI (2)) (cells:=(([pI (0), .full (([]:(List UInt8)).map U),pS ([]:List UInt8)])++(((aE.rep 16 ([]:(List UInt8))).1.map eS).map PV.d))) (cells':=(([pI (2), .full (([]:(List UInt8)).map U),pS ([]:List UInt8)])++(((aE.rep 16 ([]:(List UInt8))).1.map eS).map PV.d))) rfl rfl rfl (bX (aD (A:=[pI (0), .full (([]:(List UInt8)).map U),pS ([]:List UInt8)]) (b:=16) rfl (aq _) rfl) bL) (fq 0 (by first | exact Nat.le_of_ble_eq_true rfl | simp) rfl) (cx (p:= .d (.slice (x_1.map U))) (cells:=(([pI (2), .full (([]:(List UInt8)).map U),pS ([]:List UInt8)])++(((aE.rep 16 ([]:(List UInt8))).1.map eS).map PV.d))) (cells':=(([pI (2), .d (.slice (x_1.map U)),pS ([]:List UInt8)])++(((aE.rep 16 ([]:(List UInt8))).1.map eS).map PV.d))) rfl rfl rfl (bX (aD (A:=[pI (2), .full (([]:(List UInt8)).map U),pS ([]:List UInt8)]) (b:=16) rfl (aq _) rfl) bL) (fq 1 (by first | exact Nat.le_of_ble_eq_true rfl | simp) rfl) (cx (p:= .d (.agg ((⟨[w6,([]:(List UInt8)),([]:(List UInt8)),([]:(List UInt8)),([]:(List UInt8)),([]:(List UInt8)),([]:(List UInt8)),([]:(List UInt8)),([]:(List UInt8)),([]:(List UInt8)),([]:(List UInt8)),([]:(List UInt8)),([]:(List UInt8)),([]:(List UInt8)),([]:(List UInt8)),([]:(List UInt8))],rfl⟩:(aE 16 (List UInt8))).1.map eS))) (cells:=(([pI (2), .d (.slice (x_1.map U)),pS ([]:List UInt8)])++(((aE.rep 16 ([]:(List UInt8))).1.map eS).map PV.d))) (cells':=(([pI (2), .d (.slice (x_1.map U)),pS ([]:List UInt8)])++(((⟨[w6,([]:(List UInt8)),([]:(List UInt8)),([]:(List UInt8)),([]:(List UInt8)),([]:(List UInt8)),([]:(List UInt8)),([]:(List UInt8)),([]:(List UInt8)),([]:(List UInt8)),([]:(List UInt8)),([]:(List UInt8)),([]:(List UInt8)),([]:(List UInt8)),([]:(List UInt8)),([]:(List UInt8))],rfl⟩:(aE 16 (List UInt8))).1.map eS).map PV.d))) rfl rfl (show (((⟨[w6,([]:(List UInt8)),([]:(List UInt8)),([]:(List UInt8)),([]:(List UInt8)),([]:(List UInt8)),([]:(List UInt8)),([]:(List UInt8)),([]:(List UInt8)),([]:(List UInt8)),([]:(List UInt8)),([]:(List UInt8)),([]:(List UInt8)),([]:(List UInt8)),([]:(List UInt8)),([]:(List UInt8))],rfl⟩:(aE 16 (List UInt8))).1.map eS).map PV.d).length=_ from aq _) (bX (aD (A:=[pI (2), .d (.slice (x_1.map U)),pS ([]:List UInt8)]) (b:=16) rfl (aq _) rfl) bL) (ql 3 0 rfl (cT ((aq _).trans (aq _).symm))) dL)))) ?_)
 refine XK.st none rfl rfl (bw (c:=(([pI (2), .d (.slice (x_1.map U)),pS ([]:List UInt8)])++(((⟨[w6,([]:(List UInt8)),([]:(List UInt8)),([]:(List UInt8)),([]:(List UInt8)),([]:(List UInt8)),([]:(List UInt8)),([]:(List UInt8)),([]:(List UInt8)),([]:(List UInt8)),([]:(List UInt8)),([]:(List UInt8)),([]:(List UInt8)),([]:(List UInt8)),([]:(List UInt8)),([]:(List UInt8))],rfl⟩:(aE 16 (List UInt8))).1.map eS).map PV.d))) (l':=(([pI (2), .d (.slice (x_1.map U)),pS ([]:List UInt8)])++(((⟨[w6,([]:(List UInt8)),([]:(List UInt8)),([]:(List UInt8)),([]:(List UInt8)),([]:(List UInt8)),([]:(List UInt8)),([]:(List UInt8)),([]:(List UInt8)),([]:(List UInt8)),([]:(List UInt8)),([]:(List UInt8)),([]:(List UInt8)),([]:(List UInt8)),([]:(List UInt8)),([]:(List UInt8))],rfl⟩:(aE 16 (List UInt8))).1.map eS).map PV.d))) rfl TT.dY rfl rfl rfl rfl rfl (aD (A:=[pI (2), .d (.slice (x_1.map U)),pS ([]:List UInt8)]) (b:=16) rfl (aq _) rfl) (bX (aD (A:=[pI (0), .full (([]:(List UInt8)).map U),pS ([]:List UInt8)]) (b:=16) rfl (aq _) rfl) bL) (cT ((aD (A:=[pI (0), .full (([]:(List UInt8)).map U),pS ([]:List UInt8)]) (b:=16) rfl (aq _) rfl).trans (aD (A:=[pI (2), .d (.slice (x_1.map U)),pS ([]:List UInt8)]) (b:=16) rfl (aq _) rfl).symm)) ?_)
 refine XK.nz ?_
 refine QW.ret zL ?_
 obtain rfl:=sO h
 exact Ends.one (.inr rfl) rfl (aG.cell rfl rfl TT.dY (fO (aD (A:=[pI (2), .d (.slice (x_1.map U)),pS ([]:List UInt8)]) (b:=16) rfl (aq _) rfl) (Nat.succ_pos _))) (by simp only [PV.cW,PV.eg,iM,cA,Option.bind_some,Option.map_some,cNode]<;>rfl) rfl
noncomputable def rQ (a0:Item) (b1:Item):Option Node:=
  ((xG (a0.fS)).bind fun (x_1:((List UInt8)×Bool×Int))=>
  (bif x_1.2.1 then
  ((rP (x_1.1) (b1.fS)).bind fun (x_4:Node)=>
  some x_4)
  else
  ((kS b1).bind fun (x_6:(List UInt8))=>
  ((tW (x_1.1) x_6).bind fun (x_8:Node)=>
  some x_8))))
theorem GW (a0:Item) (b1:Item) (r:Node) (h:rQ a0 b1=some r):bE Tryz.prog 106 [.agg (dr a0), .agg (dr b1)] (.agg (cNode r)):=by
 refine bE.aU Tryz.func106 rfl (by simp [Tryz.ntmps106]) ?_
 rw [Tryz.ntmps106,TT.Tf]
 refine QW.view (s':=⟨aF [(0, .d (.agg (dr a0))),(1, .d (.agg (dr b1)))],aj [],0,[]⟩) (View.init (by rfl)) zL ?_
 unfold rQ at h
 refine sR ?_
 refine XK.fz (some 2) rfl rfl (eJ (ds:=dr a0) rfl rfl rfl rfl rfl ?_)
 refine XK.fz (some 3) rfl rfl (eJ (ds:=dr b1) rfl rfl rfl rfl rfl ?_)
 refine xs 4 rfl (bP (l:=(([pI (0), .full (([]:(List UInt8)).map U),pS ([]:List UInt8)])++(((aE.rep 16 ([]:(List UInt8))).1.map eS).map PV.d))) rfl TT.j9 rfl rfl ?_)
 refine XK.nz ?_
 refine sR ?_
 refine xs 9 rfl (aO rfl TT.jE (by decide) rfl ?_)
 refine xs 10 rfl (aC (d:= .val (sV (a0.fS))) rfl TT.fF rfl (di.one) ?_)
 obtain ⟨x_1,fy,h⟩:=bO h
 refine xs 11 rfl (aA rfl rfl TT.Mb rfl (Fs (a0.fS) _ fy) ?_)
 refine xm 8 (.d (.tuple [.slice ((x_1.1).map U), .val (.bool (x_1.2.1)), .val (.int .i64 (x_1.2.2))])) ?_
 refine xs 12 rfl (bz rfl rfl rfl ?_)
 refine xs 13 rfl (bz rfl rfl rfl ?_)
 refine xs 14 rfl (bz rfl rfl rfl ?_)
 refine xa 5 (.d (.slice ((x_1.1).map U))) ?_
 refine xa 6 (pB (x_1.2.1)) ?_
 refine xz 7 (pI (x_1.2.2)) ?_
 refine QW.seq ?_
 refine sR ?_
 refine xm 15 (pB (x_1.2.1)) ?_
 refine XK.nz ?_
 refine QW.cond (t:=x_1.2.1) rfl zL (fun dW=>?_) (fun dW=>?_)
 ·replace h:=bT h dW
  refine sR ?_
  refine xm 16 (.d (.slice ((x_1.1).map U))) ?_
  refine xs 17 rfl (aO rfl TT.jE (by decide) rfl ?_)
  refine xs 18 rfl (aC (d:= .val (sV (b1.fS))) rfl TT.fF rfl (di.one) ?_)
  obtain ⟨x_4,kZ,h⟩:=bO h
  refine xs 19 rfl (aA rfl rfl TT.Mc rfl (GV (x_1.1) (b1.fS) _ kZ) ?_)
  refine XK.st none rfl rfl (bw (c:=(([pI (x_4.aW), .d (.slice ((x_4.az).map U)),pS (x_4.ay)])++(((x_4.aT).1.map eS).map PV.d))) (l':=(([pI (x_4.aW), .d (.slice ((x_4.az).map U)),pS (x_4.ay)])++(((x_4.aT).1.map eS).map PV.d))) rfl TT.dY rfl rfl rfl rfl (show (cNode x_4).map PV.d=_ by simp only [cNode,List.map_append];rfl) (aD (A:=[pI (x_4.aW), .d (.slice ((x_4.az).map U)),pS (x_4.ay)]) (b:=16) rfl (aq _) rfl) (bX (aD (A:=[pI (0), .full (([]:(List UInt8)).map U),pS ([]:List UInt8)]) (b:=16) rfl (aq _) rfl) bL) (cT ((aD (A:=[pI (0), .full (([]:(List UInt8)).map U),pS ([]:List UInt8)]) (b:=16) rfl (aq _) rfl).trans (aD (A:=[pI (x_4.aW), .d (.slice ((x_4.az).map U)),pS (x_4.ay)]) (b:=16) rfl (aq _) rfl).symm)) ?_)
  refine XK.nz ?_
  refine QW.ret zL (eC ?_)
  obtain rfl:=sO h
  exact Ends.one (.inr rfl) rfl (aG.cell rfl rfl TT.dY (fO (aD (A:=[pI (x_4.aW), .d (.slice ((x_4.az).map U)),pS (x_4.ay)]) (b:=16) rfl (aq _) rfl) (Nat.succ_pos _))) (by simp only [PV.cW,PV.eg,iM,cA,Option.bind_some,Option.map_some,cNode]<;>rfl) rfl
 ·replace h:=bF h dW
  refine QW.skip zL (aY ?_)
  refine sR ?_
  refine xm 20 (.d (.slice ((x_1.1).map U))) ?_
  refine xs 21 rfl (aC (d:= .agg (dr b1)) rfl TT.ew rfl (⟨by simp [dr],rfl⟩) ?_)
  obtain ⟨x_6,ym,h⟩:=bO h
  refine xs 22 rfl (aA rfl rfl TT.E0 rfl (uB b1 _ ym) ?_)
  obtain ⟨x_8,Am,h⟩:=bO h
  refine xs 23 rfl (aA rfl rfl TT.Md rfl (IC (x_1.1) x_6 _ Am) ?_)
  refine XK.st none rfl rfl (bw (c:=(([pI (x_8.aW), .d (.slice ((x_8.az).map U)),pS (x_8.ay)])++(((x_8.aT).1.map eS).map PV.d))) (l':=(([pI (x_8.aW), .d (.slice ((x_8.az).map U)),pS (x_8.ay)])++(((x_8.aT).1.map eS).map PV.d))) rfl TT.dY rfl rfl rfl rfl (show (cNode x_8).map PV.d=_ by simp only [cNode,List.map_append];rfl) (aD (A:=[pI (x_8.aW), .d (.slice ((x_8.az).map U)),pS (x_8.ay)]) (b:=16) rfl (aq _) rfl) (bX (aD (A:=[pI (0), .full (([]:(List UInt8)).map U),pS ([]:List UInt8)]) (b:=16) rfl (aq _) rfl) bL) (cT ((aD (A:=[pI (0), .full (([]:(List UInt8)).map U),pS ([]:List UInt8)]) (b:=16) rfl (aq _) rfl).trans (aD (A:=[pI (x_8.aW), .d (.slice ((x_8.az).map U)),pS (x_8.ay)]) (b:=16) rfl (aq _) rfl).symm)) ?_)
  refine XK.nz ?_
  refine QW.ret zL ?_
  obtain rfl:=sO h
  exact Ends.one (.inr rfl) rfl (aG.cell rfl rfl TT.dY (fO (aD (A:=[pI (x_8.aW), .d (.slice ((x_8.az).map U)),pS (x_8.ay)]) (b:=16) rfl (aq _) rfl) (Nat.succ_pos _))) (by simp only [PV.cW,PV.eg,iM,cA,Option.bind_some,Option.map_some,cNode]<;>rfl) rfl
noncomputable def vK (gS:(aE 16 (List UInt8))):Option Node:=
  some (⟨3,([]:(List UInt8)),([]:List UInt8),gS⟩:Node)
theorem Eb (gS:(aE 16 (List UInt8))) (r:Node) (h:vK gS=some r):bE Tryz.prog 108 [.agg (gS.1.map eS)] (.agg (cNode r)):=by
 refine bE.aU Tryz.func108 rfl (by simp [Tryz.ntmps108]) ?_
 rw [Tryz.ntmps108,TT.Th]
 refine QW.view (s':=⟨aF [(0, .d (.agg (gS.1.map eS)))],aj [],0,[]⟩) (View.init (by rfl)) zL ?_
 unfold vK at h
 refine sR ?_
 refine XK.fz (some 1) rfl rfl (eJ (ds:=gS.1.map eS) rfl rfl rfl rfl cA ?_)
 refine xs 2 rfl (bP (l:=(([pI (0), .full (([]:(List UInt8)).map U),pS ([]:List UInt8)])++(((aE.rep 16 ([]:(List UInt8))).1.map eS).map PV.d))) rfl TT.j9 rfl rfl ?_)
 refine XK.nz ?_
 refine sR ?_
 refine xs 3 rfl (aC (d:= .agg (gS.1.map eS)) rfl TT.KE rfl (nU (by rw [List.length_map,gS.2])) ?_)
 refine xs 4 rfl (fk (v:= .agg (([pI (3), .full (([]:(List UInt8)).map U),pS ([]:List UInt8)])++((gS.1.map eS).map PV.d))) rfl TT.oO (dM rfl (cx (p:=pI (3)) (cells:=(([pI (0), .full (([]:(List UInt8)).map U),pS ([]:List UInt8)])++(((aE.rep 16 ([]:(List UInt8))).1.map eS).map PV.d))) (cells':=(([pI (3), .full (([]:(List UInt8)).map U),pS ([]:List UInt8)])++(((aE.rep 16 ([]:(List UInt8))).1.map eS).map PV.d))) rfl rfl rfl (bX (aD (A:=[pI (0), .full (([]:(List UInt8)).map U),pS ([]:List UInt8)]) (b:=16) rfl (aq _) rfl) bL) (fq 0 (by first | exact Nat.le_of_ble_eq_true rfl | simp) rfl) (cx (p:= .d (.agg (gS.1.map eS))) (cells:=(([pI (3), .full (([]:(List UInt8)).map U),pS ([]:List UInt8)])++(((aE.rep 16 ([]:(List UInt8))).1.map eS).map PV.d))) (cells':=(([pI (3), .full (([]:(List UInt8)).map U),pS ([]:List UInt8)])++((gS.1.map eS).map PV.d))) rfl rfl (show ((gS.1.map eS).map PV.d).length=_ from aq _) (bX (aD (A:=[pI (3), .full (([]:(List UInt8)).map U),pS ([]:List UInt8)]) (b:=16) rfl (aq _) rfl) bL) (ql 3 0 rfl (cT ((aq _).trans (aq _).symm))) dL))) ?_)
 refine XK.st none rfl rfl (bw (c:=(([pI (3), .full (([]:(List UInt8)).map U),pS ([]:List UInt8)])++((gS.1.map eS).map PV.d))) (l':=(([pI (3), .full (([]:(List UInt8)).map U),pS ([]:List UInt8)])++((gS.1.map eS).map PV.d))) rfl TT.dY rfl rfl rfl rfl rfl (aD (A:=[pI (3), .full (([]:(List UInt8)).map U),pS ([]:List UInt8)]) (b:=16) rfl (aq _) rfl) (bX (aD (A:=[pI (0), .full (([]:(List UInt8)).map U),pS ([]:List UInt8)]) (b:=16) rfl (aq _) rfl) bL) (cT ((aD (A:=[pI (0), .full (([]:(List UInt8)).map U),pS ([]:List UInt8)]) (b:=16) rfl (aq _) rfl).trans (aD (A:=[pI (3), .full (([]:(List UInt8)).map U),pS ([]:List UInt8)]) (b:=16) rfl (aq _) rfl).symm)) ?_)
 refine XK.nz ?_
 refine QW.ret zL ?_
 obtain rfl:=sO h
 exact Ends.one (.inr rfl) rfl (aG.cell rfl rfl TT.dY (fO (aD (A:=[pI (3), .full (([]:(List UInt8)).map U),pS ([]:List UInt8)]) (b:=16) rfl (aq _) rfl) (Nat.succ_pos _))) (by simp only [PV.cW,PV.eg,iM,cA,Option.bind_some,Option.map_some,cNode]<;>rfl) rfl
noncomputable def ke (self:(List UInt8)→Option Bool) (k0:(List UInt8)):Option Bool:=
  ((self k0).bind fun (x_1:Bool)=>
  some (!x_1))
theorem Ch (self:(List UInt8)→Option Bool) (fP:∀ (y0:(List UInt8)) (rr:Bool),self y0=some rr→bE Tryz.prog 72 [.val (sV y0)] (.val (.bool rr))) (k0:(List UInt8)) (r:Bool) (h:ke self k0=some r):bE Tryz.prog 71 [.val (sV k0)] (.val (.bool r)):=by
 refine bE.aU Tryz.func71 rfl (by simp [Tryz.ntmps71]) ?_
 rw [Tryz.ntmps71,TT.Vl]
 refine QW.view (s':=⟨aF [(0,pS k0)],aj [],0,[]⟩) (View.init (by rfl)) zL ?_
 unfold ke at h
 refine sR ?_
 refine xz 2 (pB false) ?_
 refine sR ?_
 refine xm 3 (pS k0) ?_
 obtain ⟨x_1,fy,h⟩:=bO h
 refine xs 4 rfl (aA rfl rfl TT.N7 rfl (fP k0 _ fy) ?_)
 refine xs 5 rfl (mC rfl rfl ?_)
 refine xz 2 (pB (!x_1)) ?_
 refine QW.ret zL ?_
 obtain rfl:=sO h
 exact Ends.one (.inr rfl) rfl (aG.tmp rfl) rfl rfl
noncomputable def iU (v0:(List (List UInt8))):Option (List (List UInt8)):=
  gO (v0.length*16≤140737488355328) (
  some v0)
theorem sC (v0:(List (List UInt8))) (r:(List (List UInt8))) (h:iU v0=some r):Spec Tryz.prog 77 [.d (.slice (v0.map eS))] (aj []) 0 (kF (.ret (.gA 0 0 r.length)) (aj [.var (bB (r.map eS))]) 1):=by
 refine Spec.pE Tryz.func77 rfl (by simp [Tryz.ntmps77]) bL ?_
 rw [Tryz.ntmps77,TT.Vq]
 refine QW.view (s':=⟨aF [(0, .d (.slice (v0.map eS)))],aj [],0,[]⟩) (View.l8 zL (by rfl)) zL ?_
 unfold iU at h
 refine sR ?_
 refine xz 2 (.full (([]:(List (List UInt8))).map eS)) ?_
 refine QW.seq ?_
 refine sR ?_
 refine xm 3 (.d (.slice (v0.map eS))) ?_
 refine XK.nt (l:=v0) (some 4) rfl rfl rfl TT.yo rfl (fun e0=>?_) ?_
 ·refine XK.nz ?_
  refine QW.Gi rfl ?_
  refine sR ?_
  refine xz 2 (.full (([]:(List (List UInt8))).map eS)) ?_
  refine QW.ret zL (eC ?_)
  subst e0;obtain ⟨_,h⟩:=bk h;obtain rfl:=sO h
  exact fY.one (s':=⟨aF [(2, .gA 0 0 0)],aj [.var (bB (([]:(List (List UInt8))).map eS))],1,[]⟩) (.inr rfl) (View.trans (View.Y6 2 rfl zL) (View.mk 1 [0] _ _ _ rfl rfl (by decide) (iC trivial) (And.intro (by simp only [cF,bB,PV.bR];rfl) trivial) rfl zL rfl)) rfl bL (fun i hi=>dR [.var (bB (([]:(List (List UInt8))).map eS))] [] i hi) rfl (by simp [HO.bf,HO.bK,PV.bf,PV.bK,cy,bB]) (aG.tmp rfl) (by simp [PV.bf,PV.bK,cy])
 ·refine XK.nz ?_
  refine QW.NG rfl ?_
  refine QW.skip zL (aY ?_)
  refine sR ?_
  refine xs 5 rfl (dU (en:=eS) (l:=([]:List (List UInt8))) rfl TT.GU z7 rfl rfl (by decide) (by simp [dg,cQ,aB,dK,PV.cz,cu,aF,jz,iL,jP,bV,Value.oneCell']) ?_)
  refine xm 6 (.d (.slice (v0.map eS))) ?_
  obtain ⟨nM,h⟩:=bk h
  refine XK.so (some 7) rfl rfl (SL (en:=eS) (l2:=v0) rfl TT.GU TT.yo rfl z7 rfl rfl nM (by decide) ?_)
  refine xz 2 (.gA 0 0 v0.length) ?_
  refine QW.ret zL ?_
  obtain rfl:=sO h
  exact fY.one (s':=⟨aF [(2, .gA 0 0 v0.length)],aj [.var (bB (v0.map eS))],1,[]⟩) (.inr rfl) (View.mk 1 [0] _ _ _ rfl rfl (by decide) (iC trivial) (And.intro (by simp only [cF,bB,PV.bR];rfl) trivial) rfl zL rfl) rfl bL (fun i hi=>dR [.var (bB (v0.map eS))] [] i hi) rfl (by simp [HO.bf,HO.bK,PV.bf,PV.bK,cy,bB]) (aG.tmp rfl) (by simp [PV.bf,PV.bK,cy])
inductive l7 where
 | S
 | L1 (v8:Int)
noncomputable def cI (v0:(List (List UInt8))) (f1:(List UInt8)→Option Bool):l7→Option (l7⊕Int)
 | .S=>
  some (.inl (.L1 (0)))
 | .L1 v8=>
  (bif (decide (v8<(v0.length:Int))) then
  gO (0≤v8∧v8<(v0.length:Int)) (
  ((f1 (idx v0 v8)).bind fun (x_4:Bool)=>
  (bif x_4 then
  some (.inr v8)
  else
  gO (bA (v8+(1:Int))) (
  some (.inl (.L1 (v8+(1:Int))))))))
  else
  some (.inr (-1)))
noncomputable def gJ (v0:(List (List UInt8))) (f1:(List UInt8)→Option Bool):Option Int:=gU (cI v0 f1) .S
theorem lz (v0:(List (List UInt8))) (f1:(List UInt8)→Option Bool) (me:Nat) (ny:List D) (Iz:aN Tryz.prog me=true) (IA:∀ y0 r,f1 y0=some r→bE Tryz.prog me ([.val (sV y0)]++ny) (.val (.bool r))) (r:Int) (h:gJ v0 f1=some r):bE Tryz.prog 97 [.slice (v0.map eS), .gT me ny] (.val (.int .i64 r)):=by
 refine bE.aU Tryz.func97 rfl (by simp [Tryz.ntmps97]) ?_
 rw [Tryz.ntmps97,TT.Vv]
 refine QW.view (s':=⟨aF [(0, .d (.slice (v0.map eS))),(1, .d (.gT me ny))],aj [],0,[]⟩) (View.init (by rfl)) zL ?_
 replace h:=cG h
 obtain ⟨_,h⟩:=h
 obtain ⟨c8,rfl,h9⟩:=aQ h;replace h:=h9;clear h9;rw [cI] at h
 refine sR ?_
 refine xz 4 (pI (0)) ?_
 refine QW.seq ?_
 refine sR ?_
 refine xm 6 (.d (.slice (v0.map eS))) ?_
 refine xs 7 rfl (cM (en:=eS) (l:=v0) rfl TT.yo rfl ?_)
 refine xm 8 (pI (0)) ?_
 refine XK.nz ?_
 refine QW.block ?_
 refine QW.loop (fun k σ=>∃ v8:Int,k≤c8∧run (cI v0 f1) k (.L1 v8)=some r∧σ=⟨aF [(0, .d (.slice (v0.map eS))),(1, .d (.gT me ny)),(7,pI (v0.length:Int)),(8,pI v8)],aj [],0,[]⟩) c8 zL ⟨⟨aF [(0, .d (.slice (v0.map eS))),(1, .d (.gT me ny)),(7,pI (v0.length:Int)),(8,pI (0))],aj [],0,[]⟩,View.mk 0 [] _ _ _ rfl rfl (by decide) (iC (iC (iC (iC trivial)))) trivial rfl zL rfl,0,Nat.le_refl _,jG h,rfl⟩ ?_
 rintro pZ _ ⟨v8,p4,h,rfl⟩
 obtain ⟨k_1,rfl,h9⟩:=aQ h;replace h:=h9;clear h9;rw [cI] at h
 refine sR ?_
 refine xs 9 rfl (cK (a:=v8) (b:=(v0.length:Int)) rfl rfl rfl ?_)
 refine XK.nz ?_
 refine QW.seq ?_
 refine QW.cond (t:=(decide (v8<(v0.length:Int)))) rfl zL (fun cv=>?_) (fun cv=>?_)
 ·replace h:=eX h cv
  refine QW.skip zL (aY ?_)
  refine QW.seq ?_
  refine QW.block ?_
  refine sR ?_
  refine xm 10 (pI v8) ?_
  refine xz 5 (pI v8) ?_
  refine sR ?_
  refine xm 11 (.d (.gT me ny)) ?_
  refine xm 12 (.d (.slice (v0.map eS))) ?_
  refine xm 13 (pI v8) ?_
  obtain ⟨dP,h⟩:=gG h
  refine xs 14 rfl (bN (l:=v0) (i:=v8) rfl TT.An z7 rfl rfl dP ?_)
  refine xs 15 rfl (aC (d:= .val (sV (idx v0 v8))) rfl TT.fF rfl (di.one) ?_)
  obtain ⟨x_4,kZ,h⟩:=bG h
  refine xs 16 rfl (wW rfl rfl rfl Iz rfl (IA (idx v0 v8) _ kZ) ?_)
  refine XK.nz ?_
  refine QW.cond (t:=x_4) rfl zL (fun lO=>?_) (fun lO=>?_)
  ·replace h:=eX h lO
   refine sR ?_
   refine xm 17 (pI v8) ?_
   refine xz 4 (pI v8) ?_
   refine QW.ret zL (mO (eC (eC (mO (eC ?_)))))
   obtain rfl:=sG h
   exact Ends.one (.inr rfl) rfl (aG.tmp rfl) rfl rfl
  ·replace h:=eY h lO
   refine QW.skip zL (gC (aY ?_))
   refine rG ?_
   obtain ⟨mc,h⟩:=gG h
   refine xs 18 rfl (bY (a:=v8) (b:=(1:Int)) rfl rfl rfl mc ?_)
   refine xm 8 (pI (v8+(1:Int))) ?_
   refine XK.nz ?_
   exact ⟨k_1,by omega,⟨aF [(0, .d (.slice (v0.map eS))),(1, .d (.gT me ny)),(7,pI (v0.length:Int)),(8,pI (v8+(1:Int)))],aj [],0,[]⟩,View.mk 0 [] _ _ _ rfl rfl (by decide) (iC (iC (iC (iC trivial)))) trivial rfl zL rfl,(v8+(1:Int)),by omega,jG h,rfl⟩
 ·replace h:=eY h cv
  refine QW.exit zL (eA (eA (jY (aY ?_))))
  refine sR ?_
  refine xz 4 (pI (-1)) ?_
  refine QW.ret zL ?_
  obtain rfl:=sG h
  exact Ends.one (.inr rfl) rfl (aG.tmp rfl) rfl rfl
inductive lP where
 | S
 | L1 (fN:Int) (cS:Int) (mY:(List (List UInt8)))
noncomputable def cj (f1:(List UInt8)→Option Bool) (v0:(List (List UInt8))):lP→Option (lP⊕(List (List UInt8)))
 | .S=>
  ((gJ v0 f1).bind fun (x_1:Int)=>
  (bif (decide (x_1=(-1:Int))) then
  some (.inr v0)
  else
  gO (bA (x_1+(1:Int))) (
  some (.inl (.L1 x_1 (x_1+(1:Int)) v0)))))
 | .L1 fN cS mY=>
  (bif (decide (cS<((v0.length:Nat):Int))) then
  ((gO (0≤cS∧cS<((v0.length:Nat):Int)) (
  gO (0≤cS∧cS<(mY.length:Int)) (
  ((f1 (idx mY cS)).bind fun (x_9:Bool)=>
  (bif (!x_9) then
  gO (0≤fN∧fN<((v0.length:Nat):Int)) (
  gO (0≤fN∧fN<(mY.length:Int)) (
  gO (bA (fN+(1:Int))) (
  some ((fN+(1:Int)),(mY.set fN.toNat (idx mY cS))))))
  else
  some (fN,mY))))):Option (Int×(List (List UInt8)))).bind fun (lQ,Me)=>
  gO (bA (cS+(1:Int))) (
  some (.inl (.L1 lQ (cS+(1:Int)) Me))))
  else
  gO (0≤fN∧fN≤((v0.length:Nat):Int)∧((v0.length:Nat):Int)≤((v0.length:Nat):Int)) (
  gO ((v0.length)=mY.length) (
  gO (0≤(0:Int)∧(0:Int)≤fN∧fN≤((v0.length:Nat):Int)) (
  gO (((fN-(0:Int)).toNat)=(mY.take fN.toNat).length) (
  some (.inr (mY.take fN.toNat)))))))
noncomputable def ji (f1:(List UInt8)→Option Bool) (v0:(List (List UInt8))):Option (List (List UInt8)):=gU (cj f1 v0) .S
theorem pV (f1:(List UInt8)→Option Bool) (me:Nat) (ny:List D) (Iz:aN Tryz.prog me=true) (IA:∀ y0 r,f1 y0=some r→bE Tryz.prog me ([.val (sV y0)]++ny) (.val (.bool r))) (v0:(List (List UInt8))) (r:(List (List UInt8))) (h:ji f1 v0=some r):Spec Tryz.prog 76 [.gA 0 0 v0.length, .d (.gT me ny)] (aj [.var (bB (v0.map eS))]) 1 (kF (.ret (.d (.slice (r.map eS)))) (aj [.dead]) 1):=by
 refine Spec.pE Tryz.func76 rfl (by simp [Tryz.ntmps76]) bL ?_
 rw [Tryz.ntmps76,TT.Vp]
 refine QW.view (s':=⟨aF [(0, .gA 0 0 v0.length),(1, .d (.gT me ny))],aj [.var (bB (v0.map eS))],1,[]⟩) (View.l8 bL (by rfl)) bL ?_
 replace h:=cG h
 obtain ⟨_,h⟩:=h
 obtain ⟨c8,rfl,h9⟩:=aQ h;replace h:=h9;clear h9;rw [cj] at h
 refine lJ ?_
 refine xz 4 (.full (([]:(List (List UInt8))).map eS)) ?_
 refine lJ ?_
 refine xm 8 (.gA 0 0 v0.length) ?_
 refine xm 9 (.d (.gT me ny)) ?_
 obtain ⟨x_1,fy,h⟩:=bG h
 refine XK.so (some 10) rfl rfl (SI (l:=v0.map eS) rfl rfl rfl TT.GS rfl rfl (by simp) rfl (lz v0 f1 me ny Iz IA _ fy) ?_)
 refine xz 5 (pI x_1) ?_
 refine QW.seq ?_
 refine lJ ?_
 refine xm 11 (pI x_1) ?_
 refine xs 12 rfl (ej (a:=x_1) (b:=(-1:Int)) rfl rfl rfl ?_)
 refine XK.nz ?_
 refine QW.cond (t:=(decide (x_1=(-1:Int)))) rfl bL (fun dW=>?_) (fun dW=>?_)
 ·replace h:=eX h dW
  refine lJ ?_
  refine xm 13 (.gA 0 0 v0.length) ?_
  refine xz 4 (.gA 0 0 v0.length) ?_
  refine QW.ret bL (eC ?_)
  obtain rfl:=sG h
  exact fY.one (s':=⟨aF [(4, .d (.slice (v0.map eS)))],aj [.dead],1,[]⟩) (.inr rfl) (View.trans (View.Jk (en:=eS) (l:=v0) 0 4 rfl rfl rfl bL) (View.mk 1 [0] _ _ _ rfl rfl (by decide) (iC trivial) (And.intro trivial trivial) rfl bL rfl)) rfl bL (fun i hi=>dR [.dead] [] i hi) rfl (by simp [HO.bf,HO.bK,PV.bf,PV.bK,cy,bB]) (aG.tmp rfl) (by simp [PV.bf,PV.bK,cy])
 ·replace h:=eY h dW
  refine QW.skip bL (aY ?_)
  refine QW.seq ?_
  refine lJ ?_
  refine xm 14 (pI x_1) ?_
  obtain ⟨lY,h⟩:=gG h
  refine xs 15 rfl (bY (a:=x_1) (b:=(1:Int)) rfl rfl rfl lY ?_)
  refine xz 6 (pI (x_1+(1:Int))) ?_
  refine QW.block ?_
  refine QW.loop (fun k σ=>∃ fN:Int,∃ cS:Int,∃ mY:(List (List UInt8)),k≤c8∧run (cj f1 v0) k (.L1 fN cS mY)=some r∧σ=⟨aF [(0, .gA 0 0 v0.length),(1, .d (.gT me ny)),(5,pI fN),(6,pI cS)],aj [.var (bB (mY.map eS))],1,[]⟩) c8 bL ⟨⟨aF [(0, .gA 0 0 v0.length),(1, .d (.gT me ny)),(5,pI x_1),(6,pI (x_1+(1:Int)))],aj [.var (bB (v0.map eS))],1,[]⟩,View.mk 1 [0] _ _ _ rfl rfl (by decide) (iC (iC (iC (iC trivial)))) (And.intro (by simp only [cF,bB,PV.bR];rfl) trivial) rfl bL rfl,x_1,(x_1+(1:Int)),v0,Nat.le_refl _,jG h,rfl⟩ ?_
  rintro Tl _ ⟨fN,cS,mY,Tm,h,rfl⟩
  obtain ⟨Ft,rfl,h9⟩:=aQ h;replace h:=h9;clear h9;rw [cj] at h
  refine QW.seq ?_
  refine lJ ?_
  refine xm 16 (pI cS) ?_
  refine xm 17 (.gA 0 0 v0.length) ?_
  refine XK.so (some 18) rfl rfl (SG rfl TT.yo rfl ?_)
  refine xs 19 rfl (cK (a:=cS) (b:=((v0.length:Nat):Int)) rfl rfl rfl ?_)
  refine XK.nz ?_
  refine QW.cond (t:=(decide (cS<((v0.length:Nat):Int)))) rfl bL (fun lO=>?_) (fun lO=>?_)
  ·replace h:=eX h lO
   refine QW.skip bL (aY ?_)
   obtain ⟨⟨lQ,Me⟩,hq,h⟩:=bG h
   refine QW.rH (fun s'=>s'=⟨aF [(0, .gA 0 0 v0.length),(1, .d (.gT me ny)),(5,pI lQ),(6,pI cS)],aj [.var (bB (Me.map eS))],1,[]⟩) ?_ ?_
   ·replace h:=hq;clear hq
    refine QW.block ?_
    refine lJ ?_
    refine xm 22 (.gA 0 0 v0.length) ?_
    refine xm 23 (pI cS) ?_
    obtain ⟨mc,h⟩:=bk h
    obtain ⟨rM,h⟩:=bk h
    refine XK.so (some 24) rfl rfl (LL (i:=cS) rfl TT.An rfl rfl mc ?_)
    refine xs 25 rfl (bx (v:=pS (idx mY cS)) rfl TT.fF rfl rfl (Qz z7 rM) ?_)
    refine xz 7 (pS (idx mY cS)) ?_
    refine lJ ?_
    refine xm 26 (.d (.gT me ny)) ?_
    refine xm 27 (pS (idx mY cS)) ?_
    obtain ⟨x_9,Ci,h⟩:=bO h
    refine xs 28 rfl (wW rfl rfl rfl Iz rfl (IA (idx mY cS) _ Ci) ?_)
    refine xs 29 rfl (mC rfl rfl ?_)
    refine XK.nz ?_
    refine QW.cond (t:=(!x_9)) rfl bL (fun vL=>?_) (fun vL=>?_)
    ·replace h:=bT h vL
     refine lJ ?_
     refine xm 30 (.gA 0 0 v0.length) ?_
     refine xm 31 (pI fN) ?_
     refine xm 32 (pS (idx mY cS)) ?_
     obtain ⟨mX,h⟩:=bk h
     obtain ⟨nE,h⟩:=bk h
     refine XK.so (some 33) rfl rfl (LL (i:=fN) rfl TT.An rfl rfl mX ?_)
     refine XK.st none rfl rfl (bw (c:=([.val (sV (idx mY cS))]).map .d) (l':=(bB ((mY.set fN.toNat (idx mY cS)).map eS))) rfl TT.fF rfl rfl rfl rfl rfl rfl (UX z7 nE) (SF z7 nE) ?_)
     refine XK.nz ?_
     refine Fq ?_
     refine xm 34 (pI fN) ?_
     obtain ⟨rL,h⟩:=bk h
     refine xs 35 rfl (bY (a:=fN) (b:=(1:Int)) rfl rfl rfl rL ?_)
     refine xa 5 (pI (fN+(1:Int))) ?_
     refine XK.nil (gC (aY ?_))
     simp only [Option.some.injEq,Prod.mk.injEq] at h
     obtain ⟨rfl,rfl⟩:=h
     exact ⟨⟨aF [(0, .gA 0 0 v0.length),(1, .d (.gT me ny)),(5,pI (fN+(1:Int))),(6,pI cS)],aj [.var (bB ((mY.set fN.toNat (idx mY cS)).map eS))],1,[]⟩,View.mk 1 [0] _ _ _ rfl rfl (by decide) (iC (iC (iC (iC trivial)))) (And.intro (by simp only [cF,bB,PV.bR];rfl) trivial) rfl bL rfl,rfl⟩
    ·replace h:=bF h vL
     refine QW.skip bL (gC (aY ?_))
     simp only [Option.some.injEq,Prod.mk.injEq] at h
     obtain ⟨rfl,rfl⟩:=h
     exact ⟨⟨aF [(0, .gA 0 0 v0.length),(1, .d (.gT me ny)),(5,pI fN),(6,pI cS)],aj [.var (bB (mY.map eS))],1,[]⟩,View.mk 1 [0] _ _ _ rfl rfl (by decide) (iC (iC (iC (iC trivial)))) (And.intro (by simp only [cF,bB,PV.bR];rfl) trivial) rfl bL rfl,rfl⟩
   ·rintro _ rfl
    refine Fq ?_
    refine xm 20 (pI cS) ?_
    obtain ⟨vH,h⟩:=gG h
    refine xs 21 rfl (bY (a:=cS) (b:=(1:Int)) rfl rfl rfl vH ?_)
    refine xz 6 (pI (cS+(1:Int))) ?_
    exact ⟨Ft,by omega,⟨aF [(0, .gA 0 0 v0.length),(1, .d (.gT me ny)),(5,pI lQ),(6,pI (cS+(1:Int)))],aj [.var (bB (Me.map eS))],1,[]⟩,View.mk 1 [0] _ _ _ rfl rfl (by decide) (iC (iC (iC (iC trivial)))) (And.intro (by simp only [cF,bB,PV.bR];rfl) trivial) rfl bL rfl,lQ,(cS+(1:Int)),Me,by omega,jG h,rfl⟩
  ·replace h:=eY h lO
   refine QW.exit bL (eA (eA (jY (aY ?_))))
   refine lJ ?_
   refine xm 36 (.gA 0 0 v0.length) ?_
   refine xm 37 (pI fN) ?_
   obtain ⟨oP,h⟩:=gG h
   refine XK.so (some 38) rfl rfl (Pu (p:=fN) (q:=((v0.length:Nat):Int)) rfl TT.An rfl rfl rfl oP ?_)
   obtain ⟨pO,h⟩:=gG h
   refine XK.so none rfl rfl (QA (l':=(bB ((mY.take fN.toNat).map eS))) rfl TT.GU TT.Tk rfl rfl (UZ z7 oP pO) (QB z7 oP pO) ?_)
   refine XK.nz ?_
   refine lJ ?_
   refine xm 39 (.gA 0 0 v0.length) ?_
   refine xm 40 (pI fN) ?_
   obtain ⟨sH,h⟩:=gG h
   refine XK.so (some 41) rfl rfl (Pu (p:=(0:Int)) (q:=fN) rfl TT.An rfl rfl rfl sH ?_)
   refine xz 4 (.gA 0 0 (fN-(0:Int)).toNat) ?_
   refine QW.ret bL ?_
   obtain ⟨yp,h⟩:=gG h
   obtain rfl:=sG h
   exact fY.one (s':=⟨aF [(4, .d (.slice ((mY.take fN.toNat).map eS)))],aj [.dead],1,[]⟩) (.inr rfl) (View.trans (View.Jk (en:=eS) (l:=(mY.take fN.toNat)) 0 4 rfl rfl yp bL) (View.mk 1 [0] _ _ _ rfl rfl (by decide) (iC trivial) (And.intro trivial trivial) rfl bL rfl)) rfl bL (fun i hi=>dR [.dead] [] i hi) rfl (by simp [HO.bf,HO.bK,PV.bf,PV.bK,cy,bB]) (aG.tmp rfl) (by simp [PV.bf,PV.bK,cy])
noncomputable def oQ (k0:(List UInt8)):Option Bool:=
  some (k0==([]:List UInt8))
theorem Ec (k0:(List UInt8)) (r:Bool) (h:oQ k0=some r):bE Tryz.prog 78 [.val (sV k0)] (.val (.bool r)):=by
 refine bE.aU Tryz.func78 rfl (by simp [Tryz.ntmps78]) ?_
 rw [Tryz.ntmps78,TT.Vt]
 refine QW.view (s':=⟨aF [(0,pS k0)],aj [],0,[]⟩) (View.init (by rfl)) zL ?_
 unfold oQ at h
 refine sR ?_
 refine xz 2 (pB false) ?_
 refine sR ?_
 refine xm 3 (pS k0) ?_
 refine xs 4 rfl (qk (a:=k0) (b:=([]:List UInt8)) rfl rfl rfl ?_)
 refine xz 2 (pB (k0==([]:List UInt8))) ?_
 refine QW.ret zL ?_
 obtain rfl:=sO h
 exact Ends.one (.inr rfl) rfl (aG.tmp rfl) rfl rfl
noncomputable def rR (n0:Node):Option (List (List UInt8)):=
  ((iU ((n0.aT).1)).bind fun (Ed:(List (List UInt8)))=>
  ((ji (fun y0=>oQ y0) Ed).bind fun (Vw:(List (List UInt8)))=>
  some Vw))
theorem GX (n0:Node) (r:(List (List UInt8))) (h:rR n0=some r):bE Tryz.prog 42 [.agg (cNode n0)] (.slice (r.map eS)):=by
 refine bE.aU Tryz.func42 rfl (by simp [Tryz.ntmps42]) ?_
 rw [Tryz.ntmps42,TT.Vj]
 refine QW.view (s':=⟨aF [(0, .d (.agg (cNode n0)))],aj [],0,[]⟩) (View.init (by rfl)) zL ?_
 unfold rR at h
 refine sR ?_
 refine XK.fz (some 1) rfl rfl (eJ (ds:=cNode n0) rfl rfl rfl rfl cA ?_)
 refine xz 2 (.full (([]:(List (List UInt8))).map eS)) ?_
 refine sR ?_
 refine xs 3 rfl (aO rfl TT.mT (by decide) rfl ?_)
 refine XK.as (some 4) rfl rfl (D1 (en:=eS) (a:=n0.aT) rfl TT.Jn TT.oN (q6 _) (Gs (GM _)) rfl ⟨.d (.slice (((n0.aT).1).map eS)),(iy.cW rfl),?_⟩)
 obtain ⟨Ed,fy,h⟩:=bO h
 refine XK.fr (p:= .gA 0 0 Ed.length) (H2:=cE _ 0 (some (.var (bB (Ed.map eS))))) (lF:=1) (some 5) rfl rfl (cg [] rfl rfl TT.Ob (sC ((n0.aT).1) _ fy) rfl rfl (by decide) trivial bL) rfl (by simp only [fD,lv,HO.re,bB,PV.bR,eR];rfl) rfl ?_
 obtain ⟨Vw,kZ,h⟩:=bO h
 refine XK.fr (p:= .d (.slice (Vw.map eS))) (H2:=cE _ 0 none) (lF:=1) (some 6) rfl rfl (cg [0] rfl rfl TT.Oa (pV (fun y0=>oQ y0) 78 [] TT.Oc (fun y0 _ h=>Ec y0 _ h) Ed _ kZ) rfl rfl (by decide) (And.intro (by simp only [HO.re,bB,PV.bR];rfl) trivial) bL) rfl rfl rfl ?_
 refine xz 2 (.d (.slice (Vw.map eS))) ?_
 refine QW.ret zL ?_
 obtain rfl:=sO h
 exact Ends.one (.inr rfl) rfl (aG.tmp rfl) rfl rfl
noncomputable def p7 (n0:Node):Option Bool:=
  ((rR n0).bind fun (x_1:(List (List UInt8)))=>
  (bif (decide ((n0.aW)=(1:Int))) then
  some (((!(n0.ay==([]:List UInt8)))&&(decide (((n0.ay).length:Int)≤(65552:Int))))&&(decide ((x_1.length:Int)=(0:Int))))
  else
  (bif (decide ((n0.aW)=(2:Int))) then
  some ((((n0.ay==([]:List UInt8))&&(decide ((0:Int)<((n0.az).length:Int))))&&(decide ((x_1.length:Int)=(1:Int))))&&(!((idx (n0.aT).1 (0:Int))==([]:List UInt8))))
  else
  (bif (decide ((n0.aW)=(3:Int))) then
  some (((n0.ay==([]:List UInt8))&&(decide (((n0.az).length:Int)=(0:Int))))&&(decide ((1:Int)<(x_1.length:Int))))
  else
  some false))))
theorem Fu (n0:Node) (r:Bool) (h:p7 n0=some r):bE Tryz.prog 73 [.agg (cNode n0)] (.val (.bool r)):=by
 refine bE.aU Tryz.func73 rfl (by simp [Tryz.ntmps73]) ?_
 rw [Tryz.ntmps73,TT.Vn]
 refine QW.view (s':=⟨aF [(0, .d (.agg (cNode n0)))],aj [],0,[]⟩) (View.init (by rfl)) zL ?_
 unfold p7 at h
 refine sR ?_
 refine XK.fz (some 1) rfl rfl (eJ (ds:=cNode n0) rfl rfl rfl rfl cA ?_)
 refine xz 2 (pB false) ?_
 refine sR ?_
 refine xs 4 rfl (aC (d:= .agg (cNode n0)) rfl TT.dY rfl (⟨by rw [u7.len];decide,congrArg D.agg (List.take_of_length_le (by rw [u7.len];decide))⟩) ?_)
 obtain ⟨x_1,fy,h⟩:=bO h
 refine xs 5 rfl (aA rfl rfl TT.N4 rfl (GX n0 _ fy) ?_)
 refine xs 6 rfl (cM (en:=eS) (l:=x_1) rfl TT.yo rfl ?_)
 refine xz 3 (pI (x_1.length:Int)) ?_
 refine QW.seq ?_
 refine sR ?_
 refine xs 7 rfl (aO rfl TT.qE (by decide) rfl ?_)
 refine xs 8 rfl (aC (d:= .val (.int .i64 (n0.aW))) rfl TT.l9 rfl (qY _) ?_)
 refine XK.nz ?_
 refine QW.block ?_
 refine sR ?_
 refine xs 10 rfl (ej (a:=(n0.aW)) (b:=(1:Int)) rfl rfl rfl ?_)
 refine xz 9 (pB (decide ((n0.aW)=(1:Int)))) ?_
 refine QW.cond (t:=(decide ((n0.aW)=(1:Int)))) rfl zL (fun dW=>?_) (fun dW=>?_)
 ·replace h:=bT h dW
  refine sR ?_
  refine xs 11 rfl (aO rfl TT.sZ (by decide) rfl ?_)
  refine xs 12 rfl (aC (d:= .val (sV (n0.ay))) rfl TT.fF rfl (qZ _) ?_)
  refine xs 13 rfl (uP (a:=n0.ay) (b:=([]:List UInt8)) rfl rfl rfl ?_)
  refine xm 14 (pB (!(n0.ay==([]:List UInt8)))) ?_
  refine xg 15 (.d (.cr ((cNode n0).drop 2))) rfl rfl (fun hg=>aO rfl TT.sZ (by decide) rfl g3) ?_
  refine xg 16 (pS (n0.ay)) rfl rfl (fun hg=>aC (d:= .val (sV (n0.ay))) rfl TT.fF rfl (qZ _) g3) ?_
  refine xg 17 (pI ((n0.ay).length:Int)) rfl rfl (fun hg=>gB (l:=n0.ay) rfl TT.bZ rfl g3) ?_
  refine xg 18 (pB (decide (((n0.ay).length:Int)≤(65552:Int)))) rfl rfl (fun hg=>yQ (a:=((n0.ay).length:Int)) (b:=(65552:Int)) rfl rfl rfl g3) ?_
  refine xs 19 rfl (gK rfl rfl rfl rfl (fun hb=>by rw [hb];rfl) (fun _=>rfl) ?_)
  refine xm 20 (pB ((!(n0.ay==([]:List UInt8)))&&(decide (((n0.ay).length:Int)≤(65552:Int))))) ?_
  refine xg 21 (pI (x_1.length:Int)) rfl rfl (fun hg=>au (v:=pI (x_1.length:Int)) rfl rfl g3) ?_
  refine xg 22 (pB (decide ((x_1.length:Int)=(0:Int)))) rfl rfl (fun hg=>ej (a:=(x_1.length:Int)) (b:=(0:Int)) rfl rfl rfl g3) ?_
  refine xs 23 rfl (gK rfl rfl rfl rfl (fun hb=>by rw [hb];rfl) (fun _=>rfl) ?_)
  refine xz 2 (pB (((!(n0.ay==([]:List UInt8)))&&(decide (((n0.ay).length:Int)≤(65552:Int))))&&(decide ((x_1.length:Int)=(0:Int))))) ?_
  refine QW.ret zL (mO (eC ?_))
  obtain rfl:=sO h
  exact Ends.one (.inr rfl) rfl (aG.tmp rfl) rfl rfl
 ·replace h:=bF h dW
  refine sR ?_
  refine xs 25 rfl (ej (a:=(n0.aW)) (b:=(2:Int)) rfl rfl rfl ?_)
  refine xz 24 (pB (decide ((n0.aW)=(2:Int)))) ?_
  refine QW.cond (t:=(decide ((n0.aW)=(2:Int)))) rfl zL (fun gD=>?_) (fun gD=>?_)
  ·replace h:=bT h gD
   refine sR ?_
   refine xs 26 rfl (aO rfl TT.sZ (by decide) rfl ?_)
   refine xs 27 rfl (aC (d:= .val (sV (n0.ay))) rfl TT.fF rfl (qZ _) ?_)
   refine xs 28 rfl (qk (a:=n0.ay) (b:=([]:List UInt8)) rfl rfl rfl ?_)
   refine xm 29 (pB (n0.ay==([]:List UInt8))) ?_
   refine xg 30 (.d (.cr ((cNode n0).drop 1))) rfl rfl (fun hg=>aO rfl TT.qF (by decide) rfl g3) ?_
   refine xg 31 (.d (.slice ((n0.az).map U))) rfl rfl (fun hg=>aC (d:= .slice ((n0.az).map U)) rfl TT.fB rfl (oK _) g3) ?_
   refine xg 32 (pI ((n0.az).length:Int)) rfl rfl (fun hg=>cM (en:=U) (l:=n0.az) rfl TT.bC rfl g3) ?_
   refine xg 33 (pB (decide ((0:Int)<((n0.az).length:Int)))) rfl rfl (fun hg=>oh (a:=((n0.az).length:Int)) (b:=(0:Int)) rfl rfl rfl g3) ?_
   refine xs 34 rfl (gK rfl rfl rfl rfl (fun hb=>by rw [hb];rfl) (fun _=>rfl) ?_)
   refine xm 35 (pB ((n0.ay==([]:List UInt8))&&(decide ((0:Int)<((n0.az).length:Int))))) ?_
   refine xg 36 (pI (x_1.length:Int)) rfl rfl (fun hg=>au (v:=pI (x_1.length:Int)) rfl rfl g3) ?_
   refine xg 37 (pB (decide ((x_1.length:Int)=(1:Int)))) rfl rfl (fun hg=>ej (a:=(x_1.length:Int)) (b:=(1:Int)) rfl rfl rfl g3) ?_
   refine xs 38 rfl (gK rfl rfl rfl rfl (fun hb=>by rw [hb];rfl) (fun _=>rfl) ?_)
   refine xm 39 (pB (((n0.ay==([]:List UInt8))&&(decide ((0:Int)<((n0.az).length:Int))))&&(decide ((x_1.length:Int)=(1:Int))))) ?_
   refine xg 40 (.d (.cr ((cNode n0).drop 3))) rfl rfl (fun hg=>aO rfl TT.mT (by decide) rfl g3) ?_
   refine xg 41 (.d (.cr (((cNode n0).drop 3).drop ((0:Int).toNat*1)))) rfl rfl (fun hg=>mD (i:=(0:Int)) rfl TT.tV TT.oN rfl rfl (by decide) g3) ?_
   refine xg 42 (pS (idx (n0.aT).1 (0:Int))) rfl rfl (fun hg=>aC (d:= .val (sV (idx (n0.aT).1 (0:Int)))) rfl TT.fF rfl (om (q6 _) (by decide)) g3) ?_
   refine xg 43 (pB (!((idx (n0.aT).1 (0:Int))==([]:List UInt8)))) rfl rfl (fun hg=>uP (a:=(idx (n0.aT).1 (0:Int))) (b:=([]:List UInt8)) rfl rfl rfl g3) ?_
   refine xs 44 rfl (gK rfl rfl rfl rfl (fun hb=>by rw [hb];rfl) (fun _=>rfl) ?_)
   refine xz 2 (pB ((((n0.ay==([]:List UInt8))&&(decide ((0:Int)<((n0.az).length:Int))))&&(decide ((x_1.length:Int)=(1:Int))))&&(!((idx (n0.aT).1 (0:Int))==([]:List UInt8))))) ?_
   refine QW.ret zL (mO (eC ?_))
   obtain rfl:=sO h
   exact Ends.one (.inr rfl) rfl (aG.tmp rfl) rfl rfl
  ·replace h:=bF h gD
   refine sR ?_
   refine xs 46 rfl (ej (a:=(n0.aW)) (b:=(3:Int)) rfl rfl rfl ?_)
   refine xz 45 (pB (decide ((n0.aW)=(3:Int)))) ?_
   refine QW.cond (t:=(decide ((n0.aW)=(3:Int)))) rfl zL (fun kI=>?_) (fun kI=>?_)
   ·replace h:=bT h kI
    refine sR ?_
    refine xs 47 rfl (aO rfl TT.sZ (by decide) rfl ?_)
    refine xs 48 rfl (aC (d:= .val (sV (n0.ay))) rfl TT.fF rfl (qZ _) ?_)
    refine xs 49 rfl (qk (a:=n0.ay) (b:=([]:List UInt8)) rfl rfl rfl ?_)
    refine xm 50 (pB (n0.ay==([]:List UInt8))) ?_
    refine xg 51 (.d (.cr ((cNode n0).drop 1))) rfl rfl (fun hg=>aO rfl TT.qF (by decide) rfl g3) ?_
    refine xg 52 (.d (.slice ((n0.az).map U))) rfl rfl (fun hg=>aC (d:= .slice ((n0.az).map U)) rfl TT.fB rfl (oK _) g3) ?_
    refine xg 53 (pI ((n0.az).length:Int)) rfl rfl (fun hg=>cM (en:=U) (l:=n0.az) rfl TT.bC rfl g3) ?_
    refine xg 54 (pB (decide (((n0.az).length:Int)=(0:Int)))) rfl rfl (fun hg=>ej (a:=((n0.az).length:Int)) (b:=(0:Int)) rfl rfl rfl g3) ?_
    refine xs 55 rfl (gK rfl rfl rfl rfl (fun hb=>by rw [hb];rfl) (fun _=>rfl) ?_)
    refine xm 56 (pB ((n0.ay==([]:List UInt8))&&(decide (((n0.az).length:Int)=(0:Int))))) ?_
    refine xg 57 (pI (x_1.length:Int)) rfl rfl (fun hg=>au (v:=pI (x_1.length:Int)) rfl rfl g3) ?_
    refine xg 58 (pB (decide ((1:Int)<(x_1.length:Int)))) rfl rfl (fun hg=>oh (a:=(x_1.length:Int)) (b:=(1:Int)) rfl rfl rfl g3) ?_
    refine xs 59 rfl (gK rfl rfl rfl rfl (fun hb=>by rw [hb];rfl) (fun _=>rfl) ?_)
    refine xz 2 (pB (((n0.ay==([]:List UInt8))&&(decide (((n0.az).length:Int)=(0:Int))))&&(decide ((1:Int)<(x_1.length:Int))))) ?_
    refine QW.ret zL (mO (eC ?_))
    obtain rfl:=sO h
    exact Ends.one (.inr rfl) rfl (aG.tmp rfl) rfl rfl
   ·replace h:=bF h kI
    refine QW.skip zL (gC (aY ?_))
    refine sR ?_
    refine xz 2 (pB false) ?_
    refine QW.ret zL ?_
    obtain rfl:=sO h
    exact Ends.one (.inr rfl) rfl (aG.tmp rfl) rfl rfl
noncomputable def eT (v0:(List (List UInt8))) (f1:(List UInt8)→Option Bool):Option Bool:=
  ((gJ v0 f1).bind fun (x_1:Int)=>
  some (decide ((0:Int)≤x_1)))
theorem oR (v0:(List (List UInt8))) (f1:(List UInt8)→Option Bool) (me:Nat) (ny:List D) (Iz:aN Tryz.prog me=true) (IA:∀ y0 r,f1 y0=some r→bE Tryz.prog me ([.val (sV y0)]++ny) (.val (.bool r))) (r:Bool) (h:eT v0 f1=some r):bE Tryz.prog 75 [.slice (v0.map eS), .gT me ny] (.val (.bool r)):=by
 refine bE.aU Tryz.func75 rfl (by simp [Tryz.ntmps75]) ?_
 rw [Tryz.ntmps75,TT.Vo]
 refine QW.view (s':=⟨aF [(0, .d (.slice (v0.map eS))),(1, .d (.gT me ny))],aj [],0,[]⟩) (View.init (by rfl)) zL ?_
 unfold eT at h
 refine sR ?_
 refine xz 4 (pB false) ?_
 refine sR ?_
 refine xm 5 (.d (.slice (v0.map eS))) ?_
 refine xm 6 (.d (.gT me ny)) ?_
 obtain ⟨x_1,fy,h⟩:=bO h
 refine xs 7 rfl (aA rfl rfl TT.GS rfl (lz v0 f1 me ny Iz IA _ fy) ?_)
 refine xs 8 rfl (wU (a:=x_1) (b:=(0:Int)) rfl rfl rfl ?_)
 refine xz 4 (pB (decide ((0:Int)≤x_1))) ?_
 refine QW.ret zL ?_
 obtain rfl:=sO h
 exact Ends.one (.inr rfl) rfl (aG.tmp rfl) rfl rfl
noncomputable def oS (self:(List UInt8)→Option Bool) (n0:Node):Option Int:=
  ((p7 n0).bind fun (x_1:Bool)=>
  ((bif ((!x_1)==false) then pF (n0.az) else some default).bind fun (x_3:Bool)=>
  ((bif ((((!x_1)||(!x_3))||(decide ((64:Int)<((n0.az).length:Int))))==false) then eT ((n0.aT).1) (fun y0=>ke self y0) else some default).bind fun (x_5:Bool)=>
  (bif ((((!x_1)||(!x_3))||(decide ((64:Int)<((n0.az).length:Int))))||x_5) then
  some (2)
  else
  some (0)))))
theorem Ee (self:(List UInt8)→Option Bool) (fP:∀ (y0:(List UInt8)) (rr:Bool),self y0=some rr→bE Tryz.prog 72 [.val (sV y0)] (.val (.bool rr))) (n0:Node) (r:Int) (h:oS self n0=some r):bE Tryz.prog 41 [.agg (cNode n0)] (.val (.int .i64 r)):=by
 refine bE.aU Tryz.func41 rfl (by simp [Tryz.ntmps41]) ?_
 rw [Tryz.ntmps41,TT.Vi]
 refine QW.view (s':=⟨aF [(0, .d (.agg (cNode n0)))],aj [],0,[]⟩) (View.init (by rfl)) zL ?_
 unfold oS at h
 refine sR ?_
 refine XK.fz (some 1) rfl rfl (eJ (ds:=cNode n0) rfl rfl rfl rfl cA ?_)
 refine xz 2 (pI (0)) ?_
 refine sR ?_
 refine xz 3 (.d (.gT 71 [])) ?_
 refine QW.seq ?_
 refine sR ?_
 refine xs 4 rfl (aC (d:= .agg (cNode n0)) rfl TT.dY rfl (⟨by rw [u7.len];decide,congrArg D.agg (List.take_of_length_le (by rw [u7.len];decide))⟩) ?_)
 obtain ⟨x_1,fy,h⟩:=bO h
 refine xs 5 rfl (aA rfl rfl TT.N8 rfl (Fu n0 _ fy) ?_)
 refine xs 6 rfl (mC rfl rfl ?_)
 refine xm 7 (pB (!x_1)) ?_
 refine xg 8 (.d (.cr ((cNode n0).drop 1))) rfl rfl (fun hg=>aO rfl TT.qF (by decide) rfl g3) ?_
 refine xg 9 (.d (.slice ((n0.az).map U))) rfl rfl (fun hg=>aC (d:= .slice ((n0.az).map U)) rfl TT.fB rfl (oK _) g3) ?_
 obtain ⟨x_3,vM,h⟩:=bO h
 refine xg 10 (pB x_3) rfl rfl (fun hg=>aA rfl rfl TT.GF rfl (Ak (n0.az) _ (bT vM hg)) g3) ?_
 refine xg 11 (pB (!x_3)) rfl rfl (fun hg=>mC rfl rfl g3) ?_
 refine xs 12 rfl (gL rfl rfl rfl rfl (fun _=>rfl) (fun hb=>by rw [hb];rfl) ?_)
 refine xm 13 (pB ((!x_1)||(!x_3))) ?_
 refine xg 14 (.d (.cr ((cNode n0).drop 1))) rfl rfl (fun hg=>aO rfl TT.qF (by decide) rfl g3) ?_
 refine xg 15 (.d (.slice ((n0.az).map U))) rfl rfl (fun hg=>aC (d:= .slice ((n0.az).map U)) rfl TT.fB rfl (oK _) g3) ?_
 refine xg 16 (pI ((n0.az).length:Int)) rfl rfl (fun hg=>cM (en:=U) (l:=n0.az) rfl TT.bC rfl g3) ?_
 refine xg 17 (pB (decide ((64:Int)<((n0.az).length:Int)))) rfl rfl (fun hg=>oh (a:=((n0.az).length:Int)) (b:=(64:Int)) rfl rfl rfl g3) ?_
 refine xs 18 rfl (gL rfl rfl rfl rfl (fun _=>rfl) (fun hb=>by rw [hb];rfl) ?_)
 refine xm 19 (pB (((!x_1)||(!x_3))||(decide ((64:Int)<((n0.az).length:Int))))) ?_
 refine xg 20 (.d (.cr ((cNode n0).drop 3))) rfl rfl (fun hg=>aO rfl TT.mT (by decide) rfl g3) ?_
 refine xg 21 (.full (((n0.aT).1).map eS)) rfl rfl (fun hg=>D1 (en:=eS) (a:=n0.aT) rfl TT.Jn TT.oN (q6 _) (Gs (GM _)) rfl g3) ?_
 refine xg 22 (.d (.gT 71 [])) rfl rfl (fun hg=>au (v:= .d (.gT 71 [])) rfl rfl g3) ?_
 obtain ⟨x_5,rj,h⟩:=bO h
 refine xg 23 (pB x_5) rfl rfl (fun hg=>aA rfl rfl TT.N9 rfl (oR ((n0.aT).1) (fun y0=>ke self y0) 71 [] TT.N6 (fun y0 _ h=>Ch self fP y0 _ h) _ (bT rj hg)) g3) ?_
 refine xs 24 rfl (gL rfl rfl rfl rfl (fun _=>rfl) (fun hb=>by rw [hb];rfl) ?_)
 refine XK.nz ?_
 refine QW.cond (t:=((((!x_1)||(!x_3))||(decide ((64:Int)<((n0.az).length:Int))))||x_5)) rfl zL (fun rS=>?_) (fun rS=>?_)
 ·replace h:=bT h rS
  refine sR ?_
  refine xz 2 (pI (2)) ?_
  refine QW.ret zL (eC ?_)
  obtain rfl:=sO h
  exact Ends.one (.inr rfl) rfl (aG.tmp rfl) rfl rfl
 ·replace h:=bF h rS
  refine QW.skip zL (aY ?_)
  refine sR ?_
  refine xz 2 (pI (0)) ?_
  refine QW.ret zL ?_
  obtain rfl:=sO h
  exact Ends.one (.inr rfl) rfl (aG.tmp rfl) rfl rfl
noncomputable def mF (oT:(List UInt8)):Option Item:=
  (bif ((oT==([]:List UInt8))||(decide ((oT.length:Int)=(32:Int)))) then
  ((iT oT).bind fun (x_2:Item)=>
  some x_2)
  else
  ((ku oT).bind fun (x_4:(Item×Int))=>
  some (x_4.1)))
theorem Ao (oT:(List UInt8)) (r:Item) (h:mF oT=some r):bE Tryz.prog 55 [.val (sV oT)] (.agg (dr r)):=by
 refine bE.aU Tryz.func55 rfl (by simp [Tryz.ntmps55]) ?_
 rw [Tryz.ntmps55,TT.Vk]
 refine QW.view (s':=⟨aF [(0,pS oT)],aj [],0,[]⟩) (View.init (by rfl)) zL ?_
 unfold mF at h
 refine sR ?_
 refine xs 2 rfl (bP (l:=[pB false,pS ([]:List UInt8), .full (([]:(List Item)).map bu)]) rfl TT.mm rfl rfl ?_)
 refine XK.nz ?_
 refine QW.seq ?_
 refine sR ?_
 refine xm 5 (pS oT) ?_
 refine xs 6 rfl (qk (a:=oT) (b:=([]:List UInt8)) rfl rfl rfl ?_)
 refine xm 7 (pB (oT==([]:List UInt8))) ?_
 refine xg 8 (pS oT) rfl rfl (fun hg=>au (v:=pS oT) rfl rfl g3) ?_
 refine xg 9 (pI (oT.length:Int)) rfl rfl (fun hg=>gB (l:=oT) rfl TT.bZ rfl g3) ?_
 refine xg 10 (pB (decide ((oT.length:Int)=(32:Int)))) rfl rfl (fun hg=>ej (a:=(oT.length:Int)) (b:=(32:Int)) rfl rfl rfl g3) ?_
 refine xs 11 rfl (gL rfl rfl rfl rfl (fun _=>rfl) (fun hb=>by rw [hb];rfl) ?_)
 refine XK.nz ?_
 refine QW.cond (t:=((oT==([]:List UInt8))||(decide ((oT.length:Int)=(32:Int))))) rfl zL (fun dm=>?_) (fun dm=>?_)
 ·replace h:=bT h dm
  refine sR ?_
  refine xm 12 (pS oT) ?_
  obtain ⟨x_2,nD,h⟩:=bO h
  refine xs 13 rfl (aA rfl rfl TT.qx rfl (mS oT _ nD) ?_)
  refine XK.st none rfl rfl (bw (l':=[pB (x_2.cD),pS (x_2.fS), .d (.slice ((x_2.fL).map bu))]) rfl TT.ew rfl rfl rfl rfl rfl rfl (by simp) rfl ?_)
  refine XK.nz ?_
  refine QW.ret zL (eC ?_)
  obtain rfl:=sO h
  exact Ends.one (.inr rfl) rfl (aG.cell rfl rfl TT.ew ⟨⟨by simp,by simp⟩,rfl⟩) rfl rfl
 ·replace h:=bF h dm
  refine QW.skip zL (aY ?_)
  refine sR ?_
  refine xm 15 (pS oT) ?_
  obtain ⟨x_4,kZ,h⟩:=bO h
  refine xs 16 rfl (aA rfl rfl TT.GR rfl (Aj oT _ kZ) ?_)
  refine xm 14 (.d (.tuple [.agg (dr (x_4.1)), .val (.int .i64 (x_4.2))])) ?_
  refine xs 17 rfl (bz rfl rfl rfl ?_)
  refine xs 18 rfl (bz rfl rfl rfl ?_)
  refine xs 3 rfl (bP (l:=[pB false,pS ([]:List UInt8), .full (([]:(List Item)).map bu)]) rfl TT.mm rfl rfl ?_)
  refine XK.st none rfl rfl (bw (l':=[pB ((x_4.1).cD),pS ((x_4.1).fS), .d (.slice (((x_4.1).fL).map bu))]) rfl TT.ew rfl rfl rfl rfl rfl rfl (by simp) rfl ?_)
  refine xz 4 (pI (x_4.2)) ?_
  refine sR ?_
  refine XK.as (some 19) rfl rfl (bx (v:= .agg [pB ((x_4.1).cD),pS ((x_4.1).fS), .d (.slice (((x_4.1).fL).map bu))]) rfl TT.ew rfl rfl ⟨⟨by simp,by simp⟩,rfl⟩ ⟨.d (.agg (dr (x_4.1))),(iy.cW rfl),?_⟩)
  refine XK.st none rfl rfl (bw (l':=[pB ((x_4.1).cD),pS ((x_4.1).fS), .d (.slice (((x_4.1).fL).map bu))]) rfl TT.ew rfl rfl rfl rfl rfl rfl (by simp) rfl ?_)
  refine XK.nz ?_
  refine QW.ret zL ?_
  obtain rfl:=sO h
  exact Ends.one (.inr rfl) rfl (aG.cell rfl rfl TT.ew ⟨⟨by simp,by simp⟩,rfl⟩) rfl rfl
inductive E1 where
 | S
 | L1 (v7:(List Item)) (xI:Int)
noncomputable def gE (self:(List UInt8)→Option Bool) (n0:Node):E1→Option (E1⊕((List UInt8)×Int))
 | .S=>
  ((oS self n0).bind fun (x_1:Int)=>
  (bif (!decide (x_1=(0:Int))) then
  some (.inr (([]:List UInt8),x_1))
  else
  ((tU (n0.az) (decide ((n0.aW)=(1:Int)))).bind fun (x_4:((List UInt8)×Int))=>
  (bif (decide ((n0.aW)=(1:Int))) then
  ((iT (x_4.1)).bind fun (x_7:Item)=>
  ((iT (n0.ay)).bind fun (x_9:Item)=>
  ((oM ([x_7,x_9]:List Item)).bind fun (x_11:Item)=>
  ((lN x_11).bind fun (x_13:((List UInt8)×Int))=>
  some (.inr (x_13.1,x_13.2))))))
  else
  (bif (decide ((n0.aW)=(2:Int))) then
  ((iT (x_4.1)).bind fun (x_16:Item)=>
  ((mF (idx (n0.aT).1 (0:Int))).bind fun (x_18:Item)=>
  ((oM ([x_16,x_18]:List Item)).bind fun (x_20:Item)=>
  ((lN x_20).bind fun (x_22:((List UInt8)×Int))=>
  some (.inr (x_22.1,x_22.2))))))
  else
  some (.inl (.L1 ([]:(List Item)) (0))))))))
 | .L1 v7 xI=>
  (bif (decide (xI<(16:Int))) then
  gO (0≤xI∧xI<((16:Nat):Int)) (
  ((mF (idx (n0.aT).1 xI)).bind fun (vN:Item)=>
  gO ((v7.length+([vN]:List Item).length)*48≤140737488355328) (
  gO (bA (xI+(1:Int))) (
  some (.inl (.L1 (v7++([vN]:List Item)) (xI+(1:Int))))))))
  else
  ((iT ([]:List UInt8)).bind fun (yq:Item)=>
  gO ((v7.length+([yq]:List Item).length)*48≤140737488355328) (
  ((oM (v7++([yq]:List Item))).bind fun (Tn:Item)=>
  ((lN Tn).bind fun (GY:((List UInt8)×Int))=>
  some (.inr (GY.1,GY.2)))))))
noncomputable def uU (self:(List UInt8)→Option Bool) (n0:Node):Option ((List UInt8)×Int):=gU (gE self n0) .S
theorem Ap (self:(List UInt8)→Option Bool) (fP:∀ (y0:(List UInt8)) (rr:Bool),self y0=some rr→bE Tryz.prog 72 [.val (sV y0)] (.val (.bool rr))) (n0:Node) (r:((List UInt8)×Int)) (h:uU self n0=some r):bE Tryz.prog 30 [.agg (cNode n0)] (.tuple [.val (sV (r.1)), .val (.int .i64 (r.2))]):=by
 refine bE.aU Tryz.func30 rfl (by simp [Tryz.ntmps30]) ?_
 rw [Tryz.ntmps30,TT.Vh]
 refine QW.view (s':=⟨aF [(0, .d (.agg (cNode n0)))],aj [],0,[]⟩) (View.init (by rfl)) zL ?_
 replace h:=cG h
 obtain ⟨_,h⟩:=h
 obtain ⟨c8,rfl,h9⟩:=aQ h;replace h:=h9;clear h9;rw [gE] at h
 refine sR ?_
 refine XK.fz (some 1) rfl rfl (eJ (ds:=cNode n0) rfl rfl rfl rfl cA ?_)
 refine xa 2 (pS ([]:List UInt8)) ?_
 refine xz 3 (pI (0)) ?_
 refine QW.seq ?_
 refine sR ?_
 refine xs 10 rfl (aC (d:= .agg (cNode n0)) rfl TT.dY rfl (⟨by rw [u7.len];decide,congrArg D.agg (List.take_of_length_le (by rw [u7.len];decide))⟩) ?_)
 obtain ⟨x_1,fy,h⟩:=bG h
 refine xs 11 rfl (aA rfl rfl TT.N3 rfl (Ee self fP n0 _ fy) ?_)
 refine xz 4 (pI x_1) ?_
 refine sR ?_
 refine xm 12 (pI x_1) ?_
 refine xs 13 rfl (oa (a:=x_1) (b:=(0:Int)) rfl rfl rfl ?_)
 refine XK.nz ?_
 refine QW.cond (t:=(!decide (x_1=(0:Int)))) rfl zL (fun dW=>?_) (fun dW=>?_)
 ·replace h:=eX h dW
  refine sR ?_
  refine xm 14 (pI x_1) ?_
  refine xa 2 (pS ([]:List UInt8)) ?_
  refine xz 3 (pI x_1) ?_
  refine QW.ret zL (eC ?_)
  obtain rfl:=sG h
  exact Ends.more (.inr rfl) rfl (ps:=[pS ([]:List UInt8),pI x_1]) (And.intro (aG.tmp rfl) (And.intro (aG.tmp rfl) trivial)) rfl rfl
 ·replace h:=eY h dW
  refine QW.skip zL (aY ?_)
  refine sR ?_
  refine xs 16 rfl (aO rfl TT.qF (by decide) rfl ?_)
  refine xs 17 rfl (aC (d:= .slice ((n0.az).map U)) rfl TT.fB rfl (oK _) ?_)
  refine xs 18 rfl (aO rfl TT.qE (by decide) rfl ?_)
  refine xs 19 rfl (aC (d:= .val (.int .i64 (n0.aW))) rfl TT.l9 rfl (qY _) ?_)
  refine xs 20 rfl (ej (a:=(n0.aW)) (b:=(1:Int)) rfl rfl rfl ?_)
  obtain ⟨x_4,kZ,h⟩:=bG h
  refine xs 21 rfl (aA rfl rfl TT.N5 rfl (IB (n0.az) (decide ((n0.aW)=(1:Int))) _ kZ) ?_)
  refine xm 15 (.d (.tuple [.val (sV (x_4.1)), .val (.int .i64 (x_4.2))])) ?_
  refine xs 22 rfl (bz rfl rfl rfl ?_)
  refine xs 23 rfl (bz rfl rfl rfl ?_)
  refine xa 5 (pS (x_4.1)) ?_
  refine xz 6 (pI (x_4.2)) ?_
  refine QW.seq ?_
  refine sR ?_
  refine xs 24 rfl (aO rfl TT.qE (by decide) rfl ?_)
  refine xs 25 rfl (aC (d:= .val (.int .i64 (n0.aW))) rfl TT.l9 rfl (qY _) ?_)
  refine XK.nz ?_
  refine QW.block ?_
  refine sR ?_
  refine xs 27 rfl (ej (a:=(n0.aW)) (b:=(1:Int)) rfl rfl rfl ?_)
  refine xz 26 (pB (decide ((n0.aW)=(1:Int)))) ?_
  refine QW.cond (t:=(decide ((n0.aW)=(1:Int)))) rfl zL (fun lO=>?_) (fun lO=>?_)
  ·replace h:=eX h lO
   refine QW.seq ?_
   refine QW.region zL (PW.kC (id:=7) dh (M:=_) rfl (by kernel_rfl) ?_)
   refine RQ.st (some 28) rfl rfl (au (v:=pS (x_4.1)) rfl rfl ⟨⟨rfl,rfl⟩,?_⟩)
   obtain ⟨x_7,oo,h⟩:=bG h
   refine RQ.st (some 29) rfl rfl (aA rfl rfl TT.qx rfl (mS (x_4.1) _ oo) ⟨⟨rfl,rfl⟩,?_⟩)
   refine RQ.st (some 30) rfl rfl (aO rfl TT.sZ (by decide) rfl ⟨⟨rfl,rfl⟩,?_⟩)
   refine RQ.st (some 31) rfl rfl (aC (d:= .val (sV (n0.ay))) rfl TT.fF rfl (qZ _) ⟨⟨rfl,rfl⟩,?_⟩)
   obtain ⟨x_9,Ci,h⟩:=bG h
   refine RQ.st (some 32) rfl rfl (aA rfl rfl TT.qx rfl (mS (n0.ay) _ Ci) ⟨⟨rfl,rfl⟩,?_⟩)
   refine RQ.st (some 33) rfl rfl (dU (en:=bu) (l:=([x_7,x_9]:List Item)) rfl TT.rJ kR (by first | rfl | (simp only [List.map_cons,List.map_nil,u9];rfl)) rfl (by decide) (by simp [dg,cQ,aB,dK,PV.cz,cu,aF,jz,iL,jP,bV,Value.oneCell']) ⟨⟨rfl,rfl⟩,?_⟩)
   obtain ⟨x_11,pR,h⟩:=bG h
   refine RQ.st (some 34) rfl rfl (aA rfl rfl TT.Cg rfl (xH ([x_7,x_9]:List Item) _ pR) ⟨⟨rfl,rfl⟩,?_⟩)
   obtain ⟨x_13,GZ,h⟩:=bG h
   refine RQ.st (some 35) rfl rfl (aA rfl rfl TT.yZ rfl (uS x_11 _ GZ) ⟨⟨rfl,rfl⟩,?_⟩)
   refine RQ.st (some 36) rfl rfl (bz rfl rfl rfl ⟨⟨rfl,rfl⟩,?_⟩)
   refine RQ.st (some 37) rfl rfl (bz rfl rfl rfl ⟨⟨rfl,rfl⟩,?_⟩)
   refine RQ.st (some 2) rfl rfl (cq (v:=pS (x_13.1)) rfl rfl ⟨⟨rfl,rfl⟩,?_⟩)
   refine RQ.st (some 3) rfl rfl (cq (v:=pI (x_13.2)) rfl rfl ⟨⟨rfl,rfl⟩,?_⟩)
   refine RQ.nil (aY ?_)
   refine QW.ret zL (mO (eC ?_))
   obtain rfl:=sG h
   exact Ends.more (.inr rfl) rfl (ps:=[pS (x_13.1),pI (x_13.2)]) (And.intro (aG.tmp rfl) (And.intro (aG.tmp rfl) trivial)) rfl rfl
  ·replace h:=eY h lO
   refine sR ?_
   refine xs 39 rfl (ej (a:=(n0.aW)) (b:=(2:Int)) rfl rfl rfl ?_)
   refine xz 38 (pB (decide ((n0.aW)=(2:Int)))) ?_
   refine QW.cond (t:=(decide ((n0.aW)=(2:Int)))) rfl zL (fun qG=>?_) (fun qG=>?_)
   ·replace h:=eX h qG
    refine QW.seq ?_
    refine QW.region zL (PW.kC (id:=9) dh (M:=_) rfl (by kernel_rfl) ?_)
    refine RQ.st (some 40) rfl rfl (au (v:=pS (x_4.1)) rfl rfl ⟨⟨rfl,rfl⟩,?_⟩)
    obtain ⟨x_16,G0,h⟩:=bG h
    refine RQ.st (some 41) rfl rfl (aA rfl rfl TT.qx rfl (mS (x_4.1) _ G0) ⟨⟨rfl,rfl⟩,?_⟩)
    refine RQ.st (some 42) rfl rfl (aO rfl TT.mT (by decide) rfl ⟨⟨rfl,rfl⟩,?_⟩)
    refine RQ.st (some 43) rfl rfl (mD (i:=(0:Int)) rfl TT.tV TT.oN rfl rfl (by decide) ⟨⟨rfl,rfl⟩,?_⟩)
    refine RQ.st (some 44) rfl rfl (aC (d:= .val (sV (idx (n0.aT).1 (0:Int)))) rfl TT.fF rfl (om (q6 _) (by decide)) ⟨⟨rfl,rfl⟩,?_⟩)
    obtain ⟨x_18,xF,h⟩:=bG h
    refine RQ.st (some 45) rfl rfl (aA rfl rfl TT.GQ rfl (Ao (idx (n0.aT).1 (0:Int)) _ xF) ⟨⟨rfl,rfl⟩,?_⟩)
    refine RQ.st (some 46) rfl rfl (dU (en:=bu) (l:=([x_16,x_18]:List Item)) rfl TT.rJ kR (by first | rfl | (simp only [List.map_cons,List.map_nil,u9];rfl)) rfl (by decide) (by simp [dg,cQ,aB,dK,PV.cz,cu,aF,jz,iL,jP,bV,Value.oneCell']) ⟨⟨rfl,rfl⟩,?_⟩)
    obtain ⟨x_20,yY,h⟩:=bG h
    refine RQ.st (some 47) rfl rfl (aA rfl rfl TT.Cg rfl (xH ([x_16,x_18]:List Item) _ yY) ⟨⟨rfl,rfl⟩,?_⟩)
    obtain ⟨x_22,vO,h⟩:=bG h
    refine RQ.st (some 48) rfl rfl (aA rfl rfl TT.yZ rfl (uS x_20 _ vO) ⟨⟨rfl,rfl⟩,?_⟩)
    refine RQ.st (some 49) rfl rfl (bz rfl rfl rfl ⟨⟨rfl,rfl⟩,?_⟩)
    refine RQ.st (some 50) rfl rfl (bz rfl rfl rfl ⟨⟨rfl,rfl⟩,?_⟩)
    refine RQ.st (some 2) rfl rfl (cq (v:=pS (x_22.1)) rfl rfl ⟨⟨rfl,rfl⟩,?_⟩)
    refine RQ.st (some 3) rfl rfl (cq (v:=pI (x_22.2)) rfl rfl ⟨⟨rfl,rfl⟩,?_⟩)
    refine RQ.nil (aY ?_)
    refine QW.ret zL (mO (eC ?_))
    obtain rfl:=sG h
    exact Ends.more (.inr rfl) rfl (ps:=[pS (x_22.1),pI (x_22.2)]) (And.intro (aG.tmp rfl) (And.intro (aG.tmp rfl) trivial)) rfl rfl
   ·replace h:=eY h qG
    refine QW.skip zL (gC (aY ?_))
    refine sR ?_
    refine xz 7 (.full (([]:(List Item)).map bu)) ?_
    refine QW.seq ?_
    refine sR ?_
    refine xs 51 rfl (aO rfl TT.mT (by decide) rfl ?_)
    refine xs 52 rfl (aC (d:= .agg ((n0.aT).1.map eS)) rfl TT.KE rfl (LY _) ?_)
    refine xm 53 (pI (0)) ?_
    refine XK.nz ?_
    refine QW.block ?_
    refine QW.loop (fun k σ=>∃ v7:(List Item),∃ xI:Int,k≤c8∧run (gE self n0) k (.L1 v7 xI)=some r∧σ=⟨aF [(7, .own 0 (v7.map bu)),(52, .d (.agg ((n0.aT).1.map eS))),(53,pI xI)],aj [.spare 3 v7.length],1,[]⟩) c8 zL ⟨⟨aF [(7, .own 0 (([]:(List Item)).map bu)),(52, .d (.agg ((n0.aT).1.map eS))),(53,pI (0))],aj [.spare 3 ([]:(List Item)).length],1,[]⟩,View.trans (View.buf 7 3 rfl zL) (View.mk 1 [0] _ _ _ rfl rfl (by decide) (iC (iC (iC trivial))) (And.intro rfl trivial) rfl zL rfl),([]:(List Item)),0,Nat.le_refl _,jG h,rfl⟩ ?_
    rintro aa1 _ ⟨v7,xI,aa2,h,rfl⟩
    obtain ⟨Zl,rfl,h9⟩:=aQ h;replace h:=h9;clear h9;rw [gE] at h
    refine sR ?_
    refine xs 54 rfl (cK (a:=xI) (b:=(16:Int)) rfl rfl rfl ?_)
    refine XK.nz ?_
    refine QW.seq ?_
    refine QW.cond (t:=(decide (xI<(16:Int)))) rfl zL (fun Cj=>?_) (fun Cj=>?_)
    ·replace h:=eX h Cj
     refine QW.skip zL (aY ?_)
     refine QW.seq ?_
     refine QW.block ?_
     refine sR ?_
     obtain ⟨yh,h⟩:=gG h
     refine xs 55 rfl (x8 (a:=n0.aT) (i:=xI) rfl TT.oN rfl rfl yh ?_)
     refine xz 9 (pS (idx (n0.aT).1 xI)) ?_
     refine rG ?_
     refine xm 56 (.own 0 (v7.map bu)) ?_
     refine xm 57 (pS (idx (n0.aT).1 xI)) ?_
     obtain ⟨vN,yX,h⟩:=bG h
     refine xs 58 rfl (aA rfl rfl TT.GQ rfl (Ao (idx (n0.aT).1 xI) _ yX) ?_)
     refine xs 59 rfl (dU (en:=bu) (l:=([vN]:List Item)) rfl TT.rJ kR (by first | rfl | (simp only [List.map_cons,List.map_nil,u9];rfl)) rfl (by decide) (by simp [dg,cQ,aB,dK,PV.cz,cu,aF,jz,iL,jP,bV,Value.oneCell']) ?_)
     obtain ⟨sF,h⟩:=gG h
     refine xs 60 rfl (iJ (en:=bu) (l:=v7) (l2:=([vN]:List Item)) rfl TT.rJ TT.qX rfl kR rfl rfl rfl sF (by decide) ?_)
     refine xa 7 (.own 1 ((v7++([vN]:List Item)).map bu)) ?_
     refine XK.nil (gC (aY ?_))
     refine rG ?_
     obtain ⟨EX,h⟩:=gG h
     refine xs 61 rfl (bY (a:=xI) (b:=(1:Int)) rfl rfl rfl EX ?_)
     refine xm 53 (pI (xI+(1:Int))) ?_
     refine XK.nz ?_
     exact ⟨Zl,by omega,⟨aF [(7, .own 0 ((v7++([vN]:List Item)).map bu)),(52, .d (.agg ((n0.aT).1.map eS))),(53,pI (xI+(1:Int)))],aj [.spare 3 (v7++([vN]:List Item)).length],1,[]⟩,View.mk 1 [1] _ _ _ rfl rfl (by decide) (iC (iC (iC trivial))) (And.intro rfl trivial) rfl zL rfl,(v7++([vN]:List Item)),(xI+(1:Int)),by omega,jG h,rfl⟩
    ·replace h:=eY h Cj
     refine QW.exit zL (eA (eA (jY (aY ?_))))
     refine sR ?_
     refine xm 62 (.own 0 (v7.map bu)) ?_
     obtain ⟨yq,Oe,h⟩:=bG h
     refine xs 63 rfl (aA rfl rfl TT.qx rfl (mS ([]:List UInt8) _ Oe) ?_)
     refine xs 64 rfl (dU (en:=bu) (l:=([yq]:List Item)) rfl TT.rJ kR (by first | rfl | (simp only [List.map_cons,List.map_nil,u9];rfl)) rfl (by decide) (by simp [dg,cQ,aB,dK,PV.cz,cu,aF,jz,iL,jP,bV,Value.oneCell']) ?_)
     obtain ⟨L6,h⟩:=gG h
     refine xs 65 rfl (iJ (en:=bu) (l:=v7) (l2:=([yq]:List Item)) rfl TT.rJ TT.qX rfl kR rfl rfl rfl L6 (by decide) ?_)
     obtain ⟨Tn,KC,h⟩:=bG h
     refine xs 66 rfl (aA rfl rfl TT.Cg rfl (xH (v7++([yq]:List Item)) _ KC) ?_)
     obtain ⟨GY,XH,h⟩:=bG h
     refine xs 67 rfl (aA rfl rfl TT.yZ rfl (uS Tn _ XH) ?_)
     refine xs 68 rfl (bz rfl rfl rfl ?_)
     refine xs 69 rfl (bz rfl rfl rfl ?_)
     refine xa 2 (pS (GY.1)) ?_
     refine xz 3 (pI (GY.2)) ?_
     refine QW.ret zL ?_
     obtain rfl:=sG h
     exact Ends.more (.inr rfl) rfl (ps:=[pS (GY.1),pI (GY.2)]) (And.intro (aG.tmp rfl) (And.intro (aG.tmp rfl) trivial)) rfl rfl
inductive E2 where
 | S
 | L2 (jj:Int) (w7:Bool) (w8:(List UInt8)) (ot:(List Item)) (yt:(aE 16 (List UInt8)))
 | J1 (p8:Int) (p9:(List UInt8)) (cS:(List UInt8)) (k6:(aE 16 (List UInt8)))
noncomputable def fM (self:(List UInt8)→Option Bool) (s0:(List UInt8)):E2→Option (E2⊕(Node×Int))
 | .S=>
  ((ku s0).bind fun (x_1:(Item×Int))=>
  (bif (!decide ((x_1.2)=(0:Int))) then
  some (.inr ((⟨0,([]:(List UInt8)),([]:List UInt8),(aE.rep 16 ([]:(List UInt8)))⟩:Node),x_1.2))
  else
  (bif (decide ((((x_1.1).fL).length:Int)=(2:Int))) then
  gO (0≤(0:Int)∧(0:Int)<(((x_1.1).fL).length:Int)) (
  gO (0≤(1:Int)∧(1:Int)<(((x_1.1).fL).length:Int)) (
  ((rQ (idx ((x_1.1).fL) (0:Int)) (idx ((x_1.1).fL) (1:Int))).bind fun (x_7:Node)=>
  some (.inl (.J1 (x_7.aW) (x_7.az) (x_7.ay) (x_7.aT))))))
  else
  (bif (decide ((((x_1.1).fL).length:Int)=(17:Int))) then
  some (.inl (.L2 (0) ((x_1.1).cD) ((x_1.1).fS) ((x_1.1).fL) (aE.rep 16 ([]:(List UInt8)))))
  else
  some (.inl (.J1 (0) ([]:(List UInt8)) ([]:List UInt8) (aE.rep 16 ([]:(List UInt8)))))))))
 | .L2 jj w7 w8 ot yt=>
  (bif (decide (jj<(16:Int))) then
  gO (0≤jj∧jj<(ot.length:Int)) (
  ((kS (idx ot jj)).bind fun (x_13:(List UInt8))=>
  gO (0≤jj∧jj<((16:Nat):Int)) (
  gO (bA (jj+(1:Int))) (
  some (.inl (.L2 (jj+(1:Int)) w7 w8 ot (yt.put jj x_13)))))))
  else
  ((vK yt).bind fun (x_17:Node)=>
  some (.inl (.J1 (x_17.aW) (x_17.az) (x_17.ay) (x_17.aT)))))
 | .J1 p8 p9 cS k6=>
  ((uU self (⟨p8,p9,cS,k6⟩:Node)).bind fun (x_20:((List UInt8)×Int))=>
  (bif ((!decide ((x_20.2)=(0:Int)))||(!(x_20.1==s0))) then
  some (.inr ((⟨0,([]:(List UInt8)),([]:List UInt8),(aE.rep 16 ([]:(List UInt8)))⟩:Node),6))
  else
  some (.inr ((⟨p8,p9,cS,k6⟩:Node),0))))
noncomputable def rU (self:(List UInt8)→Option Bool) (s0:(List UInt8)):Option (Node×Int):=gU (fM self s0) .S
theorem G1 (self:(List UInt8)→Option Bool) (fP:∀ (y0:(List UInt8)) (rr:Bool),self y0=some rr→bE Tryz.prog 72 [.val (sV y0)] (.val (.bool rr))) (s0:(List UInt8)) (r:(Node×Int)) (h:rU self s0=some r):bE Tryz.prog 94 [.val (sV s0)] (.tuple [.agg (cNode (r.1)), .val (.int .i64 (r.2))]):=by
 refine bE.aU Tryz.func94 rfl (by simp [Tryz.ntmps94]) ?_
 rw [Tryz.ntmps94,TT.Vu]
 refine QW.view (s':=⟨aF [(0,pS s0)],aj [],0,[]⟩) (View.init (by rfl)) zL ?_
 replace h:=cG h
 obtain ⟨_,h⟩:=h
 obtain ⟨c8,rfl,h9⟩:=aQ h;replace h:=h9;clear h9;rw [fM] at h
 refine sR ?_
 refine xs 2 rfl (bP (l:=(([pI (0), .full (([]:(List UInt8)).map U),pS ([]:List UInt8)])++(((aE.rep 16 ([]:(List UInt8))).1.map eS).map PV.d))) rfl TT.j9 rfl rfl ?_)
 refine xz 3 (pI (0)) ?_
 refine sR ?_
 refine xm 12 (pS s0) ?_
 obtain ⟨x_1,fy,h⟩:=bG h
 refine xs 13 rfl (aA rfl rfl TT.GR rfl (Aj s0 _ fy) ?_)
 refine xm 11 (.d (.tuple [.agg (dr (x_1.1)), .val (.int .i64 (x_1.2))])) ?_
 refine xs 14 rfl (bz rfl rfl rfl ?_)
 refine xs 15 rfl (bz rfl rfl rfl ?_)
 refine xs 4 rfl (bP (l:=[pB false,pS ([]:List UInt8), .full (([]:(List Item)).map bu)]) rfl TT.mm rfl rfl ?_)
 refine XK.st none rfl rfl (bw (l':=[pB ((x_1.1).cD),pS ((x_1.1).fS), .d (.slice (((x_1.1).fL).map bu))]) rfl TT.ew rfl rfl rfl rfl rfl rfl (by simp) rfl ?_)
 refine xz 5 (pI (x_1.2)) ?_
 refine QW.seq ?_
 refine sR ?_
 refine xm 16 (pI (x_1.2)) ?_
 refine xs 17 rfl (oa (a:=(x_1.2)) (b:=(0:Int)) rfl rfl rfl ?_)
 refine XK.nz ?_
 refine QW.cond (t:=(!decide ((x_1.2)=(0:Int)))) rfl zL (fun dW=>?_) (fun dW=>?_)
 ·replace h:=eX h dW
  refine sR ?_
  refine xs 18 rfl (fk (v:= .agg (([pI (0), .full (([]:(List UInt8)).map U),pS ([]:List UInt8)])++(((aE.rep 16 ([]:(List UInt8))).1.map eS).map PV.d))) rfl TT.oO (dM rfl dL) ?_)
  refine xm 19 (pI (x_1.2)) ?_
  refine XK.st none rfl rfl (bw (c:=(([pI (0), .full (([]:(List UInt8)).map U),pS ([]:List UInt8)])++(((aE.rep 16 ([]:(List UInt8))).1.map eS).map PV.d))) (l':=(([pI (0), .full (([]:(List UInt8)).map U),pS ([]:List UInt8)])++(((aE.rep 16 ([]:(List UInt8))).1.map eS).map PV.d))) rfl TT.dY rfl rfl rfl rfl rfl (aD (A:=[pI (0), .full (([]:(List UInt8)).map U),pS ([]:List UInt8)]) (b:=16) rfl (aq _) rfl) (bX (aD (A:=[pI (0), .full (([]:(List UInt8)).map U),pS ([]:List UInt8)]) (b:=16) rfl (aq _) rfl) bL) (cT ((aD (A:=[pI (0), .full (([]:(List UInt8)).map U),pS ([]:List UInt8)]) (b:=16) rfl (aq _) rfl).trans (aD (A:=[pI (0), .full (([]:(List UInt8)).map U),pS ([]:List UInt8)]) (b:=16) rfl (aq _) rfl).symm)) ?_)
  refine xz 3 (pI (x_1.2)) ?_
  refine QW.ret zL (eC ?_)
  obtain rfl:=sG h
  exact Ends.more (.inr rfl) rfl (ps:=[.agg (([pI (0), .full (([]:(List UInt8)).map U),pS ([]:List UInt8)])++(((aE.rep 16 ([]:(List UInt8))).1.map eS).map PV.d)),pI (x_1.2)]) (And.intro (aG.cell rfl rfl TT.dY (fO (aD (A:=[pI (0), .full (([]:(List UInt8)).map U),pS ([]:List UInt8)]) (b:=16) rfl (aq _) rfl) (Nat.succ_pos _))) (And.intro (aG.tmp rfl) trivial)) (by simp only [PV.cW,PV.eg,iM,cA,Option.bind_some,Option.map_some,cNode]<;>rfl) rfl
 ·replace h:=eY h dW
  refine QW.skip zL (aY ?_)
  refine sR ?_
  refine xs 6 rfl (bP (l:=(([pI (0), .full (([]:(List UInt8)).map U),pS ([]:List UInt8)])++(((aE.rep 16 ([]:(List UInt8))).1.map eS).map PV.d))) rfl TT.j9 rfl rfl ?_)
  refine XK.nz ?_
  refine QW.rH (fun s'=>∃ p8:Int,∃ p9:(List UInt8),∃ cS:(List UInt8),∃ k6:(aE 16 (List UInt8)),∃ k:Nat,k≤c8∧run (fM self s0) k (.J1 p8 p9 cS k6)=some r∧s'=⟨aF [(0,pS s0),(2, .aK 0 0),(6, .aK 1 0)],aj [.var (([pI (0), .full (([]:(List UInt8)).map U),pS ([]:List UInt8)])++(((aE.rep 16 ([]:(List UInt8))).1.map eS).map PV.d)), .var (([pI p8, .d (.slice (p9.map U)),pS cS])++((k6.1.map eS).map PV.d))],2,[]⟩) ?_ ?_
  ·refine sR ?_
   refine xs 20 rfl (fm rfl TT.mQ (by decide) rfl ?_)
   refine xs 21 rfl (bx (v:= .d (.slice (((x_1.1).fL).map bu))) rfl TT.tu rfl rfl ⟨⟨by simp,by simp⟩,rfl⟩ ?_)
   refine xs 22 rfl (cM (en:=bu) (l:=(x_1.1).fL) rfl TT.qX rfl ?_)
   refine XK.nz ?_
   refine QW.block ?_
   refine sR ?_
   refine xs 24 rfl (ej (a:=(((x_1.1).fL).length:Int)) (b:=(2:Int)) rfl rfl rfl ?_)
   refine xz 23 (pB (decide ((((x_1.1).fL).length:Int)=(2:Int)))) ?_
   refine QW.cond (t:=(decide ((((x_1.1).fL).length:Int)=(2:Int)))) rfl zL (fun gD=>?_) (fun gD=>?_)
   ·replace h:=eX h gD
    refine QW.region zL (PW.tN (id:=7) dh (M:=_) rfl (by kernel_rfl) ?_)
    refine RK.st (some 25) rfl rfl (fm rfl TT.mQ (by decide) rfl ?_)
    refine RK.st (some 26) rfl rfl (bx (v:= .d (.slice (((x_1.1).fL).map bu))) rfl TT.tu rfl rfl ⟨⟨by simp,by simp⟩,rfl⟩ ?_)
    obtain ⟨mR,h⟩:=gG h
    refine RK.st (some 27) rfl rfl (bN (l:=(x_1.1).fL) (i:=(0:Int)) rfl TT.Ad kR rfl rfl mR ?_)
    refine RK.st (some 28) rfl rfl (aC (d:= .agg (dr (idx ((x_1.1).fL) (0:Int)))) rfl TT.ew rfl (⟨by simp [dr],rfl⟩) ?_)
    refine RK.st (some 29) rfl rfl (fm rfl TT.mQ (by decide) rfl ?_)
    refine RK.st (some 30) rfl rfl (bx (v:= .d (.slice (((x_1.1).fL).map bu))) rfl TT.tu rfl rfl ⟨⟨by simp,by simp⟩,rfl⟩ ?_)
    obtain ⟨lZ,h⟩:=gG h
    refine RK.st (some 31) rfl rfl (bN (l:=(x_1.1).fL) (i:=(1:Int)) rfl TT.Ad kR rfl rfl lZ ?_)
    refine RK.st (some 32) rfl rfl (aC (d:= .agg (dr (idx ((x_1.1).fL) (1:Int)))) rfl TT.ew rfl (⟨by simp [dr],rfl⟩) ?_)
    obtain ⟨x_7,oo,h⟩:=bG h
    refine RK.st (some 33) rfl rfl (aA rfl rfl TT.L9 rfl (GW (idx ((x_1.1).fL) (0:Int)) (idx ((x_1.1).fL) (1:Int)) _ oo) ?_)
    refine RK.st none rfl rfl (bw (c:=(([pI (x_7.aW), .d (.slice ((x_7.az).map U)),pS (x_7.ay)])++(((x_7.aT).1.map eS).map PV.d))) (l':=(([pI (x_7.aW), .d (.slice ((x_7.az).map U)),pS (x_7.ay)])++(((x_7.aT).1.map eS).map PV.d))) rfl TT.dY rfl rfl rfl rfl (show (cNode x_7).map PV.d=_ by simp only [cNode,List.map_append];rfl) (aD (A:=[pI (x_7.aW), .d (.slice ((x_7.az).map U)),pS (x_7.ay)]) (b:=16) rfl (aq _) rfl) (bX (aD (A:=[pI (0), .full (([]:(List UInt8)).map U),pS ([]:List UInt8)]) (b:=16) rfl (aq _) rfl) bL) (cT ((aD (A:=[pI (0), .full (([]:(List UInt8)).map U),pS ([]:List UInt8)]) (b:=16) rfl (aq _) rfl).trans (aD (A:=[pI (x_7.aW), .d (.slice ((x_7.az).map U)),pS (x_7.ay)]) (b:=16) rfl (aq _) rfl).symm)) ?_)
    refine RK.nil ⟨gl.comp (by rfl),(gC (aY ?_))⟩
    exact ⟨⟨aF [(0,pS s0),(2, .aK 0 0),(6, .aK 1 0)],aj [.var (([pI (0), .full (([]:(List UInt8)).map U),pS ([]:List UInt8)])++(((aE.rep 16 ([]:(List UInt8))).1.map eS).map PV.d)), .var (([pI (x_7.aW), .d (.slice ((x_7.az).map U)),pS (x_7.ay)])++(((x_7.aT).1.map eS).map PV.d))],2,[]⟩,View.mk 2 [0,2] _ _ _ rfl rfl (by decide) (iC (iC (iC trivial))) (And.intro (by simp only [cF,eR,PV.bR];rfl) (And.intro (by simp only [cF,eR,PV.bR];rfl) trivial)) rfl zL rfl,x_7.aW,x_7.az,x_7.ay,x_7.aT,c8,by omega,jG h,rfl⟩
   ·replace h:=eY h gD
    refine sR ?_
    refine xs 35 rfl (ej (a:=(((x_1.1).fL).length:Int)) (b:=(17:Int)) rfl rfl rfl ?_)
    refine xz 34 (pB (decide ((((x_1.1).fL).length:Int)=(17:Int)))) ?_
    refine QW.cond (t:=(decide ((((x_1.1).fL).length:Int)=(17:Int)))) rfl zL (fun oU=>?_) (fun oU=>?_)
    ·replace h:=eX h oU
     refine sR ?_
     refine xs 7 rfl (bP (l:=(((aE.rep 16 ([]:(List UInt8))).1.map eS).map .d)) rfl TT.QJ rfl rfl ?_)
     refine XK.nz ?_
     refine QW.seq ?_
     refine sR ?_
     refine xm 36 (pI (0)) ?_
     refine XK.nz ?_
     refine QW.block ?_
     refine QW.loop (fun k σ=>∃ jj:Int,∃ w7:Bool,∃ w8:(List UInt8),∃ ot:(List Item),∃ yt:(aE 16 (List UInt8)),k≤c8∧run (fM self s0) k (.L2 jj w7 w8 ot yt)=some r∧σ=⟨aF [(0,pS s0),(2, .aK 0 0),(4, .aK 1 0),(6, .aK 2 0),(7, .aK 3 0),(36,pI jj)],aj [.var (([pI (0), .full (([]:(List UInt8)).map U),pS ([]:List UInt8)])++(((aE.rep 16 ([]:(List UInt8))).1.map eS).map PV.d)), .var [pB w7,pS w8, .d (.slice (ot.map bu))], .var (([pI (0), .full (([]:(List UInt8)).map U),pS ([]:List UInt8)])++(((aE.rep 16 ([]:(List UInt8))).1.map eS).map PV.d)), .var ((yt.1.map eS).map .d)],4,[]⟩) c8 zL ⟨⟨aF [(0,pS s0),(2, .aK 0 0),(4, .aK 1 0),(6, .aK 2 0),(7, .aK 3 0),(36,pI (0))],aj [.var (([pI (0), .full (([]:(List UInt8)).map U),pS ([]:List UInt8)])++(((aE.rep 16 ([]:(List UInt8))).1.map eS).map PV.d)), .var [pB ((x_1.1).cD),pS ((x_1.1).fS), .d (.slice (((x_1.1).fL).map bu))], .var (([pI (0), .full (([]:(List UInt8)).map U),pS ([]:List UInt8)])++(((aE.rep 16 ([]:(List UInt8))).1.map eS).map PV.d)), .var (((aE.rep 16 ([]:(List UInt8))).1.map eS).map .d)],4,[]⟩,View.mk 4 [0,1,2,3] _ _ _ rfl rfl (by decide) (iC (iC (iC (iC (iC (iC trivial)))))) (And.intro (by simp only [cF,eR,PV.bR];rfl) (And.intro rfl (And.intro (by simp only [cF,eR,PV.bR];rfl) (And.intro (by simp only [cF,bB,PV.bR];rfl) trivial)))) rfl zL rfl,0,(x_1.1).cD,(x_1.1).fS,(x_1.1).fL,(aE.rep 16 ([]:(List UInt8))),Nat.le_refl _,jG h,rfl⟩ ?_
     rintro XI _ ⟨jj,w7,w8,ot,yt,XJ,h,rfl⟩
     obtain ⟨Mf,rfl,h9⟩:=aQ h;replace h:=h9;clear h9;rw [fM] at h
     refine sR ?_
     refine xs 37 rfl (cK (a:=jj) (b:=(16:Int)) rfl rfl rfl ?_)
     refine XK.nz ?_
     refine QW.seq ?_
     refine QW.cond (t:=(decide (jj<(16:Int)))) rfl zL (fun vL=>?_) (fun vL=>?_)
     ·replace h:=eX h vL
      refine QW.skip zL (aY ?_)
      refine QW.seq ?_
      refine QW.block ?_
      refine sR ?_
      refine xm 38 (pI jj) ?_
      refine xz 8 (pI jj) ?_
      refine rG ?_
      refine xm 39 (pI jj) ?_
      refine xs 40 rfl (fm rfl TT.mQ (by decide) rfl ?_)
      refine xs 41 rfl (bx (v:= .d (.slice (ot.map bu))) rfl TT.tu rfl rfl ⟨⟨by simp,by simp⟩,rfl⟩ ?_)
      refine xm 42 (pI jj) ?_
      obtain ⟨mX,h⟩:=gG h
      refine xs 43 rfl (bN (l:=ot) (i:=jj) rfl TT.Ad kR rfl rfl mX ?_)
      refine xs 44 rfl (aC (d:= .agg (dr (idx ot jj))) rfl TT.ew rfl (⟨by simp [dr],rfl⟩) ?_)
      obtain ⟨x_13,GZ,h⟩:=bG h
      refine xs 45 rfl (aA rfl rfl TT.E0 rfl (uB (idx ot jj) _ GZ) ?_)
      obtain ⟨vH,h⟩:=gG h
      refine xs 46 rfl (cX (i:=jj) rfl TT.tV TT.oN rfl rfl vH ?_)
      refine XK.st none rfl rfl (bw (l':=(((yt.put jj x_13).1.map eS).map .d)) rfl TT.fF rfl rfl rfl rfl rfl rfl (tP vH) (rI vH) ?_)
      refine XK.nil (gC (aY ?_))
      refine rG ?_
      obtain ⟨oP,h⟩:=gG h
      refine xs 47 rfl (bY (a:=jj) (b:=(1:Int)) rfl rfl rfl oP ?_)
      refine xm 36 (pI (jj+(1:Int))) ?_
      refine XK.nz ?_
      exact ⟨Mf,by omega,⟨aF [(0,pS s0),(2, .aK 0 0),(4, .aK 1 0),(6, .aK 2 0),(7, .aK 3 0),(36,pI (jj+(1:Int)))],aj [.var (([pI (0), .full (([]:(List UInt8)).map U),pS ([]:List UInt8)])++(((aE.rep 16 ([]:(List UInt8))).1.map eS).map PV.d)), .var [pB w7,pS w8, .d (.slice (ot.map bu))], .var (([pI (0), .full (([]:(List UInt8)).map U),pS ([]:List UInt8)])++(((aE.rep 16 ([]:(List UInt8))).1.map eS).map PV.d)), .var (((yt.put jj x_13).1.map eS).map .d)],4,[]⟩,View.mk 4 [0,1,2,3] _ _ _ rfl rfl (by decide) (iC (iC (iC (iC (iC (iC trivial)))))) (And.intro (by simp only [cF,eR,PV.bR];rfl) (And.intro rfl (And.intro (by simp only [cF,eR,PV.bR];rfl) (And.intro (by simp only [cF,bB,PV.bR];rfl) trivial)))) rfl zL rfl,(jj+(1:Int)),w7,w8,ot,(yt.put jj x_13),by omega,jG h,rfl⟩
     ·replace h:=eY h vL
      refine QW.exit zL (eA (eA (jY (aY ?_))))
      refine rG ?_
      refine XK.as (some 48) rfl rfl (bx (v:= .agg ((yt.1.map eS).map .d)) rfl TT.KE rfl rfl (kE (by decide)) ⟨.d (.agg (yt.1.map eS)),ia,?_⟩)
      obtain ⟨x_17,Ck,h⟩:=bG h
      refine xs 49 rfl (aA rfl rfl TT.Ma rfl (Eb yt _ Ck) ?_)
      refine XK.st none rfl rfl (bw (c:=(([pI (x_17.aW), .d (.slice ((x_17.az).map U)),pS (x_17.ay)])++(((x_17.aT).1.map eS).map PV.d))) (l':=(([pI (x_17.aW), .d (.slice ((x_17.az).map U)),pS (x_17.ay)])++(((x_17.aT).1.map eS).map PV.d))) rfl TT.dY rfl rfl rfl rfl (show (cNode x_17).map PV.d=_ by simp only [cNode,List.map_append];rfl) (aD (A:=[pI (x_17.aW), .d (.slice ((x_17.az).map U)),pS (x_17.ay)]) (b:=16) rfl (aq _) rfl) (bX (aD (A:=[pI (0), .full (([]:(List UInt8)).map U),pS ([]:List UInt8)]) (b:=16) rfl (aq _) rfl) bL) (cT ((aD (A:=[pI (0), .full (([]:(List UInt8)).map U),pS ([]:List UInt8)]) (b:=16) rfl (aq _) rfl).trans (aD (A:=[pI (x_17.aW), .d (.slice ((x_17.az).map U)),pS (x_17.ay)]) (b:=16) rfl (aq _) rfl).symm)) ?_)
      refine XK.nil (gC (aY ?_))
      exact ⟨⟨aF [(0,pS s0),(2, .aK 0 0),(6, .aK 1 0)],aj [.var (([pI (0), .full (([]:(List UInt8)).map U),pS ([]:List UInt8)])++(((aE.rep 16 ([]:(List UInt8))).1.map eS).map PV.d)), .var (([pI (x_17.aW), .d (.slice ((x_17.az).map U)),pS (x_17.ay)])++(((x_17.aT).1.map eS).map PV.d))],2,[]⟩,View.mk 2 [0,2] _ _ _ rfl rfl (by decide) (iC (iC (iC trivial))) (And.intro (by simp only [cF,eR,PV.bR];rfl) (And.intro (by simp only [cF,eR,PV.bR];rfl) trivial)) rfl zL rfl,x_17.aW,x_17.az,x_17.ay,x_17.aT,Mf,by omega,jG h,rfl⟩
    ·replace h:=eY h oU
     refine QW.skip zL (gC (aY ?_))
     exact ⟨⟨aF [(0,pS s0),(2, .aK 0 0),(6, .aK 1 0)],aj [.var (([pI (0), .full (([]:(List UInt8)).map U),pS ([]:List UInt8)])++(((aE.rep 16 ([]:(List UInt8))).1.map eS).map PV.d)), .var (([pI (0), .d (.slice (([]:(List UInt8)).map U)),pS ([]:List UInt8)])++(((aE.rep 16 ([]:(List UInt8))).1.map eS).map PV.d))],2,[]⟩,View.trans (View.SB 2 1 rfl (Jf rfl) rfl (Jg bL rfl) zL) (View.mk 2 [0,2] _ _ _ rfl rfl (by decide) (iC (iC (iC trivial))) (And.intro (by simp only [cF,eR,PV.bR];rfl) (And.intro (by simp only [cF,eR,PV.bR];rfl) trivial)) rfl zL rfl),0,([]:(List UInt8)),([]:List UInt8),(aE.rep 16 ([]:(List UInt8))),c8,by omega,jG h,rfl⟩
  ·rintro _ ⟨p8,p9,cS,k6,aa3,aa4,h,rfl⟩
   obtain ⟨abQ,rfl,h9⟩:=aQ h;replace h:=h9;clear h9;rw [fM] at h
   refine QW.seq ?_
   refine sR ?_
   refine XK.as (some 51) rfl rfl (bx (v:= .agg (([pI p8, .d (.slice (p9.map U)),pS cS])++((k6.1.map eS).map PV.d))) rfl TT.dY rfl rfl (fO (aD (A:=[pI p8, .d (.slice (p9.map U)),pS cS]) (b:=16) rfl (aq _) rfl) (Nat.succ_pos _)) ⟨.d (.agg (cNode (⟨p8,p9,cS,k6⟩:Node))),(iy.cW (oI (mj rfl cA))),?_⟩)
   obtain ⟨x_20,yY,h⟩:=bG h
   refine xs 52 rfl (aA rfl rfl TT.GP rfl (Ap self fP (⟨p8,p9,cS,k6⟩:Node) _ yY) ?_)
   refine xm 50 (.d (.tuple [.val (sV (x_20.1)), .val (.int .i64 (x_20.2))])) ?_
   refine xs 53 rfl (bz rfl rfl rfl ?_)
   refine xs 54 rfl (bz rfl rfl rfl ?_)
   refine xa 9 (pS (x_20.1)) ?_
   refine xz 10 (pI (x_20.2)) ?_
   refine sR ?_
   refine xm 55 (pI (x_20.2)) ?_
   refine xs 56 rfl (oa (a:=(x_20.2)) (b:=(0:Int)) rfl rfl rfl ?_)
   refine xm 57 (pB (!decide ((x_20.2)=(0:Int)))) ?_
   refine xg 58 (pS (x_20.1)) rfl rfl (fun hg=>au (v:=pS (x_20.1)) rfl rfl g3) ?_
   refine xg 59 (pS s0) rfl rfl (fun hg=>au (v:=pS s0) rfl rfl g3) ?_
   refine xg 60 (pB (!(x_20.1==s0))) rfl rfl (fun hg=>uP (a:=x_20.1) (b:=s0) rfl rfl rfl g3) ?_
   refine xs 61 rfl (gL rfl rfl rfl rfl (fun _=>rfl) (fun hb=>by rw [hb];rfl) ?_)
   refine XK.nz ?_
   refine QW.cond (t:=((!decide ((x_20.2)=(0:Int)))||(!(x_20.1==s0)))) rfl zL (fun Of=>?_) (fun Of=>?_)
   ·replace h:=eX h Of
    refine sR ?_
    refine xs 62 rfl (fk (v:= .agg (([pI (0), .full (([]:(List UInt8)).map U),pS ([]:List UInt8)])++(((aE.rep 16 ([]:(List UInt8))).1.map eS).map PV.d))) rfl TT.oO (dM rfl dL) ?_)
    refine XK.st none rfl rfl (bw (c:=(([pI (0), .full (([]:(List UInt8)).map U),pS ([]:List UInt8)])++(((aE.rep 16 ([]:(List UInt8))).1.map eS).map PV.d))) (l':=(([pI (0), .full (([]:(List UInt8)).map U),pS ([]:List UInt8)])++(((aE.rep 16 ([]:(List UInt8))).1.map eS).map PV.d))) rfl TT.dY rfl rfl rfl rfl rfl (aD (A:=[pI (0), .full (([]:(List UInt8)).map U),pS ([]:List UInt8)]) (b:=16) rfl (aq _) rfl) (bX (aD (A:=[pI (0), .full (([]:(List UInt8)).map U),pS ([]:List UInt8)]) (b:=16) rfl (aq _) rfl) bL) (cT ((aD (A:=[pI (0), .full (([]:(List UInt8)).map U),pS ([]:List UInt8)]) (b:=16) rfl (aq _) rfl).trans (aD (A:=[pI (0), .full (([]:(List UInt8)).map U),pS ([]:List UInt8)]) (b:=16) rfl (aq _) rfl).symm)) ?_)
    refine xz 3 (pI (6)) ?_
    refine QW.ret zL (eC ?_)
    obtain rfl:=sG h
    exact Ends.more (.inr rfl) rfl (ps:=[.agg (([pI (0), .full (([]:(List UInt8)).map U),pS ([]:List UInt8)])++(((aE.rep 16 ([]:(List UInt8))).1.map eS).map PV.d)),pI (6)]) (And.intro (aG.cell rfl rfl TT.dY (fO (aD (A:=[pI (0), .full (([]:(List UInt8)).map U),pS ([]:List UInt8)]) (b:=16) rfl (aq _) rfl) (Nat.succ_pos _))) (And.intro (aG.tmp rfl) trivial)) (by simp only [PV.cW,PV.eg,iM,cA,Option.bind_some,Option.map_some,cNode]<;>rfl) rfl
   ·replace h:=eY h Of
    refine QW.skip zL (aY ?_)
    refine sR ?_
    refine XK.as (some 63) rfl rfl (bx (v:= .agg (([pI p8, .d (.slice (p9.map U)),pS cS])++((k6.1.map eS).map PV.d))) rfl TT.dY rfl rfl (fO (aD (A:=[pI p8, .d (.slice (p9.map U)),pS cS]) (b:=16) rfl (aq _) rfl) (Nat.succ_pos _)) ⟨.d (.agg (cNode (⟨p8,p9,cS,k6⟩:Node))),(iy.cW (oI (mj rfl cA))),?_⟩)
    refine XK.st none rfl rfl (bw (c:=(([pI p8, .d (.slice (p9.map U)),pS cS])++((k6.1.map eS).map PV.d))) (l':=(([pI p8, .d (.slice (p9.map U)),pS cS])++((k6.1.map eS).map PV.d))) rfl TT.dY rfl rfl rfl rfl (show (cNode (⟨p8,p9,cS,k6⟩:Node)).map PV.d=_ by simp only [cNode,List.map_append];rfl) (aD (A:=[pI p8, .d (.slice (p9.map U)),pS cS]) (b:=16) rfl (aq _) rfl) (bX (aD (A:=[pI (0), .full (([]:(List UInt8)).map U),pS ([]:List UInt8)]) (b:=16) rfl (aq _) rfl) bL) (cT ((aD (A:=[pI (0), .full (([]:(List UInt8)).map U),pS ([]:List UInt8)]) (b:=16) rfl (aq _) rfl).trans (aD (A:=[pI p8, .d (.slice (p9.map U)),pS cS]) (b:=16) rfl (aq _) rfl).symm)) ?_)
    refine xz 3 (pI (0)) ?_
    refine QW.ret zL ?_
    obtain rfl:=sG h
    exact Ends.more (.inr rfl) rfl (ps:=[.agg (([pI p8, .d (.slice (p9.map U)),pS cS])++((k6.1.map eS).map PV.d)),pI (0)]) (And.intro (aG.cell rfl rfl TT.dY (fO (aD (A:=[pI p8, .d (.slice (p9.map U)),pS cS]) (b:=16) rfl (aq _) rfl) (Nat.succ_pos _))) (And.intro (aG.tmp rfl) trivial)) (by simp only [PV.cW,PV.eg,iM,cA,Option.bind_some,Option.map_some,cNode]<;>rfl) rfl
noncomputable def eO (self:(List UInt8)→Option Bool) (s0:(List UInt8)):Option Bool:=
  (bif ((s0==([]:List UInt8))||(decide ((s0.length:Int)=(32:Int)))) then
  some true
  else
  ((rU self s0).bind fun (x_2:(Node×Int))=>
  some ((decide ((s0.length:Int)<(32:Int)))&&(decide ((x_2.2)=(0:Int))))))
theorem Aq (self:(List UInt8)→Option Bool) (fP:∀ (y0:(List UInt8)) (rr:Bool),self y0=some rr→bE Tryz.prog 72 [.val (sV y0)] (.val (.bool rr))) (s0:(List UInt8)) (r:Bool) (h:eO self s0=some r):bE Tryz.prog 72 [.val (sV s0)] (.val (.bool r)):=by
 refine bE.aU Tryz.func72 rfl (by simp [Tryz.ntmps72]) ?_
 rw [Tryz.ntmps72,TT.Vm]
 refine QW.view (s':=⟨aF [(0,pS s0)],aj [],0,[]⟩) (View.init (by rfl)) zL ?_
 unfold eO at h
 refine sR ?_
 refine xz 2 (pB false) ?_
 refine QW.seq ?_
 refine sR ?_
 refine xm 5 (pS s0) ?_
 refine xs 6 rfl (qk (a:=s0) (b:=([]:List UInt8)) rfl rfl rfl ?_)
 refine xm 7 (pB (s0==([]:List UInt8))) ?_
 refine xg 8 (pS s0) rfl rfl (fun hg=>au (v:=pS s0) rfl rfl g3) ?_
 refine xg 9 (pI (s0.length:Int)) rfl rfl (fun hg=>gB (l:=s0) rfl TT.bZ rfl g3) ?_
 refine xg 10 (pB (decide ((s0.length:Int)=(32:Int)))) rfl rfl (fun hg=>ej (a:=(s0.length:Int)) (b:=(32:Int)) rfl rfl rfl g3) ?_
 refine xs 11 rfl (gL rfl rfl rfl rfl (fun _=>rfl) (fun hb=>by rw [hb];rfl) ?_)
 refine XK.nz ?_
 refine QW.cond (t:=((s0==([]:List UInt8))||(decide ((s0.length:Int)=(32:Int))))) rfl zL (fun dm=>?_) (fun dm=>?_)
 ·replace h:=bT h dm
  refine sR ?_
  refine xz 2 (pB true) ?_
  refine QW.ret zL (eC ?_)
  obtain rfl:=sO h
  exact Ends.one (.inr rfl) rfl (aG.tmp rfl) rfl rfl
 ·replace h:=bF h dm
  refine QW.skip zL (aY ?_)
  refine sR ?_
  refine xm 13 (pS s0) ?_
  obtain ⟨x_2,nD,h⟩:=bO h
  refine xs 14 rfl (aA rfl rfl TT.Od rfl (G1 self fP s0 _ nD) ?_)
  refine xm 12 (.d (.tuple [.agg (cNode (x_2.1)), .val (.int .i64 (x_2.2))])) ?_
  refine xs 15 rfl (bz rfl rfl rfl ?_)
  refine xs 16 rfl (bz rfl rfl rfl ?_)
  refine xs 3 rfl (bP (l:=(([pI (0), .full (([]:(List UInt8)).map U),pS ([]:List UInt8)])++(((aE.rep 16 ([]:(List UInt8))).1.map eS).map PV.d))) rfl TT.j9 rfl rfl ?_)
  refine XK.st none rfl rfl (bw (c:=(([pI ((x_2.1).aW), .d (.slice (((x_2.1).az).map U)),pS ((x_2.1).ay)])++((((x_2.1).aT).1.map eS).map PV.d))) (l':=(([pI ((x_2.1).aW), .d (.slice (((x_2.1).az).map U)),pS ((x_2.1).ay)])++((((x_2.1).aT).1.map eS).map PV.d))) rfl TT.dY rfl rfl rfl rfl (show (cNode (x_2.1)).map PV.d=_ by simp only [cNode,List.map_append];rfl) (aD (A:=[pI ((x_2.1).aW), .d (.slice (((x_2.1).az).map U)),pS ((x_2.1).ay)]) (b:=16) rfl (aq _) rfl) (bX (aD (A:=[pI (0), .full (([]:(List UInt8)).map U),pS ([]:List UInt8)]) (b:=16) rfl (aq _) rfl) bL) (cT ((aD (A:=[pI (0), .full (([]:(List UInt8)).map U),pS ([]:List UInt8)]) (b:=16) rfl (aq _) rfl).trans (aD (A:=[pI ((x_2.1).aW), .d (.slice (((x_2.1).az).map U)),pS ((x_2.1).ay)]) (b:=16) rfl (aq _) rfl).symm)) ?_)
  refine xz 4 (pI (x_2.2)) ?_
  refine sR ?_
  refine xm 17 (pS s0) ?_
  refine xs 18 rfl (gB (l:=s0) rfl TT.bZ rfl ?_)
  refine xs 19 rfl (cK (a:=(s0.length:Int)) (b:=(32:Int)) rfl rfl rfl ?_)
  refine xm 20 (pB (decide ((s0.length:Int)<(32:Int)))) ?_
  refine xg 21 (pI (x_2.2)) rfl rfl (fun hg=>au (v:=pI (x_2.2)) rfl rfl g3) ?_
  refine xg 22 (pB (decide ((x_2.2)=(0:Int)))) rfl rfl (fun hg=>ej (a:=(x_2.2)) (b:=(0:Int)) rfl rfl rfl g3) ?_
  refine xs 23 rfl (gK rfl rfl rfl rfl (fun hb=>by rw [hb];rfl) (fun _=>rfl) ?_)
  refine xz 2 (pB ((decide ((s0.length:Int)<(32:Int)))&&(decide ((x_2.2)=(0:Int))))) ?_
  refine QW.ret zL ?_
  obtain rfl:=sO h
  exact Ends.one (.inr rfl) rfl (aG.tmp rfl) rfl rfl
noncomputable def dZ:Nat→(List UInt8)→Option Bool
 | 0=>fun _=>none
 | n+1=>fun y0=>eO (dZ n) y0
theorem tX:∀ (n:Nat) (y0:(List UInt8)) (rr:Bool),dZ n y0=some rr→bE Tryz.prog 72 [.val (sV y0)] (.val (.bool rr))
 | 0,_,_,h=>by cases h
 | n+1,y0,rr,h=>Aq (dZ n) (tX n) y0 rr h
noncomputable def mG (y0:(List UInt8)):Option Bool:=wX (fun n=>dZ n y0)
theorem Bp (y0:(List UInt8)) (rr:Bool) (h:mG y0=some rr):bE Tryz.prog 72 [.val (sV y0)] (.val (.bool rr)):=by
 obtain ⟨n,hn⟩:=nY h
 exact tX n y0 rr hn
noncomputable def Ar (n0:Node):Option ((List UInt8)×Int):=uU mG n0
theorem ID (n0:Node) (r:((List UInt8)×Int)) (h:Ar n0=some r):bE Tryz.prog 30 [.agg (cNode n0)] (.tuple [.val (sV (r.1)), .val (.int .i64 (r.2))]):=Ap mG Bp n0 r h
end Go.Proofs.YtlfjfoknbjcncaaGreat.K
namespace Go.Proofs.YtlfjfoknbjcncaaGreat.K
open Go Go.RowKit
set_option linter.unusedSimpArgs false
set_option linter.unusedVariables false
set_option maxRecDepth 20000
set_option maxHeartbeats 4000000
namespace TT
theorem Jo:mu Tryz.prog 110=some (32,1,false):=by kernel_rfl
theorem fU:mu Tryz.prog 132=some (8,1,false):=by kernel_rfl
theorem rq:mu Tryz.prog 152=some (64,1,false):=by kernel_rfl
theorem Jp:mu Tryz.prog 161=some (8,1,false):=by kernel_rfl
theorem A6:pX Tryz.prog 132=some ([Value.int IntKind.u32 0,Value.int IntKind.u32 0,Value.int IntKind.u32 0,Value.int IntKind.u32 0,Value.int IntKind.u32 0,Value.int IntKind.u32 0,Value.int IntKind.u32 0,Value.int IntKind.u32 0], .inr 1):=by kernel_rfl
theorem Jq:pX Tryz.prog 152=some ([Value.int IntKind.u32 0,Value.int IntKind.u32 0,Value.int IntKind.u32 0,Value.int IntKind.u32 0,Value.int IntKind.u32 0,Value.int IntKind.u32 0,Value.int IntKind.u32 0,Value.int IntKind.u32 0,Value.int IntKind.u32 0,Value.int IntKind.u32 0,Value.int IntKind.u32 0,Value.int IntKind.u32 0,Value.int IntKind.u32 0,Value.int IntKind.u32 0,Value.int IntKind.u32 0,Value.int IntKind.u32 0,Value.int IntKind.u32 0,Value.int IntKind.u32 0,Value.int IntKind.u32 0,Value.int IntKind.u32 0,Value.int IntKind.u32 0,Value.int IntKind.u32 0,Value.int IntKind.u32 0,Value.int IntKind.u32 0,Value.int IntKind.u32 0,Value.int IntKind.u32 0,Value.int IntKind.u32 0,Value.int IntKind.u32 0,Value.int IntKind.u32 0,Value.int IntKind.u32 0,Value.int IntKind.u32 0,Value.int IntKind.u32 0,Value.int IntKind.u32 0,Value.int IntKind.u32 0,Value.int IntKind.u32 0,Value.int IntKind.u32 0,Value.int IntKind.u32 0,Value.int IntKind.u32 0,Value.int IntKind.u32 0,Value.int IntKind.u32 0,Value.int IntKind.u32 0,Value.int IntKind.u32 0,Value.int IntKind.u32 0,Value.int IntKind.u32 0,Value.int IntKind.u32 0,Value.int IntKind.u32 0,Value.int IntKind.u32 0,Value.int IntKind.u32 0,Value.int IntKind.u32 0,Value.int IntKind.u32 0,Value.int IntKind.u32 0,Value.int IntKind.u32 0,Value.int IntKind.u32 0,Value.int IntKind.u32 0,Value.int IntKind.u32 0,Value.int IntKind.u32 0,Value.int IntKind.u32 0,Value.int IntKind.u32 0,Value.int IntKind.u32 0,Value.int IntKind.u32 0,Value.int IntKind.u32 0,Value.int IntKind.u32 0,Value.int IntKind.u32 0,Value.int IntKind.u32 0], .inr 1):=by kernel_rfl
theorem Mg:aN Tryz.prog 102=true:=by kernel_rfl
theorem Mh:aN Tryz.prog 103=true:=by kernel_rfl
theorem Mi:aN Tryz.prog 104=true:=by kernel_rfl
theorem w9:aN Tryz.prog 105=true:=by kernel_rfl
theorem Mj:aN Tryz.prog 111=true:=by kernel_rfl
theorem tY:aN Tryz.prog 112=true:=by kernel_rfl
theorem Mk:aN Tryz.prog 113=true:=by kernel_rfl
theorem Og:aN Tryz.prog 63=true:=by kernel_rfl
theorem Oh:aN Tryz.prog 64=true:=by kernel_rfl
theorem Oi:aN Tryz.prog 87=true:=by kernel_rfl
theorem Oj:aN Tryz.prog 88=true:=by kernel_rfl
theorem Ok:aN Tryz.prog 89=true:=by kernel_rfl
theorem To:Tryz.f102.results.toList=[.tmp 4]:=rfl
theorem Tp:Tryz.f103.results.toList=[.cell 2 152]:=rfl
theorem Tq:Tryz.f104.results.toList=[.cell 0 152]:=rfl
theorem Tt:Tryz.f105.results.toList=[.tmp 10]:=rfl
theorem Tu:Tryz.f111.results.toList=[.tmp 2]:=rfl
theorem Tv:Tryz.f112.results.toList=[.tmp 3]:=rfl
theorem Tw:Tryz.f113.results.toList=[.tmp 4]:=rfl
theorem Vx:Tryz.f35.results.toList=[.tmp 2]:=rfl
theorem Vy:Tryz.f63.results.toList=[.tmp 2]:=rfl
theorem Vz:Tryz.f64.results.toList=[.cell 2 110]:=rfl
theorem VA:Tryz.f87.results.toList=[.cell 0 132]:=rfl
theorem VB:Tryz.f88.results.toList=[.tmp 2]:=rfl
theorem VC:Tryz.f89.results.toList=[.cell 4 132]:=rfl
theorem QK:l6 Tryz.prog 110=none:=by kernel_rfl
theorem fV:l6 Tryz.prog 132=none:=by kernel_rfl
theorem ru:l6 Tryz.prog 152=none:=by kernel_rfl
theorem QL:l6 Tryz.prog 161=none:=by kernel_rfl
theorem G2:jC Tryz.prog 110=some (true,32):=by kernel_rfl
theorem eK:jC Tryz.prog 131=some (false,1):=by kernel_rfl
theorem oV:jC Tryz.prog 132=some (true,8):=by kernel_rfl
theorem vP:jC Tryz.prog 152=some (true,64):=by kernel_rfl
theorem Ol:Program.underlying Tryz.prog 110=some (.array 32 5):=by kernel_rfl
theorem s4:Program.underlying Tryz.prog 112=some (.int .u64):=by kernel_rfl
theorem vQ:Program.underlying Tryz.prog 131=some (.int .u32):=by kernel_rfl
theorem QM:Program.underlying Tryz.prog 97=some (.int .u64):=by kernel_rfl
theorem G3:lG Tryz.prog 110=some [Value.int IntKind.u8 0,Value.int IntKind.u8 0,Value.int IntKind.u8 0,Value.int IntKind.u8 0,Value.int IntKind.u8 0,Value.int IntKind.u8 0,Value.int IntKind.u8 0,Value.int IntKind.u8 0,Value.int IntKind.u8 0,Value.int IntKind.u8 0,Value.int IntKind.u8 0,Value.int IntKind.u8 0,Value.int IntKind.u8 0,Value.int IntKind.u8 0,Value.int IntKind.u8 0,Value.int IntKind.u8 0,Value.int IntKind.u8 0,Value.int IntKind.u8 0,Value.int IntKind.u8 0,Value.int IntKind.u8 0,Value.int IntKind.u8 0,Value.int IntKind.u8 0,Value.int IntKind.u8 0,Value.int IntKind.u8 0,Value.int IntKind.u8 0,Value.int IntKind.u8 0,Value.int IntKind.u8 0,Value.int IntKind.u8 0,Value.int IntKind.u8 0,Value.int IntKind.u8 0,Value.int IntKind.u8 0,Value.int IntKind.u8 0]:=by kernel_rfl
theorem y3:lG Tryz.prog 132=some [Value.int IntKind.u32 0,Value.int IntKind.u32 0,Value.int IntKind.u32 0,Value.int IntKind.u32 0,Value.int IntKind.u32 0,Value.int IntKind.u32 0,Value.int IntKind.u32 0,Value.int IntKind.u32 0]:=by kernel_rfl
theorem vR:lG Tryz.prog 152=some [Value.int IntKind.u32 0,Value.int IntKind.u32 0,Value.int IntKind.u32 0,Value.int IntKind.u32 0,Value.int IntKind.u32 0,Value.int IntKind.u32 0,Value.int IntKind.u32 0,Value.int IntKind.u32 0,Value.int IntKind.u32 0,Value.int IntKind.u32 0,Value.int IntKind.u32 0,Value.int IntKind.u32 0,Value.int IntKind.u32 0,Value.int IntKind.u32 0,Value.int IntKind.u32 0,Value.int IntKind.u32 0,Value.int IntKind.u32 0,Value.int IntKind.u32 0,Value.int IntKind.u32 0,Value.int IntKind.u32 0,Value.int IntKind.u32 0,Value.int IntKind.u32 0,Value.int IntKind.u32 0,Value.int IntKind.u32 0,Value.int IntKind.u32 0,Value.int IntKind.u32 0,Value.int IntKind.u32 0,Value.int IntKind.u32 0,Value.int IntKind.u32 0,Value.int IntKind.u32 0,Value.int IntKind.u32 0,Value.int IntKind.u32 0,Value.int IntKind.u32 0,Value.int IntKind.u32 0,Value.int IntKind.u32 0,Value.int IntKind.u32 0,Value.int IntKind.u32 0,Value.int IntKind.u32 0,Value.int IntKind.u32 0,Value.int IntKind.u32 0,Value.int IntKind.u32 0,Value.int IntKind.u32 0,Value.int IntKind.u32 0,Value.int IntKind.u32 0,Value.int IntKind.u32 0,Value.int IntKind.u32 0,Value.int IntKind.u32 0,Value.int IntKind.u32 0,Value.int IntKind.u32 0,Value.int IntKind.u32 0,Value.int IntKind.u32 0,Value.int IntKind.u32 0,Value.int IntKind.u32 0,Value.int IntKind.u32 0,Value.int IntKind.u32 0,Value.int IntKind.u32 0,Value.int IntKind.u32 0,Value.int IntKind.u32 0,Value.int IntKind.u32 0,Value.int IntKind.u32 0,Value.int IntKind.u32 0,Value.int IntKind.u32 0,Value.int IntKind.u32 0,Value.int IntKind.u32 0]:=by kernel_rfl
theorem Om:lG Tryz.prog 161=some [Value.int IntKind.u8 0,Value.int IntKind.u8 0,Value.int IntKind.u8 0,Value.int IntKind.u8 0,Value.int IntKind.u8 0,Value.int IntKind.u8 0,Value.int IntKind.u8 0,Value.int IntKind.u8 0]:=by kernel_rfl
end TT
noncomputable def y4:Option (aE 8 (BitVec 32)):=
  some (⟨[(1779033703:BitVec 32),(3144134277:BitVec 32),(1013904242:BitVec 32),(2773480762:BitVec 32),(1359893119:BitVec 32),(2600822924:BitVec 32),(528734635:BitVec 32),(1541459225:BitVec 32)],rfl⟩:(aE 8 (BitVec 32)))
theorem G4 (r:(aE 8 (BitVec 32))) (h:y4=some r):bE Tryz.prog 87 [] (.agg (r.1.map eG)):=by
 refine bE.aU Tryz.func87 rfl (by simp [Tryz.ntmps87]) ?_
 rw [Tryz.ntmps87,TT.VA]
 refine QW.view (s':=⟨aF [],aj [],0,[]⟩) (View.init (by rfl)) zL ?_
 unfold y4 at h
 refine sR ?_
 refine xs 0 rfl (bP (l:=(((aE.rep 8 (0:BitVec 32)).1.map eG).map .d)) rfl TT.y3 rfl rfl ?_)
 refine XK.nz ?_
 refine sR ?_
 refine XK.as (some 1) rfl rfl (u5 (v:= .agg [.d (.val (.int .u32 ((1779033703:BitVec 32).toNat:Int))), .d (.val (.int .u32 ((3144134277:BitVec 32).toNat:Int))), .d (.val (.int .u32 ((1013904242:BitVec 32).toNat:Int))), .d (.val (.int .u32 ((2773480762:BitVec 32).toNat:Int))), .d (.val (.int .u32 ((1359893119:BitVec 32).toNat:Int))), .d (.val (.int .u32 ((2600822924:BitVec 32).toNat:Int))), .d (.val (.int .u32 ((528734635:BitVec 32).toNat:Int))), .d (.val (.int .u32 ((1541459225:BitVec 32).toNat:Int)))]) rfl (by rw [TT.A6];simp [k8,k7,placeOf,og,aB,PV.cz,PV.g8,Value.oneCell',lX,nG,dK,List.all,cu,aF,jz,iL,bV,jP]) (by rw [TT.A6];rfl) ⟨.d (.agg ((⟨[(1779033703:BitVec 32),(3144134277:BitVec 32),(1013904242:BitVec 32),(2773480762:BitVec 32),(1359893119:BitVec 32),(2600822924:BitVec 32),(528734635:BitVec 32),(1541459225:BitVec 32)],rfl⟩:(aE 8 (BitVec 32))).1.map eG)),(iy.cW rfl),?_⟩)
 refine XK.st none rfl rfl (bw (l':=(((⟨[(1779033703:BitVec 32),(3144134277:BitVec 32),(1013904242:BitVec 32),(2773480762:BitVec 32),(1359893119:BitVec 32),(2600822924:BitVec 32),(528734635:BitVec 32),(1541459225:BitVec 32)],rfl⟩:(aE 8 (BitVec 32))).1.map eG).map .d)) rfl TT.oV rfl rfl rfl rfl rfl (aq _) (nT _) (cT ((aq _).trans (aq _).symm)) ?_)
 refine XK.nz ?_
 refine QW.ret zL ?_
 obtain rfl:=sO h
 exact Ends.one (.inr rfl) rfl (aG.cell rfl rfl TT.oV (kE (by decide))) (oI cA) rfl
inductive E3 where
 | S
 | L1 (jb:(BitVec 64)) (j4:Int) (v5:(aE 8 UInt8))
noncomputable def kK (n0:(BitVec 64)) (g9:Int):E3→Option (E3⊕(List UInt8))
 | .S=>
  some (.inl (.L1 n0 (0) (aE.rep 8 (0:UInt8))))
 | .L1 jb j4 v5=>
  (bif (decide (j4<(e8 (gQ g9 (0:Int)) (8:Int)))) then
  gO (0≤j4∧j4<((8:Nat):Int)) (
  gO (bA (j4+(1:Int))) (
  some (.inl (.L1 (oJ jb (8:Int)) (j4+(1:Int)) (v5.put j4 (gb (jb.toNat:Int)))))))
  else
  gO (0≤(0:Int)∧(0:Int)≤(e8 (gQ g9 (0:Int)) (8:Int))∧(e8 (gQ g9 (0:Int)) (8:Int))≤((8:Nat):Int)) (
  some (.inr (sub v5.1 0 (e8 (gQ g9 (0:Int)) (8:Int))))))
noncomputable def xd (n0:(BitVec 64)) (g9:Int):Option (List UInt8):=gU (kK n0 g9) .S
theorem IE (n0:(BitVec 64)) (g9:Int) (r:(List UInt8)) (h:xd n0 g9=some r):bE Tryz.prog 102 [.val (.int .u64 (n0.toNat:Int)), .val (.int .i64 g9)] (.val (sV r)):=by
 refine bE.aU Tryz.func102 rfl (by simp [Tryz.ntmps102]) ?_
 rw [Tryz.ntmps102,TT.To]
 refine QW.view (s':=⟨aF [(0, .d (.val (.int .u64 (n0.toNat:Int)))),(1,pI g9)],aj [],0,[]⟩) (View.init (by rfl)) zL ?_
 replace h:=cG h
 obtain ⟨_,h⟩:=h
 obtain ⟨c8,rfl,h9⟩:=aQ h;replace h:=h9;clear h9;rw [kK] at h
 refine sR ?_
 refine xz 4 (pS ([]:List UInt8)) ?_
 refine sR ?_
 refine xs 5 rfl (bP (l:=(((aE.rep 8 (0:UInt8)).1.map U).map .d)) rfl TT.Om rfl rfl ?_)
 refine XK.nz ?_
 refine sR ?_
 refine xm 8 (pI g9) ?_
 refine xs 9 rfl (Po (a:=g9) (b:=(0:Int)) rfl rfl rfl ?_)
 refine xs 10 rfl (FK (a:=(gQ g9 (0:Int))) (b:=(8:Int)) rfl rfl rfl ?_)
 refine xz 6 (pI (e8 (gQ g9 (0:Int)) (8:Int))) ?_
 refine QW.seq ?_
 refine sR ?_
 refine xm 11 (pI (e8 (gQ g9 (0:Int)) (8:Int))) ?_
 refine xm 12 (pI (0)) ?_
 refine XK.nz ?_
 refine QW.block ?_
 refine QW.loop (fun k σ=>∃ jb:(BitVec 64),∃ j4:Int,∃ v5:(aE 8 UInt8),k≤c8∧run (kK n0 g9) k (.L1 jb j4 v5)=some r∧σ=⟨aF [(0, .d (.val (.int .u64 (jb.toNat:Int)))),(5, .aK 0 0),(6,pI (e8 (gQ g9 (0:Int)) (8:Int))),(11,pI (e8 (gQ g9 (0:Int)) (8:Int))),(12,pI j4)],aj [.var ((v5.1.map U).map .d)],1,[]⟩) c8 zL ⟨⟨aF [(0, .d (.val (.int .u64 (n0.toNat:Int)))),(5, .aK 0 0),(6,pI (e8 (gQ g9 (0:Int)) (8:Int))),(11,pI (e8 (gQ g9 (0:Int)) (8:Int))),(12,pI (0))],aj [.var (((aE.rep 8 (0:UInt8)).1.map U).map .d)],1,[]⟩,View.mk 1 [0] _ _ _ rfl rfl (by decide) (iC (iC (iC (iC (iC trivial))))) (And.intro (by simp only [cF,bB,PV.bR];rfl) trivial) rfl zL rfl,n0,0,(aE.rep 8 (0:UInt8)),Nat.le_refl _,jG h,rfl⟩ ?_
 rintro pZ _ ⟨jb,j4,v5,p4,h,rfl⟩
 obtain ⟨k_1,rfl,h9⟩:=aQ h;replace h:=h9;clear h9;rw [kK] at h
 refine sR ?_
 refine xs 13 rfl (cK (a:=j4) (b:=(e8 (gQ g9 (0:Int)) (8:Int))) rfl rfl rfl ?_)
 refine XK.nz ?_
 refine QW.seq ?_
 refine QW.cond (t:=(decide (j4<(e8 (gQ g9 (0:Int)) (8:Int))))) rfl zL (fun cv=>?_) (fun cv=>?_)
 ·replace h:=eX h cv
  refine QW.skip zL (aY ?_)
  refine QW.seq ?_
  refine QW.block ?_
  refine sR ?_
  refine xm 14 (pI j4) ?_
  refine xz 7 (pI j4) ?_
  refine sR ?_
  refine xm 15 (pI j4) ?_
  refine xm 16 (.d (.val (.int .u64 (jb.toNat:Int)))) ?_
  refine xs 17 rfl (nR (n:=(jb.toNat:Int)) rfl TT.s4 TT.dV rfl ?_)
  obtain ⟨dP,h⟩:=gG h
  refine xs 18 rfl (cX (i:=j4) rfl TT.QL TT.Jp rfl rfl dP ?_)
  refine XK.st none rfl rfl (bw (l':=(((v5.put j4 (gb (jb.toNat:Int))).1.map U).map .d)) rfl TT.kG rfl rfl rfl rfl rfl rfl (tP dP) (rI dP) ?_)
  refine XK.nz ?_
  refine rG ?_
  refine xm 19 (.d (.val (.int .u64 (jb.toNat:Int)))) ?_
  refine xs 20 rfl (A4 (a:=jb) (c:=(8:Int)) rfl rfl rfl (by decide) ?_)
  refine xa 0 (.d (.val (.int .u64 ((oJ jb (8:Int)).toNat:Int)))) ?_
  refine XK.nil (gC (aY ?_))
  refine rG ?_
  obtain ⟨lY,h⟩:=gG h
  refine xs 21 rfl (bY (a:=j4) (b:=(1:Int)) rfl rfl rfl lY ?_)
  refine xm 12 (pI (j4+(1:Int))) ?_
  refine XK.nz ?_
  exact ⟨k_1,by omega,⟨aF [(0, .d (.val (.int .u64 ((oJ jb (8:Int)).toNat:Int)))),(5, .aK 0 0),(6,pI (e8 (gQ g9 (0:Int)) (8:Int))),(11,pI (e8 (gQ g9 (0:Int)) (8:Int))),(12,pI (j4+(1:Int)))],aj [.var (((v5.put j4 (gb (jb.toNat:Int))).1.map U).map .d)],1,[]⟩,View.mk 1 [0] _ _ _ rfl rfl (by decide) (iC (iC (iC (iC (iC trivial))))) (And.intro (by simp only [cF,bB,PV.bR];rfl) trivial) rfl zL rfl,(oJ jb (8:Int)),(j4+(1:Int)),(v5.put j4 (gb (jb.toNat:Int))),by omega,jG h,rfl⟩
 ·replace h:=eY h cv
  refine QW.exit zL (eA (eA (jY (aY ?_))))
  refine sR ?_
  refine xm 22 (pI (e8 (gQ g9 (0:Int)) (8:Int))) ?_
  obtain ⟨mR,h⟩:=gG h
  refine XK.so (some 23) rfl rfl (UP (p:=(0:Int)) (q:=(e8 (gQ g9 (0:Int)) (8:Int))) rfl TT.Jp rfl rfl rfl mR ?_)
  refine XK.so (some 24) rfl rfl (UQ (bs:=(sub v5.1 0 (e8 (gQ g9 (0:Int)) (8:Int)))) rfl TT.bC TT.dV TT.bZ rfl rfl (SE (a:=v5) mR) (Qy (a:=v5) mR) ?_)
  refine xz 4 (pS (sub v5.1 0 (e8 (gQ g9 (0:Int)) (8:Int)))) ?_
  refine QW.ret zL ?_
  obtain rfl:=sG h
  exact Ends.one (.inr rfl) rfl (aG.tmp rfl) rfl rfl
inductive BK where
 | S
 | L1 (v3:(List UInt8))
 | L2 (eF:(List UInt8)) (dc:(List UInt8)) (v5:Int)
noncomputable def ff (s0:(List UInt8)):BK→Option (BK⊕(List UInt8))
 | .S=>
  gO (s0.length≤9223372036854775807) (
  gO ((s0.length+([(128:UInt8)]:List UInt8).length)*1≤140737488355328) (
  some (.inl (.L1 (s0++([(128:UInt8)]:List UInt8))))))
 | .L1 v3=>
  (bif (!decide (((v3.length:Int).tmod (64:Int))=(56:Int))) then
  gO ((v3.length+([(0:UInt8)]:List UInt8).length)*1≤140737488355328) (
  some (.inl (.L1 (v3++([(0:UInt8)]:List UInt8)))))
  else
  ((xd ((BitVec.ofInt 64 (s0.length:Int))*(8:BitVec 64)) (8)).bind fun (x_6:(List UInt8))=>
  some (.inl (.L2 v3 x_6 (7)))))
 | .L2 eF dc v5=>
  (bif (decide ((0:Int)≤v5)) then
  gO (0≤v5∧v5<(dc.length:Int)) (
  gO ((eF.length+([(idx dc v5)]:List UInt8).length)*1≤140737488355328) (
  gO (bA (v5-(1:Int))) (
  some (.inl (.L2 (eF++([(idx dc v5)]:List UInt8)) dc (v5-(1:Int)))))))
  else
  some (.inr eF))
noncomputable def xJ (s0:(List UInt8)):Option (List UInt8):=gU (ff s0) .S
theorem Fv (s0:(List UInt8)) (r:(List UInt8)) (h:xJ s0=some r):bE Tryz.prog 88 [.val (sV s0)] (.val (sV r)):=by
 refine bE.aU Tryz.func88 rfl (by simp [Tryz.ntmps88]) ?_
 rw [Tryz.ntmps88,TT.VB]
 refine QW.view (s':=⟨aF [(0,pS s0)],aj [],0,[]⟩) (View.init (by rfl)) zL ?_
 replace h:=cG h
 obtain ⟨_,h⟩:=h
 obtain ⟨c8,rfl,h9⟩:=aQ h;replace h:=h9;clear h9;rw [ff] at h
 refine sR ?_
 refine xz 2 (pS ([]:List UInt8)) ?_
 refine sR ?_
 refine xm 6 (pS s0) ?_
 obtain ⟨nM,h⟩:=gG h
 refine XK.s2r (l:=s0) (some 7) rfl rfl rfl TT.bZ TT.bC TT.dV rfl nM ?_
 refine xs 8 rfl (dU (en:=U) (l:=([(128:UInt8)]:List UInt8)) rfl TT.e9 bH rfl rfl (by decide) (by simp [dg,cQ,aB,dK,PV.cz,cu,aF,jz,iL,jP,bV,Value.oneCell']) ?_)
 obtain ⟨xE,h⟩:=gG h
 refine xs 9 rfl (iJ (en:=U) (l:=s0) (l2:=([(128:UInt8)]:List UInt8)) rfl TT.e9 TT.bC rfl bH rfl rfl rfl xE (by decide) ?_)
 refine xz 3 (.own 1 ((s0++([(128:UInt8)]:List UInt8)).map U)) ?_
 refine QW.seq ?_
 refine QW.block ?_
 refine QW.loop (fun k σ=>∃ v3:(List UInt8),k≤c8∧run (ff s0) k (.L1 v3)=some r∧σ=⟨aF [(0,pS s0),(3, .own 0 (v3.map U))],aj [.spare 1 v3.length],1,[]⟩) c8 zL ⟨⟨aF [(0,pS s0),(3, .own 0 ((s0++([(128:UInt8)]:List UInt8)).map U))],aj [.spare 1 (s0++([(128:UInt8)]:List UInt8)).length],1,[]⟩,View.mk 1 [1] _ _ _ rfl rfl (by decide) (iC (iC trivial)) (And.intro rfl trivial) rfl zL rfl,(s0++([(128:UInt8)]:List UInt8)),Nat.le_refl _,jG h,rfl⟩ ?_
 rintro Zm _ ⟨v3,Zn,h,rfl⟩
 obtain ⟨On,rfl,h9⟩:=aQ h;replace h:=h9;clear h9;rw [ff] at h
 refine QW.seq ?_
 refine sR ?_
 refine xm 10 (.own 0 (v3.map U)) ?_
 refine xs 11 rfl (cM (en:=U) (l:=v3) rfl TT.bC rfl ?_)
 refine xs 12 rfl (wS (a:=(v3.length:Int)) (b:=(64:Int)) rfl rfl rfl (by decide) ?_)
 refine xs 13 rfl (oa (a:=((v3.length:Int).tmod (64:Int))) (b:=(56:Int)) rfl rfl rfl ?_)
 refine XK.nz ?_
 refine QW.cond (t:=(!decide (((v3.length:Int).tmod (64:Int))=(56:Int)))) rfl zL (fun gD=>?_) (fun gD=>?_)
 ·replace h:=eX h gD
  refine QW.skip zL (aY ?_)
  refine QW.block ?_
  refine rG ?_
  refine xm 14 (.own 0 (v3.map U)) ?_
  refine xs 15 rfl (dU (en:=U) (l:=([(0:UInt8)]:List UInt8)) rfl TT.e9 bH rfl rfl (by decide) (by simp [dg,cQ,aB,dK,PV.cz,cu,aF,jz,iL,jP,bV,Value.oneCell']) ?_)
  obtain ⟨mR,h⟩:=gG h
  refine xs 16 rfl (iJ (en:=U) (l:=v3) (l2:=([(0:UInt8)]:List UInt8)) rfl TT.e9 TT.bC rfl bH rfl rfl rfl mR (by decide) ?_)
  refine xa 3 (.own 1 ((v3++([(0:UInt8)]:List UInt8)).map U)) ?_
  refine XK.nil (gC (aY ?_))
  exact ⟨On,by omega,⟨aF [(0,pS s0),(3, .own 0 ((v3++([(0:UInt8)]:List UInt8)).map U))],aj [.spare 1 (v3++([(0:UInt8)]:List UInt8)).length],1,[]⟩,View.mk 1 [1] _ _ _ rfl rfl (by decide) (iC (iC trivial)) (And.intro rfl trivial) rfl zL rfl,(v3++([(0:UInt8)]:List UInt8)),by omega,jG h,rfl⟩
 ·replace h:=eY h gD
  refine QW.exit zL (eA (eA (jY (aY ?_))))
  refine sR ?_
  refine xm 17 (pS s0) ?_
  refine xs 18 rfl (gB (l:=s0) rfl TT.bZ rfl ?_)
  refine xs 19 rfl (wY (n:=(s0.length:Int)) rfl TT.kY TT.s4 rfl ?_)
  refine xs 20 rfl (D6 (a:=(BitVec.ofInt 64 (s0.length:Int))) (b:=(8:BitVec 64)) rfl rfl rfl ?_)
  obtain ⟨x_6,ym,h⟩:=bG h
  refine xs 21 rfl (aA rfl rfl TT.Mg rfl (IE ((BitVec.ofInt 64 (s0.length:Int))*(8:BitVec 64)) (8) _ ym) ?_)
  refine xz 4 (pS x_6) ?_
  refine QW.seq ?_
  refine sR ?_
  refine xz 5 (pI (7)) ?_
  refine QW.block ?_
  refine QW.loop (fun k σ=>∃ eF:(List UInt8),∃ dc:(List UInt8),∃ v5:Int,k≤On∧run (ff s0) k (.L2 eF dc v5)=some r∧σ=⟨aF [(3, .own 0 (eF.map U)),(4,pS dc),(5,pI v5)],aj [.spare 1 eF.length],1,[]⟩) On zL ⟨⟨aF [(3, .own 0 (v3.map U)),(4,pS x_6),(5,pI (7))],aj [.spare 1 v3.length],1,[]⟩,View.mk 1 [0] _ _ _ rfl rfl (by decide) (iC (iC (iC trivial))) (And.intro rfl trivial) rfl zL rfl,v3,x_6,7,Nat.le_refl _,jG h,rfl⟩ ?_
  rintro abR _ ⟨eF,dc,v5,abS,h,rfl⟩
  obtain ⟨k_8,rfl,h9⟩:=aQ h;replace h:=h9;clear h9;rw [ff] at h
  refine QW.seq ?_
  refine sR ?_
  refine xm 22 (pI v5) ?_
  refine xs 23 rfl (wU (a:=v5) (b:=(0:Int)) rfl rfl rfl ?_)
  refine XK.nz ?_
  refine QW.cond (t:=(decide ((0:Int)≤v5))) rfl zL (fun oU=>?_) (fun oU=>?_)
  ·replace h:=eX h oU
   refine QW.skip zL (aY ?_)
   refine QW.seq ?_
   refine QW.block ?_
   refine rG ?_
   refine xm 26 (.own 0 (eF.map U)) ?_
   refine xm 27 (pS dc) ?_
   refine xm 28 (pI v5) ?_
   obtain ⟨oq,h⟩:=gG h
   refine xs 29 rfl (lI (l:=dc) (i:=v5) rfl TT.bZ TT.nL rfl rfl oq ?_)
   refine xs 30 rfl (dU (en:=U) (l:=([(idx dc v5)]:List UInt8)) rfl TT.e9 bH rfl rfl (by decide) (by simp [dg,cQ,aB,dK,PV.cz,cu,aF,jz,iL,jP,bV,Value.oneCell']) ?_)
   obtain ⟨vG,h⟩:=gG h
   refine xs 31 rfl (iJ (en:=U) (l:=eF) (l2:=([(idx dc v5)]:List UInt8)) rfl TT.e9 TT.bC rfl bH rfl rfl rfl vG (by decide) ?_)
   refine xa 3 (.own 1 ((eF++([(idx dc v5)]:List UInt8)).map U)) ?_
   refine XK.nil (gC (aY ?_))
   refine rG ?_
   refine xm 24 (pI v5) ?_
   obtain ⟨mX,h⟩:=gG h
   refine xs 25 rfl (nJ (a:=v5) (b:=(1:Int)) rfl rfl rfl mX ?_)
   refine xz 5 (pI (v5-(1:Int))) ?_
   exact ⟨k_8,by omega,⟨aF [(3, .own 0 ((eF++([(idx dc v5)]:List UInt8)).map U)),(4,pS dc),(5,pI (v5-(1:Int)))],aj [.spare 1 (eF++([(idx dc v5)]:List UInt8)).length],1,[]⟩,View.mk 1 [1] _ _ _ rfl rfl (by decide) (iC (iC (iC trivial))) (And.intro rfl trivial) rfl zL rfl,(eF++([(idx dc v5)]:List UInt8)),dc,(v5-(1:Int)),by omega,jG h,rfl⟩
  ·replace h:=eY h oU
   refine QW.exit zL (eA (eA (jY (aY ?_))))
   refine sR ?_
   refine xm 32 (.own 0 (eF.map U)) ?_
   refine xs 33 rfl (nK (l:=eF) rfl TT.bC TT.dV TT.bZ rfl ?_)
   refine xz 2 (pS eF) ?_
   refine QW.ret zL ?_
   obtain rfl:=sG h
   exact Ends.one (.inr rfl) rfl (aG.tmp rfl) rfl rfl
noncomputable def tZ (s0:(List UInt8)):Option (BitVec 32):=
  gO (0≤(0:Int)∧(0:Int)<(s0.length:Int)) (
  gO (0≤(1:Int)∧(1:Int)<(s0.length:Int)) (
  gO (0≤(2:Int)∧(2:Int)<(s0.length:Int)) (
  gO (0≤(3:Int)∧(3:Int)<(s0.length:Int)) (
  some ((((qW (BitVec.ofInt 32 ((idx s0 (0:Int)).toNat:Int)) (24:Int))||| (qW (BitVec.ofInt 32 ((idx s0 (1:Int)).toNat:Int)) (16:Int)))||| (qW (BitVec.ofInt 32 ((idx s0 (2:Int)).toNat:Int)) (8:Int)))||| (BitVec.ofInt 32 ((idx s0 (3:Int)).toNat:Int)))))))
theorem IF (s0:(List UInt8)) (r:(BitVec 32)) (h:tZ s0=some r):bE Tryz.prog 111 [.val (sV s0)] (.val (.int .u32 (r.toNat:Int))):=by
 refine bE.aU Tryz.func111 rfl (by simp [Tryz.ntmps111]) ?_
 rw [Tryz.ntmps111,TT.Tu]
 refine QW.view (s':=⟨aF [(0,pS s0)],aj [],0,[]⟩) (View.init (by rfl)) zL ?_
 unfold tZ at h
 refine sR ?_
 refine xz 2 (.d (.val (.int .u32 ((0:BitVec 32).toNat:Int)))) ?_
 refine QW.seq ?_
 refine QW.region zL (PW.kC (id:=1) dh (M:=_) rfl (by kernel_rfl) ?_)
 refine RQ.st (some 3) rfl rfl (au (v:=pS s0) rfl rfl ⟨⟨rfl,rfl⟩,?_⟩)
 obtain ⟨nM,h⟩:=bk h
 refine RQ.st (some 4) rfl rfl (lI (l:=s0) (i:=(0:Int)) rfl TT.bZ TT.nL rfl rfl nM ⟨⟨rfl,rfl⟩,?_⟩)
 refine RQ.st (some 5) rfl rfl (wY (n:=((idx s0 (0:Int)).toNat:Int)) rfl TT.dV TT.vQ rfl ⟨⟨rfl,rfl⟩,?_⟩)
 refine RQ.st (some 6) rfl rfl (A2 (a:=(BitVec.ofInt 32 ((idx s0 (0:Int)).toNat:Int))) (c:=(24:Int)) rfl rfl rfl (by decide) ⟨⟨rfl,rfl⟩,?_⟩)
 refine RQ.st (some 7) rfl rfl (au (v:=pS s0) rfl rfl ⟨⟨rfl,rfl⟩,?_⟩)
 obtain ⟨xE,h⟩:=bk h
 refine RQ.st (some 8) rfl rfl (lI (l:=s0) (i:=(1:Int)) rfl TT.bZ TT.nL rfl rfl xE ⟨⟨rfl,rfl⟩,?_⟩)
 refine RQ.st (some 9) rfl rfl (wY (n:=((idx s0 (1:Int)).toNat:Int)) rfl TT.dV TT.vQ rfl ⟨⟨rfl,rfl⟩,?_⟩)
 refine RQ.st (some 10) rfl rfl (A2 (a:=(BitVec.ofInt 32 ((idx s0 (1:Int)).toNat:Int))) (c:=(16:Int)) rfl rfl rfl (by decide) ⟨⟨rfl,rfl⟩,?_⟩)
 refine RQ.st (some 11) rfl rfl (vw (a:=(qW (BitVec.ofInt 32 ((idx s0 (0:Int)).toNat:Int)) (24:Int))) (b:=(qW (BitVec.ofInt 32 ((idx s0 (1:Int)).toNat:Int)) (16:Int))) rfl rfl rfl ⟨⟨rfl,rfl⟩,?_⟩)
 refine RQ.st (some 12) rfl rfl (au (v:=pS s0) rfl rfl ⟨⟨rfl,rfl⟩,?_⟩)
 obtain ⟨dP,h⟩:=bk h
 refine RQ.st (some 13) rfl rfl (lI (l:=s0) (i:=(2:Int)) rfl TT.bZ TT.nL rfl rfl dP ⟨⟨rfl,rfl⟩,?_⟩)
 refine RQ.st (some 14) rfl rfl (wY (n:=((idx s0 (2:Int)).toNat:Int)) rfl TT.dV TT.vQ rfl ⟨⟨rfl,rfl⟩,?_⟩)
 refine RQ.st (some 15) rfl rfl (A2 (a:=(BitVec.ofInt 32 ((idx s0 (2:Int)).toNat:Int))) (c:=(8:Int)) rfl rfl rfl (by decide) ⟨⟨rfl,rfl⟩,?_⟩)
 refine RQ.st (some 16) rfl rfl (vw (a:=((qW (BitVec.ofInt 32 ((idx s0 (0:Int)).toNat:Int)) (24:Int))||| (qW (BitVec.ofInt 32 ((idx s0 (1:Int)).toNat:Int)) (16:Int)))) (b:=(qW (BitVec.ofInt 32 ((idx s0 (2:Int)).toNat:Int)) (8:Int))) rfl rfl rfl ⟨⟨rfl,rfl⟩,?_⟩)
 refine RQ.st (some 17) rfl rfl (au (v:=pS s0) rfl rfl ⟨⟨rfl,rfl⟩,?_⟩)
 obtain ⟨lY,h⟩:=bk h
 refine RQ.st (some 18) rfl rfl (lI (l:=s0) (i:=(3:Int)) rfl TT.bZ TT.nL rfl rfl lY ⟨⟨rfl,rfl⟩,?_⟩)
 refine RQ.st (some 19) rfl rfl (wY (n:=((idx s0 (3:Int)).toNat:Int)) rfl TT.dV TT.vQ rfl ⟨⟨rfl,rfl⟩,?_⟩)
 refine RQ.st (some 20) rfl rfl (vw (a:=(((qW (BitVec.ofInt 32 ((idx s0 (0:Int)).toNat:Int)) (24:Int))||| (qW (BitVec.ofInt 32 ((idx s0 (1:Int)).toNat:Int)) (16:Int)))||| (qW (BitVec.ofInt 32 ((idx s0 (2:Int)).toNat:Int)) (8:Int)))) (b:=(BitVec.ofInt 32 ((idx s0 (3:Int)).toNat:Int))) rfl rfl rfl ⟨⟨rfl,rfl⟩,?_⟩)
 refine RQ.st (some 2) rfl rfl (cq (v:= .d (.val (.int .u32 (((((qW (BitVec.ofInt 32 ((idx s0 (0:Int)).toNat:Int)) (24:Int))||| (qW (BitVec.ofInt 32 ((idx s0 (1:Int)).toNat:Int)) (16:Int)))||| (qW (BitVec.ofInt 32 ((idx s0 (2:Int)).toNat:Int)) (8:Int)))||| (BitVec.ofInt 32 ((idx s0 (3:Int)).toNat:Int))).toNat:Int)))) rfl rfl ⟨⟨rfl,rfl⟩,?_⟩)
 refine RQ.nil (aY ?_)
 refine QW.ret zL ?_
 obtain rfl:=sO h
 exact Ends.one (.inr rfl) rfl (aG.tmp rfl) rfl rfl
noncomputable def iK (x0:(BitVec 32)) (k1:Int):Option (BitVec 32):=
  gO (0≤(((BitVec.ofInt 64 k1)&&& (31:BitVec 64)).toNat:Int)) (
  gO (0≤(((32:BitVec 64)-((BitVec.ofInt 64 k1)&&& (31:BitVec 64))).toNat:Int)) (
  some ((qW x0 (((BitVec.ofInt 64 k1)&&& (31:BitVec 64)).toNat:Int))||| (oJ x0 (((32:BitVec 64)-((BitVec.ofInt 64 k1)&&& (31:BitVec 64))).toNat:Int)))))
theorem uV (x0:(BitVec 32)) (k1:Int) (r:(BitVec 32)) (h:iK x0 k1=some r):bE Tryz.prog 113 [.val (.int .u32 (x0.toNat:Int)), .val (.int .i64 k1)] (.val (.int .u32 (r.toNat:Int))):=by
 refine bE.aU Tryz.func113 rfl (by simp [Tryz.ntmps113]) ?_
 rw [Tryz.ntmps113,TT.Tw]
 refine QW.view (s':=⟨aF [(0, .d (.val (.int .u32 (x0.toNat:Int)))),(1,pI k1)],aj [],0,[]⟩) (View.init (by rfl)) zL ?_
 unfold iK at h
 refine sR ?_
 refine xz 4 (.d (.val (.int .u32 ((0:BitVec 32).toNat:Int)))) ?_
 refine sR ?_
 refine xm 6 (pI k1) ?_
 refine xs 7 rfl (wY (n:=k1) rfl TT.kY TT.QM rfl ?_)
 refine xs 8 rfl (m9 (a:=(BitVec.ofInt 64 k1)) (b:=(31:BitVec 64)) rfl rfl rfl ?_)
 refine xz 5 (.d (.val (.int .u64 (((BitVec.ofInt 64 k1)&&& (31:BitVec 64)).toNat:Int)))) ?_
 refine sR ?_
 refine xm 9 (.d (.val (.int .u32 (x0.toNat:Int)))) ?_
 refine xm 10 (.d (.val (.int .u64 (((BitVec.ofInt 64 k1)&&& (31:BitVec 64)).toNat:Int)))) ?_
 obtain ⟨nM,h⟩:=bk h
 refine xs 11 rfl (A2 (a:=x0) (c:=(((BitVec.ofInt 64 k1)&&& (31:BitVec 64)).toNat:Int)) rfl rfl rfl nM ?_)
 refine xm 12 (.d (.val (.int .u32 (x0.toNat:Int)))) ?_
 refine xm 13 (.d (.val (.int .u64 (((BitVec.ofInt 64 k1)&&& (31:BitVec 64)).toNat:Int)))) ?_
 refine xs 14 rfl (Jh (a:=(32:BitVec 64)) (b:=((BitVec.ofInt 64 k1)&&& (31:BitVec 64))) rfl rfl rfl ?_)
 obtain ⟨xE,h⟩:=bk h
 refine xs 15 rfl (A4 (a:=x0) (c:=(((32:BitVec 64)-((BitVec.ofInt 64 k1)&&& (31:BitVec 64))).toNat:Int)) rfl rfl rfl xE ?_)
 refine xs 16 rfl (vw (a:=(qW x0 (((BitVec.ofInt 64 k1)&&& (31:BitVec 64)).toNat:Int))) (b:=(oJ x0 (((32:BitVec 64)-((BitVec.ofInt 64 k1)&&& (31:BitVec 64))).toNat:Int))) rfl rfl rfl ?_)
 refine xz 4 (.d (.val (.int .u32 (((qW x0 (((BitVec.ofInt 64 k1)&&& (31:BitVec 64)).toNat:Int))||| (oJ x0 (((32:BitVec 64)-((BitVec.ofInt 64 k1)&&& (31:BitVec 64))).toNat:Int))).toNat:Int)))) ?_
 refine QW.ret zL ?_
 obtain rfl:=sO h
 exact Ends.one (.inr rfl) rfl (aG.tmp rfl) rfl rfl
noncomputable def lp (n0:Int) (v1:(BitVec 32)):Option (BitVec 32):=
  gO (bA (0-n0)) (
  ((iK v1 (0-n0)).bind fun (x_2:(BitVec 32))=>
  some x_2))
theorem oW (n0:Int) (v1:(BitVec 32)) (r:(BitVec 32)) (h:lp n0 v1=some r):bE Tryz.prog 112 [.val (.int .i64 n0), .cr ([.val (.int .u32 (v1.toNat:Int))])] (.val (.int .u32 (r.toNat:Int))):=by
 refine bE.aU Tryz.func112 rfl (by simp [Tryz.ntmps112]) ?_
 rw [Tryz.ntmps112,TT.Tv]
 refine QW.view (s':=⟨aF [(0,pI n0),(1, .d (.cr ([.val (.int .u32 (v1.toNat:Int))])))],aj [],0,[]⟩) (View.init (by rfl)) zL ?_
 unfold lp at h
 refine sR ?_
 refine xz 3 (.d (.val (.int .u32 ((0:BitVec 32).toNat:Int)))) ?_
 refine sR ?_
 refine xs 4 rfl (aC (d:= .val (.int .u32 (v1.toNat:Int))) rfl TT.eK rfl (di.one) ?_)
 refine xm 5 (pI n0) ?_
 obtain ⟨nM,h⟩:=bk h
 refine xs 6 rfl (UH (a:=n0) rfl rfl nM ?_)
 obtain ⟨x_2,nD,h⟩:=bO h
 refine xs 7 rfl (aA rfl rfl TT.Mk rfl (uV v1 (0-n0) _ nD) ?_)
 refine xz 3 (.d (.val (.int .u32 (x_2.toNat:Int)))) ?_
 refine QW.ret zL ?_
 obtain rfl:=sO h
 exact Ends.one (.inr rfl) rfl (aG.tmp rfl) rfl rfl
noncomputable def kV (x0:(BitVec 32)) (a1:Int) (b2:Int) (c3:Int) (y5:Bool):Option (BitVec 32):=
  (bif y5 then
  ((lp a1 x0).bind fun (x_2:(BitVec 32))=>
  ((lp b2 x0).bind fun (x_4:(BitVec 32))=>
  gO (0≤c3) (
  some ((x_2^^^x_4)^^^(oJ x0 c3)))))
  else
  ((lp a1 x0).bind fun (x_7:(BitVec 32))=>
  ((lp b2 x0).bind fun (x_9:(BitVec 32))=>
  ((lp c3 x0).bind fun (x_11:(BitVec 32))=>
  some ((x_7^^^x_9)^^^x_11)))))
theorem uW (x0:(BitVec 32)) (a1:Int) (b2:Int) (c3:Int) (y5:Bool) (r:(BitVec 32)) (h:kV x0 a1 b2 c3 y5=some r):bE Tryz.prog 105 [.val (.int .u32 (x0.toNat:Int)), .val (.int .i64 a1), .val (.int .i64 b2), .val (.int .i64 c3), .val (.bool y5)] (.val (.int .u32 (r.toNat:Int))):=by
 refine bE.aU Tryz.func105 rfl (by simp [Tryz.ntmps105]) ?_
 rw [Tryz.ntmps105,TT.Tt]
 refine QW.view (s':=⟨aF [(0, .d (.val (.int .u32 (x0.toNat:Int)))),(1,pI a1),(2,pI b2),(3,pI c3),(4,pB y5)],aj [],0,[]⟩) (View.init (by rfl)) zL ?_
 unfold kV at h
 refine sR ?_
 refine XK.fz (some 5) rfl rfl (eJ (ds:=[.val (.int .u32 (x0.toNat:Int))]) rfl rfl rfl rfl rfl ?_)
 refine xz 10 (.d (.val (.int .u32 ((0:BitVec 32).toNat:Int)))) ?_
 refine sR ?_
 refine xs 12 rfl (Lw rfl rfl ?_)
 refine xz 11 (.d (.gT 112 [.cr ([.val (.int .u32 (x0.toNat:Int))])])) ?_
 refine QW.seq ?_
 refine sR ?_
 refine xm 13 (pB y5) ?_
 refine XK.nz ?_
 refine QW.cond (t:=y5) rfl zL (fun dm=>?_) (fun dm=>?_)
 ·replace h:=bT h dm
  refine QW.seq ?_
  refine QW.region zL (PW.kC (id:=3) dh (M:=_) rfl (by kernel_rfl) ?_)
  refine RQ.st (some 14) rfl rfl (au (v:= .d (.gT 112 [.cr ([.val (.int .u32 (x0.toNat:Int))])])) rfl rfl ⟨⟨rfl,rfl⟩,?_⟩)
  refine RQ.st (some 15) rfl rfl (au (v:=pI a1) rfl rfl ⟨⟨rfl,rfl⟩,?_⟩)
  obtain ⟨x_2,nD,h⟩:=bO h
  refine RQ.st (some 16) rfl rfl (wW rfl rfl rfl TT.tY rfl (oW a1 x0 _ nD) ⟨⟨rfl,rfl⟩,?_⟩)
  refine RQ.st (some 17) rfl rfl (au (v:= .d (.gT 112 [.cr ([.val (.int .u32 (x0.toNat:Int))])])) rfl rfl ⟨⟨rfl,rfl⟩,?_⟩)
  refine RQ.st (some 18) rfl rfl (au (v:=pI b2) rfl rfl ⟨⟨rfl,rfl⟩,?_⟩)
  obtain ⟨x_4,kZ,h⟩:=bO h
  refine RQ.st (some 19) rfl rfl (wW rfl rfl rfl TT.tY rfl (oW b2 x0 _ kZ) ⟨⟨rfl,rfl⟩,?_⟩)
  refine RQ.st (some 20) rfl rfl (j6 (a:=x_2) (b:=x_4) rfl rfl rfl ⟨⟨rfl,rfl⟩,?_⟩)
  refine RQ.st (some 21) rfl rfl (aC (d:= .val (.int .u32 (x0.toNat:Int))) rfl TT.eK rfl (di.one) ⟨⟨rfl,rfl⟩,?_⟩)
  refine RQ.st (some 22) rfl rfl (au (v:=pI c3) rfl rfl ⟨⟨rfl,rfl⟩,?_⟩)
  obtain ⟨lZ,h⟩:=bk h
  refine RQ.st (some 23) rfl rfl (A4 (a:=x0) (c:=c3) rfl rfl rfl lZ ⟨⟨rfl,rfl⟩,?_⟩)
  refine RQ.st (some 24) rfl rfl (j6 (a:=(x_2^^^x_4)) (b:=(oJ x0 c3)) rfl rfl rfl ⟨⟨rfl,rfl⟩,?_⟩)
  refine RQ.st (some 10) rfl rfl (cq (v:= .d (.val (.int .u32 (((x_2^^^x_4)^^^(oJ x0 c3)).toNat:Int)))) rfl rfl ⟨⟨rfl,rfl⟩,?_⟩)
  refine RQ.nil (aY ?_)
  refine QW.ret zL (eC ?_)
  obtain rfl:=sO h
  exact Ends.one (.inr rfl) rfl (aG.tmp rfl) rfl rfl
 ·replace h:=bF h dm
  refine QW.skip zL (aY ?_)
  refine sR ?_
  refine xm 25 (.d (.gT 112 [.cr ([.val (.int .u32 (x0.toNat:Int))])])) ?_
  refine xm 26 (pI a1) ?_
  obtain ⟨x_7,oo,h⟩:=bO h
  refine xs 27 rfl (wW rfl rfl rfl TT.tY rfl (oW a1 x0 _ oo) ?_)
  refine xm 28 (.d (.gT 112 [.cr ([.val (.int .u32 (x0.toNat:Int))])])) ?_
  refine xm 29 (pI b2) ?_
  obtain ⟨x_9,Ci,h⟩:=bO h
  refine xs 30 rfl (wW rfl rfl rfl TT.tY rfl (oW b2 x0 _ Ci) ?_)
  refine xs 31 rfl (j6 (a:=x_7) (b:=x_9) rfl rfl rfl ?_)
  refine xm 32 (.d (.gT 112 [.cr ([.val (.int .u32 (x0.toNat:Int))])])) ?_
  refine xm 33 (pI c3) ?_
  obtain ⟨x_11,pR,h⟩:=bO h
  refine xs 34 rfl (wW rfl rfl rfl TT.tY rfl (oW c3 x0 _ pR) ?_)
  refine xs 35 rfl (j6 (a:=(x_7^^^x_9)) (b:=x_11) rfl rfl rfl ?_)
  refine xz 10 (.d (.val (.int .u32 (((x_7^^^x_9)^^^x_11).toNat:Int)))) ?_
  refine QW.ret zL ?_
  obtain rfl:=sO h
  exact Ends.one (.inr rfl) rfl (aG.tmp rfl) rfl rfl
inductive Dh where
 | S
 | L1 (v6:Int) (v3:(aE 64 (BitVec 32)))
 | L2 (v5:Int) (eF:(aE 64 (BitVec 32)))
noncomputable def fZ (s0:(List UInt8)):Dh→Option (Dh⊕(aE 64 (BitVec 32)))
 | .S=>
  some (.inl (.L1 (0) (aE.rep 64 (0:BitVec 32))))
 | .L1 v6 v3=>
  (bif (decide (v6<(16:Int))) then
  gO (bA ((4:Int)*v6)) (
  gO (0≤((4:Int)*v6)∧((4:Int)*v6)≤(s0.length:Int)∧(s0.length:Int)≤(s0.length:Int)) (
  ((tZ (sub s0 ((4:Int)*v6) (s0.length:Int))).bind fun (x_5:(BitVec 32))=>
  gO (0≤v6∧v6<((64:Nat):Int)) (
  gO (bA (v6+(1:Int))) (
  some (.inl (.L1 (v6+(1:Int)) (v3.put v6 x_5))))))))
  else
  some (.inl (.L2 (16) v3)))
 | .L2 v5 eF=>
  (bif (decide (v5<(64:Int))) then
  gO (bA (v5-(16:Int))) (
  gO (0≤(v5-(16:Int))∧(v5-(16:Int))<((64:Nat):Int)) (
  gO (bA (v5-(15:Int))) (
  gO (0≤(v5-(15:Int))∧(v5-(15:Int))<((64:Nat):Int)) (
  ((kV (idx eF.1 (v5-(15:Int))) (7) (18) (3) true).bind fun (x_15:(BitVec 32))=>
  gO (bA (v5-(7:Int))) (
  gO (0≤(v5-(7:Int))∧(v5-(7:Int))<((64:Nat):Int)) (
  gO (bA (v5-(2:Int))) (
  gO (0≤(v5-(2:Int))∧(v5-(2:Int))<((64:Nat):Int)) (
  ((kV (idx eF.1 (v5-(2:Int))) (17) (19) (10) true).bind fun (x_21:(BitVec 32))=>
  gO (0≤v5∧v5<((64:Nat):Int)) (
  gO (bA (v5+(1:Int))) (
  some (.inl (.L2 (v5+(1:Int)) (eF.put v5 ((((idx eF.1 (v5-(16:Int)))+x_15)+(idx eF.1 (v5-(7:Int))))+x_21))))))))))))))))
  else
  some (.inr eF))
noncomputable def y6 (s0:(List UInt8)):Option (aE 64 (BitVec 32)):=gU (fZ s0) .S
theorem G5 (s0:(List UInt8)) (r:(aE 64 (BitVec 32))) (h:y6 s0=some r):bE Tryz.prog 103 [.val (sV s0)] (.agg (r.1.map eG)):=by
 refine bE.aU Tryz.func103 rfl (by simp [Tryz.ntmps103]) ?_
 rw [Tryz.ntmps103,TT.Tp]
 refine QW.view (s':=⟨aF [(0,pS s0)],aj [],0,[]⟩) (View.init (by rfl)) zL ?_
 replace h:=cG h
 obtain ⟨_,h⟩:=h
 obtain ⟨c8,rfl,h9⟩:=aQ h;replace h:=h9;clear h9;rw [fZ] at h
 refine sR ?_
 refine xs 2 rfl (bP (l:=(((aE.rep 64 (0:BitVec 32)).1.map eG).map .d)) rfl TT.vR rfl rfl ?_)
 refine XK.nz ?_
 refine sR ?_
 refine xs 3 rfl (bP (l:=(((aE.rep 64 (0:BitVec 32)).1.map eG).map .d)) rfl TT.vR rfl rfl ?_)
 refine XK.nz ?_
 refine QW.seq ?_
 refine sR ?_
 refine xm 6 (pI (0)) ?_
 refine XK.nz ?_
 refine QW.block ?_
 refine QW.loop (fun k σ=>∃ v6:Int,∃ v3:(aE 64 (BitVec 32)),k≤c8∧run (fZ s0) k (.L1 v6 v3)=some r∧σ=⟨aF [(0,pS s0),(2, .aK 0 0),(3, .aK 1 0),(6,pI v6)],aj [.var (((aE.rep 64 (0:BitVec 32)).1.map eG).map .d), .var ((v3.1.map eG).map .d)],2,[]⟩) c8 zL ⟨⟨aF [(0,pS s0),(2, .aK 0 0),(3, .aK 1 0),(6,pI (0))],aj [.var (((aE.rep 64 (0:BitVec 32)).1.map eG).map .d), .var (((aE.rep 64 (0:BitVec 32)).1.map eG).map .d)],2,[]⟩,View.mk 2 [0,1] _ _ _ rfl rfl (by decide) (iC (iC (iC (iC trivial)))) (And.intro (by simp only [cF,bB,PV.bR];rfl) (And.intro (by simp only [cF,bB,PV.bR];rfl) trivial)) rfl zL rfl,0,(aE.rep 64 (0:BitVec 32)),Nat.le_refl _,jG h,rfl⟩ ?_
 rintro pZ _ ⟨v6,v3,p4,h,rfl⟩
 obtain ⟨k_1,rfl,h9⟩:=aQ h;replace h:=h9;clear h9;rw [fZ] at h
 refine sR ?_
 refine xs 7 rfl (cK (a:=v6) (b:=(16:Int)) rfl rfl rfl ?_)
 refine XK.nz ?_
 refine QW.seq ?_
 refine QW.cond (t:=(decide (v6<(16:Int)))) rfl zL (fun cv=>?_) (fun cv=>?_)
 ·replace h:=eX h cv
  refine QW.skip zL (aY ?_)
  refine QW.seq ?_
  refine QW.block ?_
  refine sR ?_
  refine xm 8 (pI v6) ?_
  refine xz 4 (pI v6) ?_
  refine rG ?_
  refine xm 9 (pI v6) ?_
  refine xm 10 (pS s0) ?_
  refine xm 11 (pI v6) ?_
  obtain ⟨dP,h⟩:=gG h
  refine xs 12 rfl (AV (a:=(4:Int)) (b:=v6) rfl rfl rfl dP ?_)
  obtain ⟨lY,h⟩:=gG h
  refine xs 13 rfl (vt (l:=s0) (a:=((4:Int)*v6)) (b:=(s0.length:Int)) rfl TT.bZ rfl rfl rfl lY ?_)
  obtain ⟨x_5,rj,h⟩:=bG h
  refine xs 14 rfl (aA rfl rfl TT.Mj rfl (IF (sub s0 ((4:Int)*v6) (s0.length:Int)) _ rj) ?_)
  obtain ⟨mc,h⟩:=gG h
  refine xs 15 rfl (cX (i:=v6) rfl TT.ru TT.rq rfl rfl mc ?_)
  refine XK.st none rfl rfl (bw (l':=(((v3.put v6 x_5).1.map eG).map .d)) rfl TT.eK rfl rfl rfl rfl rfl rfl (tP mc) (rI mc) ?_)
  refine XK.nil (gC (aY ?_))
  refine rG ?_
  obtain ⟨rM,h⟩:=gG h
  refine xs 16 rfl (bY (a:=v6) (b:=(1:Int)) rfl rfl rfl rM ?_)
  refine xm 6 (pI (v6+(1:Int))) ?_
  refine XK.nz ?_
  exact ⟨k_1,by omega,⟨aF [(0,pS s0),(2, .aK 0 0),(3, .aK 1 0),(6,pI (v6+(1:Int)))],aj [.var (((aE.rep 64 (0:BitVec 32)).1.map eG).map .d), .var (((v3.put v6 x_5).1.map eG).map .d)],2,[]⟩,View.mk 2 [0,1] _ _ _ rfl rfl (by decide) (iC (iC (iC (iC trivial)))) (And.intro (by simp only [cF,bB,PV.bR];rfl) (And.intro (by simp only [cF,bB,PV.bR];rfl) trivial)) rfl zL rfl,(v6+(1:Int)),(v3.put v6 x_5),by omega,jG h,rfl⟩
 ·replace h:=eY h cv
  refine QW.exit zL (eA (eA (jY (aY ?_))))
  refine QW.seq ?_
  refine sR ?_
  refine xz 5 (pI (16)) ?_
  refine QW.block ?_
  refine QW.loop (fun k σ=>∃ v5:Int,∃ eF:(aE 64 (BitVec 32)),k≤k_1∧run (fZ s0) k (.L2 v5 eF)=some r∧σ=⟨aF [(2, .aK 0 0),(3, .aK 1 0),(5,pI v5)],aj [.var (((aE.rep 64 (0:BitVec 32)).1.map eG).map .d), .var ((eF.1.map eG).map .d)],2,[]⟩) k_1 zL ⟨⟨aF [(2, .aK 0 0),(3, .aK 1 0),(5,pI (16))],aj [.var (((aE.rep 64 (0:BitVec 32)).1.map eG).map .d), .var ((v3.1.map eG).map .d)],2,[]⟩,View.mk 2 [0,1] _ _ _ rfl rfl (by decide) (iC (iC (iC trivial))) (And.intro (by simp only [cF,bB,PV.bR];rfl) (And.intro (by simp only [cF,bB,PV.bR];rfl) trivial)) rfl zL rfl,16,v3,Nat.le_refl _,jG h,rfl⟩ ?_
  rintro abT _ ⟨v5,eF,abU,h,rfl⟩
  obtain ⟨k_9,rfl,h9⟩:=aQ h;replace h:=h9;clear h9;rw [fZ] at h
  refine QW.seq ?_
  refine sR ?_
  refine xm 17 (pI v5) ?_
  refine xs 18 rfl (cK (a:=v5) (b:=(64:Int)) rfl rfl rfl ?_)
  refine XK.nz ?_
  refine QW.cond (t:=(decide (v5<(64:Int)))) rfl zL (fun qH=>?_) (fun qH=>?_)
  ·replace h:=eX h qH
   refine QW.skip zL (aY ?_)
   refine QW.seq ?_
   refine QW.block ?_
   refine QW.region zL (PW.tN (id:=10) dh (M:=_) rfl (by kernel_rfl) ?_)
   refine RK.st (some 21) rfl rfl (au (v:=pI v5) rfl rfl ?_)
   refine RK.st (some 22) rfl rfl (au (v:=pI v5) rfl rfl ?_)
   obtain ⟨vG,h⟩:=gG h
   refine RK.st (some 23) rfl rfl (nJ (a:=v5) (b:=(16:Int)) rfl rfl rfl vG ?_)
   obtain ⟨mX,h⟩:=gG h
   refine RK.st (some 24) rfl rfl (cX (i:=(v5-(16:Int))) rfl TT.ru TT.rq rfl rfl mX ?_)
   refine RK.st (some 25) rfl rfl (bx (v:= .d (.val (.int .u32 ((idx eF.1 (v5-(16:Int))).toNat:Int)))) rfl TT.eK rfl rfl (fJ mX) ?_)
   refine RK.st (some 26) rfl rfl (au (v:=pI v5) rfl rfl ?_)
   obtain ⟨nE,h⟩:=gG h
   refine RK.st (some 27) rfl rfl (nJ (a:=v5) (b:=(15:Int)) rfl rfl rfl nE ?_)
   obtain ⟨rL,h⟩:=gG h
   refine RK.st (some 28) rfl rfl (cX (i:=(v5-(15:Int))) rfl TT.ru TT.rq rfl rfl rL ?_)
   refine RK.st (some 29) rfl rfl (bx (v:= .d (.val (.int .u32 ((idx eF.1 (v5-(15:Int))).toNat:Int)))) rfl TT.eK rfl rfl (fJ rL) ?_)
   obtain ⟨x_15,vD,h⟩:=bG h
   refine RK.st (some 30) rfl rfl (aA rfl rfl TT.w9 rfl (uW (idx eF.1 (v5-(15:Int))) (7) (18) (3) true _ vD) ?_)
   refine RK.st (some 31) rfl rfl (fT (a:=(idx eF.1 (v5-(16:Int)))) (b:=x_15) rfl rfl rfl ?_)
   refine RK.st (some 32) rfl rfl (au (v:=pI v5) rfl rfl ?_)
   obtain ⟨pO,h⟩:=gG h
   refine RK.st (some 33) rfl rfl (nJ (a:=v5) (b:=(7:Int)) rfl rfl rfl pO ?_)
   obtain ⟨sH,h⟩:=gG h
   refine RK.st (some 34) rfl rfl (cX (i:=(v5-(7:Int))) rfl TT.ru TT.rq rfl rfl sH ?_)
   refine RK.st (some 35) rfl rfl (bx (v:= .d (.val (.int .u32 ((idx eF.1 (v5-(7:Int))).toNat:Int)))) rfl TT.eK rfl rfl (fJ sH) ?_)
   refine RK.st (some 36) rfl rfl (fT (a:=((idx eF.1 (v5-(16:Int)))+x_15)) (b:=(idx eF.1 (v5-(7:Int)))) rfl rfl rfl ?_)
   refine RK.st (some 37) rfl rfl (au (v:=pI v5) rfl rfl ?_)
   obtain ⟨yp,h⟩:=gG h
   refine RK.st (some 38) rfl rfl (nJ (a:=v5) (b:=(2:Int)) rfl rfl rfl yp ?_)
   obtain ⟨vS,h⟩:=gG h
   refine RK.st (some 39) rfl rfl (cX (i:=(v5-(2:Int))) rfl TT.ru TT.rq rfl rfl vS ?_)
   refine RK.st (some 40) rfl rfl (bx (v:= .d (.val (.int .u32 ((idx eF.1 (v5-(2:Int))).toNat:Int)))) rfl TT.eK rfl rfl (fJ vS) ?_)
   obtain ⟨x_21,G6,h⟩:=bG h
   refine RK.st (some 41) rfl rfl (aA rfl rfl TT.w9 rfl (uW (idx eF.1 (v5-(2:Int))) (17) (19) (10) true _ G6) ?_)
   refine RK.st (some 42) rfl rfl (fT (a:=(((idx eF.1 (v5-(16:Int)))+x_15)+(idx eF.1 (v5-(7:Int))))) (b:=x_21) rfl rfl rfl ?_)
   obtain ⟨GN,h⟩:=gG h
   refine RK.st (some 43) rfl rfl (cX (i:=v5) rfl TT.ru TT.rq rfl rfl GN ?_)
   refine RK.st none rfl rfl (bw (l':=(((eF.put v5 ((((idx eF.1 (v5-(16:Int)))+x_15)+(idx eF.1 (v5-(7:Int))))+x_21)).1.map eG).map .d)) rfl TT.eK rfl rfl rfl rfl rfl rfl (tP GN) (rI GN) ?_)
   refine RK.nil ⟨gl.comp (by rfl),(gC (aY ?_))⟩
   refine QW.view (s':=⟨aF [(2, .aK 0 0),(3, .aK 1 0),(5,pI v5)],aj [.var (((aE.rep 64 (0:BitVec 32)).1.map eG).map .d), .var (((eF.put v5 ((((idx eF.1 (v5-(16:Int)))+x_15)+(idx eF.1 (v5-(7:Int))))+x_21)).1.map eG).map .d)],2,[]⟩) (View.mk 2 [0,1] _ _ _ rfl rfl (by decide) (iC (iC (iC trivial))) (And.intro (by simp only [cF,bB,PV.bR];rfl) (And.intro (by simp only [cF,bB,PV.bR];rfl) trivial)) rfl zL rfl) zL ?_
   refine rG ?_
   refine xm 19 (pI v5) ?_
   obtain ⟨zE,h⟩:=gG h
   refine xs 20 rfl (bY (a:=v5) (b:=(1:Int)) rfl rfl rfl zE ?_)
   refine xz 5 (pI (v5+(1:Int))) ?_
   exact ⟨k_9,by omega,⟨aF [(2, .aK 0 0),(3, .aK 1 0),(5,pI (v5+(1:Int)))],aj [.var (((aE.rep 64 (0:BitVec 32)).1.map eG).map .d), .var (((eF.put v5 ((((idx eF.1 (v5-(16:Int)))+x_15)+(idx eF.1 (v5-(7:Int))))+x_21)).1.map eG).map .d)],2,[]⟩,View.mk 2 [0,1] _ _ _ rfl rfl (by decide) (iC (iC (iC trivial))) (And.intro (by simp only [cF,bB,PV.bR];rfl) (And.intro (by simp only [cF,bB,PV.bR];rfl) trivial)) rfl zL rfl,(v5+(1:Int)),(eF.put v5 ((((idx eF.1 (v5-(16:Int)))+x_15)+(idx eF.1 (v5-(7:Int))))+x_21)),by omega,jG h,rfl⟩
  ·replace h:=eY h qH
   refine QW.exit zL (eA (eA (jY (aY ?_))))
   refine sR ?_
   refine XK.as (some 44) rfl rfl (bx (v:= .agg ((eF.1.map eG).map .d)) rfl TT.vP rfl rfl (kE (by decide)) ⟨.d (.agg (eF.1.map eG)),ia,?_⟩)
   refine XK.st none rfl rfl (bw (l':=((eF.1.map eG).map .d)) rfl TT.vP rfl rfl rfl rfl rfl (aq _) (nT _) (cT ((aq _).trans (aq _).symm)) ?_)
   refine XK.nz ?_
   refine QW.ret zL ?_
   obtain rfl:=sG h
   exact Ends.one (.inr rfl) rfl (aG.cell rfl rfl TT.vP (kE (by decide))) (oI cA) rfl
noncomputable def xK:Option (aE 64 (BitVec 32)):=
  some (⟨[(1116352408:BitVec 32),(1899447441:BitVec 32),(3049323471:BitVec 32),(3921009573:BitVec 32),(961987163:BitVec 32),(1508970993:BitVec 32),(2453635748:BitVec 32),(2870763221:BitVec 32),(3624381080:BitVec 32),(310598401:BitVec 32),(607225278:BitVec 32),(1426881987:BitVec 32),(1925078388:BitVec 32),(2162078206:BitVec 32),(2614888103:BitVec 32),(3248222580:BitVec 32),(3835390401:BitVec 32),(4022224774:BitVec 32),(264347078:BitVec 32),(604807628:BitVec 32),(770255983:BitVec 32),(1249150122:BitVec 32),(1555081692:BitVec 32),(1996064986:BitVec 32),(2554220882:BitVec 32),(2821834349:BitVec 32),(2952996808:BitVec 32),(3210313671:BitVec 32),(3336571891:BitVec 32),(3584528711:BitVec 32),(113926993:BitVec 32),(338241895:BitVec 32),(666307205:BitVec 32),(773529912:BitVec 32),(1294757372:BitVec 32),(1396182291:BitVec 32),(1695183700:BitVec 32),(1986661051:BitVec 32),(2177026350:BitVec 32),(2456956037:BitVec 32),(2730485921:BitVec 32),(2820302411:BitVec 32),(3259730800:BitVec 32),(3345764771:BitVec 32),(3516065817:BitVec 32),(3600352804:BitVec 32),(4094571909:BitVec 32),(275423344:BitVec 32),(430227734:BitVec 32),(506948616:BitVec 32),(659060556:BitVec 32),(883997877:BitVec 32),(958139571:BitVec 32),(1322822218:BitVec 32),(1537002063:BitVec 32),(1747873779:BitVec 32),(1955562222:BitVec 32),(2024104815:BitVec 32),(2227730452:BitVec 32),(2361852424:BitVec 32),(2428436474:BitVec 32),(2756734187:BitVec 32),(3204031479:BitVec 32),(3329325298:BitVec 32)],rfl⟩:(aE 64 (BitVec 32)))
theorem Fw (r:(aE 64 (BitVec 32))) (h:xK=some r):bE Tryz.prog 104 [] (.agg (r.1.map eG)):=by
 refine bE.aU Tryz.func104 rfl (by simp [Tryz.ntmps104]) ?_
 rw [Tryz.ntmps104,TT.Tq]
 refine QW.view (s':=⟨aF [],aj [],0,[]⟩) (View.init (by rfl)) zL ?_
 unfold xK at h
 refine sR ?_
 refine xs 0 rfl (bP (l:=(((aE.rep 64 (0:BitVec 32)).1.map eG).map .d)) rfl TT.vR rfl rfl ?_)
 refine XK.nz ?_
 refine sR ?_
 refine XK.as (some 1) rfl rfl (u5 (v:= .agg [.d (.val (.int .u32 ((1116352408:BitVec 32).toNat:Int))), .d (.val (.int .u32 ((1899447441:BitVec 32).toNat:Int))), .d (.val (.int .u32 ((3049323471:BitVec 32).toNat:Int))), .d (.val (.int .u32 ((3921009573:BitVec 32).toNat:Int))), .d (.val (.int .u32 ((961987163:BitVec 32).toNat:Int))), .d (.val (.int .u32 ((1508970993:BitVec 32).toNat:Int))), .d (.val (.int .u32 ((2453635748:BitVec 32).toNat:Int))), .d (.val (.int .u32 ((2870763221:BitVec 32).toNat:Int))), .d (.val (.int .u32 ((3624381080:BitVec 32).toNat:Int))), .d (.val (.int .u32 ((310598401:BitVec 32).toNat:Int))), .d (.val (.int .u32 ((607225278:BitVec 32).toNat:Int))), .d (.val (.int .u32 ((1426881987:BitVec 32).toNat:Int))), .d (.val (.int .u32 ((1925078388:BitVec 32).toNat:Int))), .d (.val (.int .u32 ((2162078206:BitVec 32).toNat:Int))), .d (.val (.int .u32 ((2614888103:BitVec 32).toNat:Int))), .d (.val (.int .u32 ((3248222580:BitVec 32).toNat:Int))), .d (.val (.int .u32 ((3835390401:BitVec 32).toNat:Int))), .d (.val (.int .u32 ((4022224774:BitVec 32).toNat:Int))), .d (.val (.int .u32 ((264347078:BitVec 32).toNat:Int))), .d (.val (.int .u32 ((604807628:BitVec 32).toNat:Int))), .d (.val (.int .u32 ((770255983:BitVec 32).toNat:Int))), .d (.val (.int .u32 ((1249150122:BitVec 32).toNat:Int))), .d (.val (.int .u32 ((1555081692:BitVec 32).toNat:Int))), .d (.val (.int .u32 ((1996064986:BitVec 32).toNat:Int))), .d (.val (.int .u32 ((2554220882:BitVec 32).toNat:Int))), .d (.val (.int .u32 ((2821834349:BitVec 32).toNat:Int))), .d (.val (.int .u32 ((2952996808:BitVec 32).toNat:Int))), .d (.val (.int .u32 ((3210313671:BitVec 32).toNat:Int))), .d (.val (.int .u32 ((3336571891:BitVec 32).toNat:Int))), .d (.val (.int .u32 ((3584528711:BitVec 32).toNat:Int))), .d (.val (.int .u32 ((113926993:BitVec 32).toNat:Int))), .d (.val (.int .u32 ((338241895:BitVec 32).toNat:Int))), .d (.val (.int .u32 ((666307205:BitVec 32).toNat:Int))), .d (.val (.int .u32 ((773529912:BitVec 32).toNat:Int))), .d (.val (.int .u32 ((1294757372:BitVec 32).toNat:Int))), .d (.val (.int .u32 ((1396182291:BitVec 32).toNat:Int))), .d (.val (.int .u32 ((1695183700:BitVec 32).toNat:Int))), .d (.val (.int .u32 ((1986661051:BitVec 32).toNat:Int))), .d (.val (.int .u32 ((2177026350:BitVec 32).toNat:Int))), .d (.val (.int .u32 ((2456956037:BitVec 32).toNat:Int))), .d (.val (.int .u32 ((2730485921:BitVec 32).toNat:Int))), .d (.val (.int .u32 ((2820302411:BitVec 32).toNat:Int))), .d (.val (.int .u32 ((3259730800:BitVec 32).toNat:Int))), .d (.val (.int .u32 ((3345764771:BitVec 32).toNat:Int))), .d (.val (.int .u32 ((3516065817:BitVec 32).toNat:Int))), .d (.val (.int .u32 ((3600352804:BitVec 32).toNat:Int))), .d (.val (.int .u32 ((4094571909:BitVec 32).toNat:Int))), .d (.val (.int .u32 ((275423344:BitVec 32).toNat:Int))), .d (.val (.int .u32 ((430227734:BitVec 32).toNat:Int))), .d (.val (.int .u32 ((506948616:BitVec 32).toNat:Int))), .d (.val (.int .u32 ((659060556:BitVec 32).toNat:Int))), .d (.val (.int .u32 ((883997877:BitVec 32).toNat:Int))), .d (.val (.int .u32 ((958139571:BitVec 32).toNat:Int))), .d (.val (.int .u32 ((1322822218:BitVec 32).toNat:Int))), .d (.val (.int .u32 ((1537002063:BitVec 32).toNat:Int))), .d (.val (.int .u32 ((1747873779:BitVec 32).toNat:Int))), .d (.val (.int .u32 ((1955562222:BitVec 32).toNat:Int))), .d (.val (.int .u32 ((2024104815:BitVec 32).toNat:Int))), .d (.val (.int .u32 ((2227730452:BitVec 32).toNat:Int))), .d (.val (.int .u32 ((2361852424:BitVec 32).toNat:Int))), .d (.val (.int .u32 ((2428436474:BitVec 32).toNat:Int))), .d (.val (.int .u32 ((2756734187:BitVec 32).toNat:Int))), .d (.val (.int .u32 ((3204031479:BitVec 32).toNat:Int))), .d (.val (.int .u32 ((3329325298:BitVec 32).toNat:Int)))]) rfl (by rw [TT.Jq];simp [k8,k7,placeOf,og,aB,PV.cz,PV.g8,Value.oneCell',lX,nG,dK,List.all,cu,aF,jz,iL,bV,jP]) (by rw [TT.Jq];rfl) ⟨.d (.agg ((⟨[(1116352408:BitVec 32),(1899447441:BitVec 32),(3049323471:BitVec 32),(3921009573:BitVec 32),(961987163:BitVec 32),(1508970993:BitVec 32),(2453635748:BitVec 32),(2870763221:BitVec 32),(3624381080:BitVec 32),(310598401:BitVec 32),(607225278:BitVec 32),(1426881987:BitVec 32),(1925078388:BitVec 32),(2162078206:BitVec 32),(2614888103:BitVec 32),(3248222580:BitVec 32),(3835390401:BitVec 32),(4022224774:BitVec 32),(264347078:BitVec 32),(604807628:BitVec 32),(770255983:BitVec 32),(1249150122:BitVec 32),(1555081692:BitVec 32),(1996064986:BitVec 32),(2554220882:BitVec 32),(2821834349:BitVec 32),(2952996808:BitVec 32),(3210313671:BitVec 32),(3336571891:BitVec 32),(3584528711:BitVec 32),(113926993:BitVec 32),(338241895:BitVec 32),(666307205:BitVec 32),(773529912:BitVec 32),(1294757372:BitVec 32),(1396182291:BitVec 32),(1695183700:BitVec 32),(1986661051:BitVec 32),(2177026350:BitVec 32),(2456956037:BitVec 32),(2730485921:BitVec 32),(2820302411:BitVec 32),(3259730800:BitVec 32),(3345764771:BitVec 32),(3516065817:BitVec 32),(3600352804:BitVec 32),(4094571909:BitVec 32),(275423344:BitVec 32),(430227734:BitVec 32),(506948616:BitVec 32),(659060556:BitVec 32),(883997877:BitVec 32),(958139571:BitVec 32),(1322822218:BitVec 32),(1537002063:BitVec 32),(1747873779:BitVec 32),(1955562222:BitVec 32),(2024104815:BitVec 32),(2227730452:BitVec 32),(2361852424:BitVec 32),(2428436474:BitVec 32),(2756734187:BitVec 32),(3204031479:BitVec 32),(3329325298:BitVec 32)],rfl⟩:(aE 64 (BitVec 32))).1.map eG)),(iy.cW rfl),?_⟩)
 refine XK.st none rfl rfl (bw (l':=(((⟨[(1116352408:BitVec 32),(1899447441:BitVec 32),(3049323471:BitVec 32),(3921009573:BitVec 32),(961987163:BitVec 32),(1508970993:BitVec 32),(2453635748:BitVec 32),(2870763221:BitVec 32),(3624381080:BitVec 32),(310598401:BitVec 32),(607225278:BitVec 32),(1426881987:BitVec 32),(1925078388:BitVec 32),(2162078206:BitVec 32),(2614888103:BitVec 32),(3248222580:BitVec 32),(3835390401:BitVec 32),(4022224774:BitVec 32),(264347078:BitVec 32),(604807628:BitVec 32),(770255983:BitVec 32),(1249150122:BitVec 32),(1555081692:BitVec 32),(1996064986:BitVec 32),(2554220882:BitVec 32),(2821834349:BitVec 32),(2952996808:BitVec 32),(3210313671:BitVec 32),(3336571891:BitVec 32),(3584528711:BitVec 32),(113926993:BitVec 32),(338241895:BitVec 32),(666307205:BitVec 32),(773529912:BitVec 32),(1294757372:BitVec 32),(1396182291:BitVec 32),(1695183700:BitVec 32),(1986661051:BitVec 32),(2177026350:BitVec 32),(2456956037:BitVec 32),(2730485921:BitVec 32),(2820302411:BitVec 32),(3259730800:BitVec 32),(3345764771:BitVec 32),(3516065817:BitVec 32),(3600352804:BitVec 32),(4094571909:BitVec 32),(275423344:BitVec 32),(430227734:BitVec 32),(506948616:BitVec 32),(659060556:BitVec 32),(883997877:BitVec 32),(958139571:BitVec 32),(1322822218:BitVec 32),(1537002063:BitVec 32),(1747873779:BitVec 32),(1955562222:BitVec 32),(2024104815:BitVec 32),(2227730452:BitVec 32),(2361852424:BitVec 32),(2428436474:BitVec 32),(2756734187:BitVec 32),(3204031479:BitVec 32),(3329325298:BitVec 32)],rfl⟩:(aE 64 (BitVec 32))).1.map eG).map .d)) rfl TT.vP rfl rfl rfl rfl rfl (aq _) (nT _) (cT ((aq _).trans (aq _).symm)) ?_)
 refine XK.nz ?_
 refine QW.ret zL ?_
 obtain rfl:=sO h
 exact Ends.one (.inr rfl) rfl (aG.cell rfl rfl TT.vP (kE (by decide))) (oI cA) rfl
inductive E4 where
 | S
 | L1 (dn:Int) (bl:(aE 64 (BitVec 32))) (cS:(aE 64 (BitVec 32))) (v7:(aE 8 (BitVec 32)))
 | L2 (mU:Int) (v2:(aE 8 (BitVec 32))) (xe:(aE 8 (BitVec 32)))
noncomputable def gf (h0:(aE 8 (BitVec 32))) (s1:(List UInt8)):E4→Option (E4⊕(aE 8 (BitVec 32)))
 | .S=>
  ((y6 s1).bind fun (x_1:(aE 64 (BitVec 32)))=>
  ((xK).bind fun (x_3:(aE 64 (BitVec 32)))=>
  some (.inl (.L1 (0) x_1 x_3 h0))))
 | .L1 dn bl cS v7=>
  (bif (decide (dn<(64:Int))) then
  ((kV (idx v7.1 (4:Int)) (6) (11) (25) false).bind fun (x_7:(BitVec 32))=>
  gO (0≤dn∧dn<((64:Nat):Int)) (
  gO (0≤dn∧dn<((64:Nat):Int)) (
  ((kV (idx v7.1 (0:Int)) (2) (13) (22) false).bind fun (x_11:(BitVec 32))=>
  gO (bA (dn+(1:Int))) (
  some (.inl (.L1 (dn+(1:Int)) bl cS (⟨[((((((idx v7.1 (7:Int))+x_7)+(((idx v7.1 (4:Int))&&& (idx v7.1 (5:Int)))^^^((~~~(idx v7.1 (4:Int)))&&& (idx v7.1 (6:Int)))))+(idx cS.1 dn))+(idx bl.1 dn))+(x_11+((((idx v7.1 (0:Int))&&& (idx v7.1 (1:Int)))^^^((idx v7.1 (0:Int))&&& (idx v7.1 (2:Int))))^^^((idx v7.1 (1:Int))&&& (idx v7.1 (2:Int)))))),(idx v7.1 (0:Int)),(idx v7.1 (1:Int)),(idx v7.1 (2:Int)),((idx v7.1 (3:Int))+(((((idx v7.1 (7:Int))+x_7)+(((idx v7.1 (4:Int))&&& (idx v7.1 (5:Int)))^^^((~~~(idx v7.1 (4:Int)))&&& (idx v7.1 (6:Int)))))+(idx cS.1 dn))+(idx bl.1 dn))),(idx v7.1 (4:Int)),(idx v7.1 (5:Int)),(idx v7.1 (6:Int))],rfl⟩:(aE 8 (BitVec 32))))))))))
  else
  some (.inl (.L2 (0) h0 v7)))
 | .L2 mU v2 xe=>
  (bif (decide (mU<(8:Int))) then
  gO (0≤mU∧mU<((8:Nat):Int)) (
  gO (0≤mU∧mU<((8:Nat):Int)) (
  gO (0≤mU∧mU<((8:Nat):Int)) (
  gO (bA (mU+(1:Int))) (
  some (.inl (.L2 (mU+(1:Int)) (v2.put mU ((idx v2.1 mU)+(idx xe.1 mU))) xe))))))
  else
  some (.inr v2))
noncomputable def As (h0:(aE 8 (BitVec 32))) (s1:(List UInt8)):Option (aE 8 (BitVec 32)):=gU (gf h0 s1) .S
theorem IG (h0:(aE 8 (BitVec 32))) (s1:(List UInt8)) (r:(aE 8 (BitVec 32))) (h:As h0 s1=some r):bE Tryz.prog 89 [.agg (h0.1.map eG), .val (sV s1)] (.agg (r.1.map eG)):=by
 refine bE.aU Tryz.func89 rfl (by simp [Tryz.ntmps89]) ?_
 rw [Tryz.ntmps89,TT.VC]
 refine QW.view (s':=⟨aF [(0, .d (.agg (h0.1.map eG))),(1,pS s1)],aj [],0,[]⟩) (View.init (by rfl)) zL ?_
 replace h:=cG h
 obtain ⟨_,h⟩:=h
 obtain ⟨c8,rfl,h9⟩:=aQ h;replace h:=h9;clear h9;rw [gf] at h
 refine sR ?_
 refine xs 2 rfl (Lv (c:=((h0.1.map eG).map .d)) rfl rfl rfl rfl rfl ?_)
 refine xs 4 rfl (bP (l:=(((aE.rep 8 (0:BitVec 32)).1.map eG).map .d)) rfl TT.y3 rfl rfl ?_)
 refine XK.nz ?_
 refine sR ?_
 refine xm 14 (pS s1) ?_
 obtain ⟨x_1,fy,h⟩:=bG h
 refine xs 15 rfl (aA rfl rfl TT.Mh rfl (G5 s1 _ fy) ?_)
 obtain ⟨x_3,vM,h⟩:=bG h
 refine xs 16 rfl (aA rfl rfl TT.Mi rfl (Fw _ vM) ?_)
 refine xs 5 rfl (bP (l:=(((aE.rep 64 (0:BitVec 32)).1.map eG).map .d)) rfl TT.vR rfl rfl ?_)
 refine xs 6 rfl (bP (l:=(((aE.rep 64 (0:BitVec 32)).1.map eG).map .d)) rfl TT.vR rfl rfl ?_)
 refine XK.st none rfl rfl (bw (l':=((x_1.1.map eG).map .d)) rfl TT.vP rfl rfl rfl rfl rfl (aq _) (nT _) (cT ((aq _).trans (aq _).symm)) ?_)
 refine XK.st none rfl rfl (bw (l':=((x_3.1.map eG).map .d)) rfl TT.vP rfl rfl rfl rfl rfl (aq _) (nT _) (cT ((aq _).trans (aq _).symm)) ?_)
 refine XK.nz ?_
 refine sR ?_
 refine XK.as (some 17) rfl rfl (bx (v:= .agg ((h0.1.map eG).map .d)) rfl TT.oV rfl rfl (kE (by decide)) ⟨.d (.agg (h0.1.map eG)),ia,?_⟩)
 refine xs 7 rfl (bP (l:=(((aE.rep 8 (0:BitVec 32)).1.map eG).map .d)) rfl TT.y3 rfl rfl ?_)
 refine XK.st none rfl rfl (bw (l':=((h0.1.map eG).map .d)) rfl TT.oV rfl rfl rfl rfl rfl (aq _) (nT _) (cT ((aq _).trans (aq _).symm)) ?_)
 refine XK.nz ?_
 refine QW.seq ?_
 refine sR ?_
 refine xm 18 (pI (0)) ?_
 refine XK.nz ?_
 refine QW.block ?_
 refine QW.loop (fun k σ=>∃ dn:Int,∃ bl:(aE 64 (BitVec 32)),∃ cS:(aE 64 (BitVec 32)),∃ v7:(aE 8 (BitVec 32)),k≤c8∧run (gf h0 s1) k (.L1 dn bl cS v7)=some r∧σ=⟨aF [(2, .aK 0 0),(4, .aK 1 0),(5, .aK 2 0),(6, .aK 3 0),(7, .aK 4 0),(18,pI dn)],aj [.var ((h0.1.map eG).map .d), .var (((aE.rep 8 (0:BitVec 32)).1.map eG).map .d), .var ((bl.1.map eG).map .d), .var ((cS.1.map eG).map .d), .var ((v7.1.map eG).map .d)],5,[]⟩) c8 zL ⟨⟨aF [(2, .aK 0 0),(4, .aK 1 0),(5, .aK 2 0),(6, .aK 3 0),(7, .aK 4 0),(18,pI (0))],aj [.var ((h0.1.map eG).map .d), .var (((aE.rep 8 (0:BitVec 32)).1.map eG).map .d), .var ((x_1.1.map eG).map .d), .var ((x_3.1.map eG).map .d), .var ((h0.1.map eG).map .d)],5,[]⟩,View.mk 5 [0,1,2,3,4] _ _ _ rfl rfl (by decide) (iC (iC (iC (iC (iC (iC trivial)))))) (And.intro (by simp only [cF,bB,PV.bR];rfl) (And.intro (by simp only [cF,bB,PV.bR];rfl) (And.intro (by simp only [cF,bB,PV.bR];rfl) (And.intro (by simp only [cF,bB,PV.bR];rfl) (And.intro (by simp only [cF,bB,PV.bR];rfl) trivial))))) rfl zL rfl,0,x_1,x_3,h0,Nat.le_refl _,jG h,rfl⟩ ?_
 rintro Tl _ ⟨dn,bl,cS,v7,Tm,h,rfl⟩
 obtain ⟨Ft,rfl,h9⟩:=aQ h;replace h:=h9;clear h9;rw [gf] at h
 refine sR ?_
 refine xs 19 rfl (cK (a:=dn) (b:=(64:Int)) rfl rfl rfl ?_)
 refine XK.nz ?_
 refine QW.seq ?_
 refine QW.cond (t:=(decide (dn<(64:Int)))) rfl zL (fun lO=>?_) (fun lO=>?_)
 ·replace h:=eX h lO
  refine QW.skip zL (aY ?_)
  refine QW.seq ?_
  refine QW.block ?_
  refine sR ?_
  refine xm 20 (pI dn) ?_
  refine xz 8 (pI dn) ?_
  refine sR ?_
  refine xs 21 rfl (cX (i:=(4:Int)) rfl TT.fV TT.fU rfl rfl (show 0≤(4:Int)∧(4:Int)<((8:Nat):Int) by decide) ?_)
  refine xs 22 rfl (bx (v:= .d (.val (.int .u32 ((idx v7.1 (4:Int)).toNat:Int)))) rfl TT.eK rfl rfl (fJ (show 0≤(4:Int)∧(4:Int)<((8:Nat):Int) by decide)) ?_)
  refine xs 23 rfl (cX (i:=(5:Int)) rfl TT.fV TT.fU rfl rfl (show 0≤(5:Int)∧(5:Int)<((8:Nat):Int) by decide) ?_)
  refine xs 24 rfl (bx (v:= .d (.val (.int .u32 ((idx v7.1 (5:Int)).toNat:Int)))) rfl TT.eK rfl rfl (fJ (show 0≤(5:Int)∧(5:Int)<((8:Nat):Int) by decide)) ?_)
  refine xs 25 rfl (m9 (a:=(idx v7.1 (4:Int))) (b:=(idx v7.1 (5:Int))) rfl rfl rfl ?_)
  refine xs 26 rfl (cX (i:=(4:Int)) rfl TT.fV TT.fU rfl rfl (show 0≤(4:Int)∧(4:Int)<((8:Nat):Int) by decide) ?_)
  refine xs 27 rfl (bx (v:= .d (.val (.int .u32 ((idx v7.1 (4:Int)).toNat:Int)))) rfl TT.eK rfl rfl (fJ (show 0≤(4:Int)∧(4:Int)<((8:Nat):Int) by decide)) ?_)
  refine xs 28 rfl (Qs (a:=(idx v7.1 (4:Int))) rfl rfl rfl (by decide) ?_)
  refine xs 29 rfl (cX (i:=(6:Int)) rfl TT.fV TT.fU rfl rfl (show 0≤(6:Int)∧(6:Int)<((8:Nat):Int) by decide) ?_)
  refine xs 30 rfl (bx (v:= .d (.val (.int .u32 ((idx v7.1 (6:Int)).toNat:Int)))) rfl TT.eK rfl rfl (fJ (show 0≤(6:Int)∧(6:Int)<((8:Nat):Int) by decide)) ?_)
  refine xs 31 rfl (m9 (a:=(~~~(idx v7.1 (4:Int)))) (b:=(idx v7.1 (6:Int))) rfl rfl rfl ?_)
  refine xs 32 rfl (j6 (a:=((idx v7.1 (4:Int))&&& (idx v7.1 (5:Int)))) (b:=((~~~(idx v7.1 (4:Int)))&&& (idx v7.1 (6:Int)))) rfl rfl rfl ?_)
  refine xz 9 (.d (.val (.int .u32 ((((idx v7.1 (4:Int))&&& (idx v7.1 (5:Int)))^^^((~~~(idx v7.1 (4:Int)))&&& (idx v7.1 (6:Int)))).toNat:Int)))) ?_
  refine QW.seq ?_
  refine QW.view (s':=⟨aF [(2, .aK 0 0),(4, .aK 1 0),(5, .aK 2 0),(6, .aK 3 0),(7, .aK 4 0),(8,pI dn),(9, .d (.val (.int .u32 ((((idx v7.1 (4:Int))&&& (idx v7.1 (5:Int)))^^^((~~~(idx v7.1 (4:Int)))&&& (idx v7.1 (6:Int)))).toNat:Int)))),(18,pI dn)],aj [.var ((h0.1.map eG).map .d), .var (((aE.rep 8 (0:BitVec 32)).1.map eG).map .d), .var ((bl.1.map eG).map .d), .var ((cS.1.map eG).map .d), .var ((v7.1.map eG).map .d)],5,[]⟩) (View.mk 5 [0,1,2,3,4] _ _ _ rfl rfl (by decide) (iC (iC (iC (iC (iC (iC (iC (iC trivial)))))))) (And.intro (by simp only [cF,bB,PV.bR];rfl) (And.intro (by simp only [cF,bB,PV.bR];rfl) (And.intro (by simp only [cF,bB,PV.bR];rfl) (And.intro (by simp only [cF,bB,PV.bR];rfl) (And.intro (by simp only [cF,bB,PV.bR];rfl) trivial))))) rfl zL rfl) zL ?_
  refine rG ?_
  refine xs 33 rfl (cX (i:=(0:Int)) rfl TT.fV TT.fU rfl rfl (show 0≤(0:Int)∧(0:Int)<((8:Nat):Int) by decide) ?_)
  refine xs 34 rfl (bx (v:= .d (.val (.int .u32 ((idx v7.1 (0:Int)).toNat:Int)))) rfl TT.eK rfl rfl (fJ (show 0≤(0:Int)∧(0:Int)<((8:Nat):Int) by decide)) ?_)
  refine xs 35 rfl (cX (i:=(1:Int)) rfl TT.fV TT.fU rfl rfl (show 0≤(1:Int)∧(1:Int)<((8:Nat):Int) by decide) ?_)
  refine xs 36 rfl (bx (v:= .d (.val (.int .u32 ((idx v7.1 (1:Int)).toNat:Int)))) rfl TT.eK rfl rfl (fJ (show 0≤(1:Int)∧(1:Int)<((8:Nat):Int) by decide)) ?_)
  refine xs 37 rfl (m9 (a:=(idx v7.1 (0:Int))) (b:=(idx v7.1 (1:Int))) rfl rfl rfl ?_)
  refine xs 38 rfl (cX (i:=(0:Int)) rfl TT.fV TT.fU rfl rfl (show 0≤(0:Int)∧(0:Int)<((8:Nat):Int) by decide) ?_)
  refine xs 39 rfl (bx (v:= .d (.val (.int .u32 ((idx v7.1 (0:Int)).toNat:Int)))) rfl TT.eK rfl rfl (fJ (show 0≤(0:Int)∧(0:Int)<((8:Nat):Int) by decide)) ?_)
  refine xs 40 rfl (cX (i:=(2:Int)) rfl TT.fV TT.fU rfl rfl (show 0≤(2:Int)∧(2:Int)<((8:Nat):Int) by decide) ?_)
  refine xs 41 rfl (bx (v:= .d (.val (.int .u32 ((idx v7.1 (2:Int)).toNat:Int)))) rfl TT.eK rfl rfl (fJ (show 0≤(2:Int)∧(2:Int)<((8:Nat):Int) by decide)) ?_)
  refine xs 42 rfl (m9 (a:=(idx v7.1 (0:Int))) (b:=(idx v7.1 (2:Int))) rfl rfl rfl ?_)
  refine xs 43 rfl (j6 (a:=((idx v7.1 (0:Int))&&& (idx v7.1 (1:Int)))) (b:=((idx v7.1 (0:Int))&&& (idx v7.1 (2:Int)))) rfl rfl rfl ?_)
  refine xs 44 rfl (cX (i:=(1:Int)) rfl TT.fV TT.fU rfl rfl (show 0≤(1:Int)∧(1:Int)<((8:Nat):Int) by decide) ?_)
  refine xs 45 rfl (bx (v:= .d (.val (.int .u32 ((idx v7.1 (1:Int)).toNat:Int)))) rfl TT.eK rfl rfl (fJ (show 0≤(1:Int)∧(1:Int)<((8:Nat):Int) by decide)) ?_)
  refine xs 46 rfl (cX (i:=(2:Int)) rfl TT.fV TT.fU rfl rfl (show 0≤(2:Int)∧(2:Int)<((8:Nat):Int) by decide) ?_)
  refine xs 47 rfl (bx (v:= .d (.val (.int .u32 ((idx v7.1 (2:Int)).toNat:Int)))) rfl TT.eK rfl rfl (fJ (show 0≤(2:Int)∧(2:Int)<((8:Nat):Int) by decide)) ?_)
  refine xs 48 rfl (m9 (a:=(idx v7.1 (1:Int))) (b:=(idx v7.1 (2:Int))) rfl rfl rfl ?_)
  refine xs 49 rfl (j6 (a:=(((idx v7.1 (0:Int))&&& (idx v7.1 (1:Int)))^^^((idx v7.1 (0:Int))&&& (idx v7.1 (2:Int))))) (b:=((idx v7.1 (1:Int))&&& (idx v7.1 (2:Int)))) rfl rfl rfl ?_)
  refine xz 10 (.d (.val (.int .u32 (((((idx v7.1 (0:Int))&&& (idx v7.1 (1:Int)))^^^((idx v7.1 (0:Int))&&& (idx v7.1 (2:Int))))^^^((idx v7.1 (1:Int))&&& (idx v7.1 (2:Int)))).toNat:Int)))) ?_
  refine QW.seq ?_
  refine QW.view (s':=⟨aF [(2, .aK 0 0),(4, .aK 1 0),(5, .aK 2 0),(6, .aK 3 0),(7, .aK 4 0),(8,pI dn),(9, .d (.val (.int .u32 ((((idx v7.1 (4:Int))&&& (idx v7.1 (5:Int)))^^^((~~~(idx v7.1 (4:Int)))&&& (idx v7.1 (6:Int)))).toNat:Int)))),(10, .d (.val (.int .u32 (((((idx v7.1 (0:Int))&&& (idx v7.1 (1:Int)))^^^((idx v7.1 (0:Int))&&& (idx v7.1 (2:Int))))^^^((idx v7.1 (1:Int))&&& (idx v7.1 (2:Int)))).toNat:Int)))),(18,pI dn)],aj [.var ((h0.1.map eG).map .d), .var (((aE.rep 8 (0:BitVec 32)).1.map eG).map .d), .var ((bl.1.map eG).map .d), .var ((cS.1.map eG).map .d), .var ((v7.1.map eG).map .d)],5,[]⟩) (View.mk 5 [0,1,2,3,4] _ _ _ rfl rfl (by decide) (iC (iC (iC (iC (iC (iC (iC (iC (iC trivial))))))))) (And.intro (by simp only [cF,bB,PV.bR];rfl) (And.intro (by simp only [cF,bB,PV.bR];rfl) (And.intro (by simp only [cF,bB,PV.bR];rfl) (And.intro (by simp only [cF,bB,PV.bR];rfl) (And.intro (by simp only [cF,bB,PV.bR];rfl) trivial))))) rfl zL rfl) zL ?_
  refine QW.region zL (PW.kC (id:=8) dh (M:=_) rfl (by kernel_rfl) ?_)
  refine RQ.st (some 50) rfl rfl (cX (i:=(7:Int)) rfl TT.fV TT.fU rfl rfl (show 0≤(7:Int)∧(7:Int)<((8:Nat):Int) by decide) ⟨⟨rfl,rfl⟩,?_⟩)
  refine RQ.st (some 51) rfl rfl (bx (v:= .d (.val (.int .u32 ((idx v7.1 (7:Int)).toNat:Int)))) rfl TT.eK rfl rfl (fJ (show 0≤(7:Int)∧(7:Int)<((8:Nat):Int) by decide)) ⟨⟨rfl,rfl⟩,?_⟩)
  refine RQ.st (some 52) rfl rfl (cX (i:=(4:Int)) rfl TT.fV TT.fU rfl rfl (show 0≤(4:Int)∧(4:Int)<((8:Nat):Int) by decide) ⟨⟨rfl,rfl⟩,?_⟩)
  refine RQ.st (some 53) rfl rfl (bx (v:= .d (.val (.int .u32 ((idx v7.1 (4:Int)).toNat:Int)))) rfl TT.eK rfl rfl (fJ (show 0≤(4:Int)∧(4:Int)<((8:Nat):Int) by decide)) ⟨⟨rfl,rfl⟩,?_⟩)
  obtain ⟨x_7,oo,h⟩:=bG h
  refine RQ.st (some 54) rfl rfl (aA rfl rfl TT.w9 rfl (uW (idx v7.1 (4:Int)) (6) (11) (25) false _ oo) ⟨⟨rfl,rfl⟩,?_⟩)
  refine RQ.st (some 55) rfl rfl (fT (a:=(idx v7.1 (7:Int))) (b:=x_7) rfl rfl rfl ⟨⟨rfl,rfl⟩,?_⟩)
  refine RQ.st (some 56) rfl rfl (au (v:= .d (.val (.int .u32 ((((idx v7.1 (4:Int))&&& (idx v7.1 (5:Int)))^^^((~~~(idx v7.1 (4:Int)))&&& (idx v7.1 (6:Int)))).toNat:Int)))) rfl rfl ⟨⟨rfl,rfl⟩,?_⟩)
  refine RQ.st (some 57) rfl rfl (fT (a:=((idx v7.1 (7:Int))+x_7)) (b:=(((idx v7.1 (4:Int))&&& (idx v7.1 (5:Int)))^^^((~~~(idx v7.1 (4:Int)))&&& (idx v7.1 (6:Int))))) rfl rfl rfl ⟨⟨rfl,rfl⟩,?_⟩)
  refine RQ.st (some 58) rfl rfl (au (v:=pI dn) rfl rfl ⟨⟨rfl,rfl⟩,?_⟩)
  obtain ⟨rN,h⟩:=gG h
  refine RQ.st (some 59) rfl rfl (cX (i:=dn) rfl TT.ru TT.rq rfl rfl rN ⟨⟨rfl,rfl⟩,?_⟩)
  refine RQ.st (some 60) rfl rfl (bx (v:= .d (.val (.int .u32 ((idx cS.1 dn).toNat:Int)))) rfl TT.eK rfl rfl (fJ rN) ⟨⟨rfl,rfl⟩,?_⟩)
  refine RQ.st (some 61) rfl rfl (fT (a:=(((idx v7.1 (7:Int))+x_7)+(((idx v7.1 (4:Int))&&& (idx v7.1 (5:Int)))^^^((~~~(idx v7.1 (4:Int)))&&& (idx v7.1 (6:Int)))))) (b:=(idx cS.1 dn)) rfl rfl rfl ⟨⟨rfl,rfl⟩,?_⟩)
  refine RQ.st (some 62) rfl rfl (au (v:=pI dn) rfl rfl ⟨⟨rfl,rfl⟩,?_⟩)
  obtain ⟨oq,h⟩:=gG h
  refine RQ.st (some 63) rfl rfl (cX (i:=dn) rfl TT.ru TT.rq rfl rfl oq ⟨⟨rfl,rfl⟩,?_⟩)
  refine RQ.st (some 64) rfl rfl (bx (v:= .d (.val (.int .u32 ((idx bl.1 dn).toNat:Int)))) rfl TT.eK rfl rfl (fJ oq) ⟨⟨rfl,rfl⟩,?_⟩)
  refine RQ.st (some 65) rfl rfl (fT (a:=((((idx v7.1 (7:Int))+x_7)+(((idx v7.1 (4:Int))&&& (idx v7.1 (5:Int)))^^^((~~~(idx v7.1 (4:Int)))&&& (idx v7.1 (6:Int)))))+(idx cS.1 dn))) (b:=(idx bl.1 dn)) rfl rfl rfl ⟨⟨rfl,rfl⟩,?_⟩)
  refine RQ.st (some 11) rfl rfl (cq (v:= .d (.val (.int .u32 ((((((idx v7.1 (7:Int))+x_7)+(((idx v7.1 (4:Int))&&& (idx v7.1 (5:Int)))^^^((~~~(idx v7.1 (4:Int)))&&& (idx v7.1 (6:Int)))))+(idx cS.1 dn))+(idx bl.1 dn)).toNat:Int)))) rfl rfl ⟨⟨rfl,rfl⟩,?_⟩)
  refine RQ.nil (aY ?_)
  refine QW.seq ?_
  refine QW.view (s':=⟨aF [(2, .aK 0 0),(4, .aK 1 0),(5, .aK 2 0),(6, .aK 3 0),(7, .aK 4 0),(10, .d (.val (.int .u32 (((((idx v7.1 (0:Int))&&& (idx v7.1 (1:Int)))^^^((idx v7.1 (0:Int))&&& (idx v7.1 (2:Int))))^^^((idx v7.1 (1:Int))&&& (idx v7.1 (2:Int)))).toNat:Int)))),(11, .d (.val (.int .u32 ((((((idx v7.1 (7:Int))+x_7)+(((idx v7.1 (4:Int))&&& (idx v7.1 (5:Int)))^^^((~~~(idx v7.1 (4:Int)))&&& (idx v7.1 (6:Int)))))+(idx cS.1 dn))+(idx bl.1 dn)).toNat:Int)))),(18,pI dn)],aj [.var ((h0.1.map eG).map .d), .var (((aE.rep 8 (0:BitVec 32)).1.map eG).map .d), .var ((bl.1.map eG).map .d), .var ((cS.1.map eG).map .d), .var ((v7.1.map eG).map .d)],5,[]⟩) (View.mk 5 [0,1,2,3,4] _ _ _ rfl rfl (by decide) (iC (iC (iC (iC (iC (iC (iC (iC trivial)))))))) (And.intro (by simp only [cF,bB,PV.bR];rfl) (And.intro (by simp only [cF,bB,PV.bR];rfl) (And.intro (by simp only [cF,bB,PV.bR];rfl) (And.intro (by simp only [cF,bB,PV.bR];rfl) (And.intro (by simp only [cF,bB,PV.bR];rfl) trivial))))) rfl zL rfl) zL ?_
  refine rG ?_
  refine xs 66 rfl (cX (i:=(0:Int)) rfl TT.fV TT.fU rfl rfl (show 0≤(0:Int)∧(0:Int)<((8:Nat):Int) by decide) ?_)
  refine xs 67 rfl (bx (v:= .d (.val (.int .u32 ((idx v7.1 (0:Int)).toNat:Int)))) rfl TT.eK rfl rfl (fJ (show 0≤(0:Int)∧(0:Int)<((8:Nat):Int) by decide)) ?_)
  obtain ⟨x_11,pR,h⟩:=bG h
  refine xs 68 rfl (aA rfl rfl TT.w9 rfl (uW (idx v7.1 (0:Int)) (2) (13) (22) false _ pR) ?_)
  refine xm 69 (.d (.val (.int .u32 (((((idx v7.1 (0:Int))&&& (idx v7.1 (1:Int)))^^^((idx v7.1 (0:Int))&&& (idx v7.1 (2:Int))))^^^((idx v7.1 (1:Int))&&& (idx v7.1 (2:Int)))).toNat:Int)))) ?_
  refine xs 70 rfl (fT (a:=x_11) (b:=((((idx v7.1 (0:Int))&&& (idx v7.1 (1:Int)))^^^((idx v7.1 (0:Int))&&& (idx v7.1 (2:Int))))^^^((idx v7.1 (1:Int))&&& (idx v7.1 (2:Int))))) rfl rfl rfl ?_)
  refine xz 12 (.d (.val (.int .u32 ((x_11+((((idx v7.1 (0:Int))&&& (idx v7.1 (1:Int)))^^^((idx v7.1 (0:Int))&&& (idx v7.1 (2:Int))))^^^((idx v7.1 (1:Int))&&& (idx v7.1 (2:Int))))).toNat:Int)))) ?_
  refine rG ?_
  refine xm 71 (.d (.val (.int .u32 ((((((idx v7.1 (7:Int))+x_7)+(((idx v7.1 (4:Int))&&& (idx v7.1 (5:Int)))^^^((~~~(idx v7.1 (4:Int)))&&& (idx v7.1 (6:Int)))))+(idx cS.1 dn))+(idx bl.1 dn)).toNat:Int)))) ?_
  refine xm 72 (.d (.val (.int .u32 ((x_11+((((idx v7.1 (0:Int))&&& (idx v7.1 (1:Int)))^^^((idx v7.1 (0:Int))&&& (idx v7.1 (2:Int))))^^^((idx v7.1 (1:Int))&&& (idx v7.1 (2:Int))))).toNat:Int)))) ?_
  refine xs 73 rfl (fT (a:=(((((idx v7.1 (7:Int))+x_7)+(((idx v7.1 (4:Int))&&& (idx v7.1 (5:Int)))^^^((~~~(idx v7.1 (4:Int)))&&& (idx v7.1 (6:Int)))))+(idx cS.1 dn))+(idx bl.1 dn))) (b:=(x_11+((((idx v7.1 (0:Int))&&& (idx v7.1 (1:Int)))^^^((idx v7.1 (0:Int))&&& (idx v7.1 (2:Int))))^^^((idx v7.1 (1:Int))&&& (idx v7.1 (2:Int)))))) rfl rfl rfl ?_)
  refine xs 74 rfl (cX (i:=(0:Int)) rfl TT.fV TT.fU rfl rfl (show 0≤(0:Int)∧(0:Int)<((8:Nat):Int) by decide) ?_)
  refine xs 75 rfl (bx (v:= .d (.val (.int .u32 ((idx v7.1 (0:Int)).toNat:Int)))) rfl TT.eK rfl rfl (fJ (show 0≤(0:Int)∧(0:Int)<((8:Nat):Int) by decide)) ?_)
  refine xs 76 rfl (cX (i:=(1:Int)) rfl TT.fV TT.fU rfl rfl (show 0≤(1:Int)∧(1:Int)<((8:Nat):Int) by decide) ?_)
  refine xs 77 rfl (bx (v:= .d (.val (.int .u32 ((idx v7.1 (1:Int)).toNat:Int)))) rfl TT.eK rfl rfl (fJ (show 0≤(1:Int)∧(1:Int)<((8:Nat):Int) by decide)) ?_)
  refine xs 78 rfl (cX (i:=(2:Int)) rfl TT.fV TT.fU rfl rfl (show 0≤(2:Int)∧(2:Int)<((8:Nat):Int) by decide) ?_)
  refine xs 79 rfl (bx (v:= .d (.val (.int .u32 ((idx v7.1 (2:Int)).toNat:Int)))) rfl TT.eK rfl rfl (fJ (show 0≤(2:Int)∧(2:Int)<((8:Nat):Int) by decide)) ?_)
  refine xs 80 rfl (cX (i:=(3:Int)) rfl TT.fV TT.fU rfl rfl (show 0≤(3:Int)∧(3:Int)<((8:Nat):Int) by decide) ?_)
  refine xs 81 rfl (bx (v:= .d (.val (.int .u32 ((idx v7.1 (3:Int)).toNat:Int)))) rfl TT.eK rfl rfl (fJ (show 0≤(3:Int)∧(3:Int)<((8:Nat):Int) by decide)) ?_)
  refine xm 82 (.d (.val (.int .u32 ((((((idx v7.1 (7:Int))+x_7)+(((idx v7.1 (4:Int))&&& (idx v7.1 (5:Int)))^^^((~~~(idx v7.1 (4:Int)))&&& (idx v7.1 (6:Int)))))+(idx cS.1 dn))+(idx bl.1 dn)).toNat:Int)))) ?_
  refine xs 83 rfl (fT (a:=(idx v7.1 (3:Int))) (b:=(((((idx v7.1 (7:Int))+x_7)+(((idx v7.1 (4:Int))&&& (idx v7.1 (5:Int)))^^^((~~~(idx v7.1 (4:Int)))&&& (idx v7.1 (6:Int)))))+(idx cS.1 dn))+(idx bl.1 dn))) rfl rfl rfl ?_)
  refine xs 84 rfl (cX (i:=(4:Int)) rfl TT.fV TT.fU rfl rfl (show 0≤(4:Int)∧(4:Int)<((8:Nat):Int) by decide) ?_)
  refine xs 85 rfl (bx (v:= .d (.val (.int .u32 ((idx v7.1 (4:Int)).toNat:Int)))) rfl TT.eK rfl rfl (fJ (show 0≤(4:Int)∧(4:Int)<((8:Nat):Int) by decide)) ?_)
  refine xs 86 rfl (cX (i:=(5:Int)) rfl TT.fV TT.fU rfl rfl (show 0≤(5:Int)∧(5:Int)<((8:Nat):Int) by decide) ?_)
  refine xs 87 rfl (bx (v:= .d (.val (.int .u32 ((idx v7.1 (5:Int)).toNat:Int)))) rfl TT.eK rfl rfl (fJ (show 0≤(5:Int)∧(5:Int)<((8:Nat):Int) by decide)) ?_)
  refine xs 88 rfl (cX (i:=(6:Int)) rfl TT.fV TT.fU rfl rfl (show 0≤(6:Int)∧(6:Int)<((8:Nat):Int) by decide) ?_)
  refine xs 89 rfl (bx (v:= .d (.val (.int .u32 ((idx v7.1 (6:Int)).toNat:Int)))) rfl TT.eK rfl rfl (fJ (show 0≤(6:Int)∧(6:Int)<((8:Nat):Int) by decide)) ?_)
  refine XK.as (some 90) rfl rfl (u5 (v:= .agg [.d (.val (.int .u32 (((((((idx v7.1 (7:Int))+x_7)+(((idx v7.1 (4:Int))&&& (idx v7.1 (5:Int)))^^^((~~~(idx v7.1 (4:Int)))&&& (idx v7.1 (6:Int)))))+(idx cS.1 dn))+(idx bl.1 dn))+(x_11+((((idx v7.1 (0:Int))&&& (idx v7.1 (1:Int)))^^^((idx v7.1 (0:Int))&&& (idx v7.1 (2:Int))))^^^((idx v7.1 (1:Int))&&& (idx v7.1 (2:Int)))))).toNat:Int))), .d (.val (.int .u32 ((idx v7.1 (0:Int)).toNat:Int))), .d (.val (.int .u32 ((idx v7.1 (1:Int)).toNat:Int))), .d (.val (.int .u32 ((idx v7.1 (2:Int)).toNat:Int))), .d (.val (.int .u32 (((idx v7.1 (3:Int))+(((((idx v7.1 (7:Int))+x_7)+(((idx v7.1 (4:Int))&&& (idx v7.1 (5:Int)))^^^((~~~(idx v7.1 (4:Int)))&&& (idx v7.1 (6:Int)))))+(idx cS.1 dn))+(idx bl.1 dn))).toNat:Int))), .d (.val (.int .u32 ((idx v7.1 (4:Int)).toNat:Int))), .d (.val (.int .u32 ((idx v7.1 (5:Int)).toNat:Int))), .d (.val (.int .u32 ((idx v7.1 (6:Int)).toNat:Int)))]) rfl (by rw [TT.A6];simp [k8,k7,placeOf,og,aB,PV.cz,PV.g8,Value.oneCell',lX,nG,dK,List.all,cu,aF,jz,iL,bV,jP]) (by rw [TT.A6];rfl) ⟨.d (.agg ((⟨[((((((idx v7.1 (7:Int))+x_7)+(((idx v7.1 (4:Int))&&& (idx v7.1 (5:Int)))^^^((~~~(idx v7.1 (4:Int)))&&& (idx v7.1 (6:Int)))))+(idx cS.1 dn))+(idx bl.1 dn))+(x_11+((((idx v7.1 (0:Int))&&& (idx v7.1 (1:Int)))^^^((idx v7.1 (0:Int))&&& (idx v7.1 (2:Int))))^^^((idx v7.1 (1:Int))&&& (idx v7.1 (2:Int)))))),(idx v7.1 (0:Int)),(idx v7.1 (1:Int)),(idx v7.1 (2:Int)),((idx v7.1 (3:Int))+(((((idx v7.1 (7:Int))+x_7)+(((idx v7.1 (4:Int))&&& (idx v7.1 (5:Int)))^^^((~~~(idx v7.1 (4:Int)))&&& (idx v7.1 (6:Int)))))+(idx cS.1 dn))+(idx bl.1 dn))),(idx v7.1 (4:Int)),(idx v7.1 (5:Int)),(idx v7.1 (6:Int))],rfl⟩:(aE 8 (BitVec 32))).1.map eG)),(iy.cW rfl),?_⟩)
  refine XK.st none rfl rfl (bw (l':=(((⟨[((((((idx v7.1 (7:Int))+x_7)+(((idx v7.1 (4:Int))&&& (idx v7.1 (5:Int)))^^^((~~~(idx v7.1 (4:Int)))&&& (idx v7.1 (6:Int)))))+(idx cS.1 dn))+(idx bl.1 dn))+(x_11+((((idx v7.1 (0:Int))&&& (idx v7.1 (1:Int)))^^^((idx v7.1 (0:Int))&&& (idx v7.1 (2:Int))))^^^((idx v7.1 (1:Int))&&& (idx v7.1 (2:Int)))))),(idx v7.1 (0:Int)),(idx v7.1 (1:Int)),(idx v7.1 (2:Int)),((idx v7.1 (3:Int))+(((((idx v7.1 (7:Int))+x_7)+(((idx v7.1 (4:Int))&&& (idx v7.1 (5:Int)))^^^((~~~(idx v7.1 (4:Int)))&&& (idx v7.1 (6:Int)))))+(idx cS.1 dn))+(idx bl.1 dn))),(idx v7.1 (4:Int)),(idx v7.1 (5:Int)),(idx v7.1 (6:Int))],rfl⟩:(aE 8 (BitVec 32))).1.map eG).map .d)) rfl TT.oV rfl rfl rfl rfl rfl (aq _) (nT _) (cT ((aq _).trans (aq _).symm)) ?_)
  refine XK.nil (gC (aY ?_))
  refine QW.view (s':=⟨aF [(2, .aK 0 0),(4, .aK 1 0),(5, .aK 2 0),(6, .aK 3 0),(7, .aK 4 0),(18,pI dn)],aj [.var ((h0.1.map eG).map .d), .var (((aE.rep 8 (0:BitVec 32)).1.map eG).map .d), .var ((bl.1.map eG).map .d), .var ((cS.1.map eG).map .d), .var (((⟨[((((((idx v7.1 (7:Int))+x_7)+(((idx v7.1 (4:Int))&&& (idx v7.1 (5:Int)))^^^((~~~(idx v7.1 (4:Int)))&&& (idx v7.1 (6:Int)))))+(idx cS.1 dn))+(idx bl.1 dn))+(x_11+((((idx v7.1 (0:Int))&&& (idx v7.1 (1:Int)))^^^((idx v7.1 (0:Int))&&& (idx v7.1 (2:Int))))^^^((idx v7.1 (1:Int))&&& (idx v7.1 (2:Int)))))),(idx v7.1 (0:Int)),(idx v7.1 (1:Int)),(idx v7.1 (2:Int)),((idx v7.1 (3:Int))+(((((idx v7.1 (7:Int))+x_7)+(((idx v7.1 (4:Int))&&& (idx v7.1 (5:Int)))^^^((~~~(idx v7.1 (4:Int)))&&& (idx v7.1 (6:Int)))))+(idx cS.1 dn))+(idx bl.1 dn))),(idx v7.1 (4:Int)),(idx v7.1 (5:Int)),(idx v7.1 (6:Int))],rfl⟩:(aE 8 (BitVec 32))).1.map eG).map .d)],5,[]⟩) (View.mk 5 [0,1,2,3,4] _ _ _ rfl rfl (by decide) (iC (iC (iC (iC (iC (iC trivial)))))) (And.intro (by simp only [cF,bB,PV.bR];rfl) (And.intro (by simp only [cF,bB,PV.bR];rfl) (And.intro (by simp only [cF,bB,PV.bR];rfl) (And.intro (by simp only [cF,bB,PV.bR];rfl) (And.intro (by simp only [cF,bB,PV.bR];rfl) trivial))))) rfl zL rfl) zL ?_
  refine rG ?_
  obtain ⟨nE,h⟩:=gG h
  refine xs 91 rfl (bY (a:=dn) (b:=(1:Int)) rfl rfl rfl nE ?_)
  refine xm 18 (pI (dn+(1:Int))) ?_
  refine XK.nz ?_
  exact ⟨Ft,by omega,⟨aF [(2, .aK 0 0),(4, .aK 1 0),(5, .aK 2 0),(6, .aK 3 0),(7, .aK 4 0),(18,pI (dn+(1:Int)))],aj [.var ((h0.1.map eG).map .d), .var (((aE.rep 8 (0:BitVec 32)).1.map eG).map .d), .var ((bl.1.map eG).map .d), .var ((cS.1.map eG).map .d), .var (((⟨[((((((idx v7.1 (7:Int))+x_7)+(((idx v7.1 (4:Int))&&& (idx v7.1 (5:Int)))^^^((~~~(idx v7.1 (4:Int)))&&& (idx v7.1 (6:Int)))))+(idx cS.1 dn))+(idx bl.1 dn))+(x_11+((((idx v7.1 (0:Int))&&& (idx v7.1 (1:Int)))^^^((idx v7.1 (0:Int))&&& (idx v7.1 (2:Int))))^^^((idx v7.1 (1:Int))&&& (idx v7.1 (2:Int)))))),(idx v7.1 (0:Int)),(idx v7.1 (1:Int)),(idx v7.1 (2:Int)),((idx v7.1 (3:Int))+(((((idx v7.1 (7:Int))+x_7)+(((idx v7.1 (4:Int))&&& (idx v7.1 (5:Int)))^^^((~~~(idx v7.1 (4:Int)))&&& (idx v7.1 (6:Int)))))+(idx cS.1 dn))+(idx bl.1 dn))),(idx v7.1 (4:Int)),(idx v7.1 (5:Int)),(idx v7.1 (6:Int))],rfl⟩:(aE 8 (BitVec 32))).1.map eG).map .d)],5,[]⟩,View.mk 5 [0,1,2,3,4] _ _ _ rfl rfl (by decide) (iC (iC (iC (iC (iC (iC trivial)))))) (And.intro (by simp only [cF,bB,PV.bR];rfl) (And.intro (by simp only [cF,bB,PV.bR];rfl) (And.intro (by simp only [cF,bB,PV.bR];rfl) (And.intro (by simp only [cF,bB,PV.bR];rfl) (And.intro (by simp only [cF,bB,PV.bR];rfl) trivial))))) rfl zL rfl,(dn+(1:Int)),bl,cS,(⟨[((((((idx v7.1 (7:Int))+x_7)+(((idx v7.1 (4:Int))&&& (idx v7.1 (5:Int)))^^^((~~~(idx v7.1 (4:Int)))&&& (idx v7.1 (6:Int)))))+(idx cS.1 dn))+(idx bl.1 dn))+(x_11+((((idx v7.1 (0:Int))&&& (idx v7.1 (1:Int)))^^^((idx v7.1 (0:Int))&&& (idx v7.1 (2:Int))))^^^((idx v7.1 (1:Int))&&& (idx v7.1 (2:Int)))))),(idx v7.1 (0:Int)),(idx v7.1 (1:Int)),(idx v7.1 (2:Int)),((idx v7.1 (3:Int))+(((((idx v7.1 (7:Int))+x_7)+(((idx v7.1 (4:Int))&&& (idx v7.1 (5:Int)))^^^((~~~(idx v7.1 (4:Int)))&&& (idx v7.1 (6:Int)))))+(idx cS.1 dn))+(idx bl.1 dn))),(idx v7.1 (4:Int)),(idx v7.1 (5:Int)),(idx v7.1 (6:Int))],rfl⟩:(aE 8 (BitVec 32))),by omega,jG h,rfl⟩
 ·replace h:=eY h lO
  refine QW.exit zL (eA (eA (jY (aY ?_))))
  refine QW.seq ?_
  refine sR ?_
  refine xm 92 (pI (0)) ?_
  refine XK.nz ?_
  refine QW.block ?_
  refine QW.loop (fun k σ=>∃ mU:Int,∃ v2:(aE 8 (BitVec 32)),∃ xe:(aE 8 (BitVec 32)),k≤Ft∧run (gf h0 s1) k (.L2 mU v2 xe)=some r∧σ=⟨aF [(2, .aK 0 0),(4, .aK 1 0),(7, .aK 2 0),(92,pI mU)],aj [.var ((v2.1.map eG).map .d), .var (((aE.rep 8 (0:BitVec 32)).1.map eG).map .d), .var ((xe.1.map eG).map .d)],3,[]⟩) Ft zL ⟨⟨aF [(2, .aK 0 0),(4, .aK 1 0),(7, .aK 2 0),(92,pI (0))],aj [.var ((h0.1.map eG).map .d), .var (((aE.rep 8 (0:BitVec 32)).1.map eG).map .d), .var ((v7.1.map eG).map .d)],3,[]⟩,View.mk 3 [0,1,4] _ _ _ rfl rfl (by decide) (iC (iC (iC (iC trivial)))) (And.intro (by simp only [cF,bB,PV.bR];rfl) (And.intro (by simp only [cF,bB,PV.bR];rfl) (And.intro (by simp only [cF,bB,PV.bR];rfl) trivial))) rfl zL rfl,0,h0,v7,Nat.le_refl _,jG h,rfl⟩ ?_
  rintro XL _ ⟨mU,v2,xe,XM,h,rfl⟩
  obtain ⟨Pw,rfl,h9⟩:=aQ h;replace h:=h9;clear h9;rw [gf] at h
  refine sR ?_
  refine xs 93 rfl (cK (a:=mU) (b:=(8:Int)) rfl rfl rfl ?_)
  refine XK.nz ?_
  refine QW.seq ?_
  refine QW.cond (t:=(decide (mU<(8:Int)))) rfl zL (fun qG=>?_) (fun qG=>?_)
  ·replace h:=eX h qG
   refine QW.skip zL (aY ?_)
   refine QW.seq ?_
   refine QW.block ?_
   refine sR ?_
   refine xm 94 (pI mU) ?_
   refine xz 13 (pI mU) ?_
   refine QW.region zL (PW.tN (id:=15) dh (M:=_) rfl (by kernel_rfl) ?_)
   refine RK.st (some 95) rfl rfl (au (v:=pI mU) rfl rfl ?_)
   obtain ⟨oP,h⟩:=gG h
   refine RK.st (some 96) rfl rfl (cX (i:=mU) rfl TT.fV TT.fU rfl rfl oP ?_)
   refine RK.st (some 97) rfl rfl (bx (v:= .d (.val (.int .u32 ((idx v2.1 mU).toNat:Int)))) rfl TT.eK rfl rfl (fJ oP) ?_)
   refine RK.st (some 98) rfl rfl (au (v:=pI mU) rfl rfl ?_)
   obtain ⟨pO,h⟩:=gG h
   refine RK.st (some 99) rfl rfl (cX (i:=mU) rfl TT.fV TT.fU rfl rfl pO ?_)
   refine RK.st (some 100) rfl rfl (bx (v:= .d (.val (.int .u32 ((idx xe.1 mU).toNat:Int)))) rfl TT.eK rfl rfl (fJ pO) ?_)
   refine RK.st (some 101) rfl rfl (fT (a:=(idx v2.1 mU)) (b:=(idx xe.1 mU)) rfl rfl rfl ?_)
   obtain ⟨sH,h⟩:=gG h
   refine RK.st (some 102) rfl rfl (cX (i:=mU) rfl TT.fV TT.fU rfl rfl sH ?_)
   refine RK.st none rfl rfl (bw (l':=(((v2.put mU ((idx v2.1 mU)+(idx xe.1 mU))).1.map eG).map .d)) rfl TT.eK rfl rfl rfl rfl rfl rfl (tP sH) (rI sH) ?_)
   refine RK.nil ⟨gl.comp (by rfl),(gC (aY ?_))⟩
   refine rG ?_
   obtain ⟨yp,h⟩:=gG h
   refine xs 103 rfl (bY (a:=mU) (b:=(1:Int)) rfl rfl rfl yp ?_)
   refine xm 92 (pI (mU+(1:Int))) ?_
   refine XK.nz ?_
   exact ⟨Pw,by omega,⟨aF [(2, .aK 0 0),(4, .aK 1 0),(7, .aK 2 0),(92,pI (mU+(1:Int)))],aj [.var (((v2.put mU ((idx v2.1 mU)+(idx xe.1 mU))).1.map eG).map .d), .var (((aE.rep 8 (0:BitVec 32)).1.map eG).map .d), .var ((xe.1.map eG).map .d)],3,[]⟩,View.mk 3 [0,1,2] _ _ _ rfl rfl (by decide) (iC (iC (iC (iC trivial)))) (And.intro (by simp only [cF,bB,PV.bR];rfl) (And.intro (by simp only [cF,bB,PV.bR];rfl) (And.intro (by simp only [cF,bB,PV.bR];rfl) trivial))) rfl zL rfl,(mU+(1:Int)),(v2.put mU ((idx v2.1 mU)+(idx xe.1 mU))),xe,by omega,jG h,rfl⟩
  ·replace h:=eY h qG
   refine QW.exit zL (eA (eA (jY (aY ?_))))
   refine sR ?_
   refine XK.as (some 104) rfl rfl (bx (v:= .agg ((v2.1.map eG).map .d)) rfl TT.oV rfl rfl (kE (by decide)) ⟨.d (.agg (v2.1.map eG)),ia,?_⟩)
   refine XK.st none rfl rfl (bw (l':=((v2.1.map eG).map .d)) rfl TT.oV rfl rfl rfl rfl rfl (aq _) (nT _) (cT ((aq _).trans (aq _).symm)) ?_)
   refine XK.nz ?_
   refine QW.ret zL ?_
   obtain rfl:=sG h
   exact Ends.one (.inr rfl) rfl (aG.cell rfl rfl TT.oV (kE (by decide))) (oI cA) rfl
inductive Jr where
 | S
 | L1 (dc:(List UInt8)) (kL:(aE 8 (BitVec 32)))
 | L2 (dn:Int) (ua:(aE 8 (BitVec 32))) (v5:(aE 32 UInt8))
noncomputable def gW (s0:(List UInt8)):Jr→Option (Jr⊕(aE 32 UInt8))
 | .S=>
  ((y4).bind fun (x_1:(aE 8 (BitVec 32)))=>
  ((xJ s0).bind fun (x_3:(List UInt8))=>
  some (.inl (.L1 x_3 x_1))))
 | .L1 dc kL=>
  (bif (!(dc==([]:List UInt8))) then
  gO (0≤(0:Int)∧(0:Int)≤(64:Int)∧(64:Int)≤(dc.length:Int)) (
  ((As kL (sub dc (0:Int) (64:Int))).bind fun (x_8:(aE 8 (BitVec 32)))=>
  gO (0≤(64:Int)∧(64:Int)≤(dc.length:Int)∧(dc.length:Int)≤(dc.length:Int)) (
  some (.inl (.L1 (sub dc (64:Int) (dc.length:Int)) x_8)))))
  else
  some (.inl (.L2 (0) kL (aE.rep 32 (0:UInt8)))))
 | .L2 dn ua v5=>
  (bif (decide (dn<(32:Int))) then
  gO ((4:Int)≠0∧bA (dn.tdiv (4:Int))) (
  gO (0≤(dn.tdiv (4:Int))∧(dn.tdiv (4:Int))<((8:Nat):Int)) (
  gO (bA ((8:Int)*(dn.tmod (4:Int)))) (
  gO (bA ((24:Int)-((8:Int)*(dn.tmod (4:Int))))) (
  gO (0≤((24:Int)-((8:Int)*(dn.tmod (4:Int))))) (
  gO (0≤dn∧dn<((32:Nat):Int)) (
  gO (bA (dn+(1:Int))) (
  some (.inl (.L2 (dn+(1:Int)) ua (v5.put dn (gb ((oJ (idx ua.1 (dn.tdiv (4:Int))) ((24:Int)-((8:Int)*(dn.tmod (4:Int))))).toNat:Int))))))))))))
  else
  some (.inr v5))
noncomputable def Ef (s0:(List UInt8)):Option (aE 32 UInt8):=gU (gW s0) .S
theorem Ml (s0:(List UInt8)) (r:(aE 32 UInt8)) (h:Ef s0=some r):bE Tryz.prog 64 [.val (sV s0)] (.agg (r.1.map U)):=by
 refine bE.aU Tryz.func64 rfl (by simp [Tryz.ntmps64]) ?_
 rw [Tryz.ntmps64,TT.Vz]
 refine QW.view (s':=⟨aF [(0,pS s0)],aj [],0,[]⟩) (View.init (by rfl)) zL ?_
 replace h:=cG h
 obtain ⟨_,h⟩:=h
 obtain ⟨c8,rfl,h9⟩:=aQ h;replace h:=h9;clear h9;rw [gW] at h
 refine sR ?_
 refine xs 2 rfl (bP (l:=(((aE.rep 32 (0:UInt8)).1.map U).map .d)) rfl TT.G3 rfl rfl ?_)
 refine XK.nz ?_
 refine sR ?_
 obtain ⟨x_1,fy,h⟩:=bG h
 refine xs 7 rfl (aA rfl rfl TT.Oi rfl (G4 _ fy) ?_)
 refine xs 3 rfl (bP (l:=(((aE.rep 8 (0:BitVec 32)).1.map eG).map .d)) rfl TT.y3 rfl rfl ?_)
 refine XK.st none rfl rfl (bw (l':=((x_1.1.map eG).map .d)) rfl TT.oV rfl rfl rfl rfl rfl (aq _) (nT _) (cT ((aq _).trans (aq _).symm)) ?_)
 refine XK.nz ?_
 refine QW.seq ?_
 refine sR ?_
 refine xm 8 (pS s0) ?_
 obtain ⟨x_3,vM,h⟩:=bG h
 refine xs 9 rfl (aA rfl rfl TT.Oj rfl (Fv s0 _ vM) ?_)
 refine xz 4 (pS x_3) ?_
 refine QW.block ?_
 refine QW.loop (fun k σ=>∃ dc:(List UInt8),∃ kL:(aE 8 (BitVec 32)),k≤c8∧run (gW s0) k (.L1 dc kL)=some r∧σ=⟨aF [(2, .aK 0 0),(3, .aK 1 0),(4,pS dc)],aj [.var (((aE.rep 32 (0:UInt8)).1.map U).map .d), .var ((kL.1.map eG).map .d)],2,[]⟩) c8 zL ⟨⟨aF [(2, .aK 0 0),(3, .aK 1 0),(4,pS x_3)],aj [.var (((aE.rep 32 (0:UInt8)).1.map U).map .d), .var ((x_1.1.map eG).map .d)],2,[]⟩,View.mk 2 [0,1] _ _ _ rfl rfl (by decide) (iC (iC (iC trivial))) (And.intro (by simp only [cF,bB,PV.bR];rfl) (And.intro (by simp only [cF,bB,PV.bR];rfl) trivial)) rfl zL rfl,x_3,x_1,Nat.le_refl _,jG h,rfl⟩ ?_
 rintro Tl _ ⟨dc,kL,Tm,h,rfl⟩
 obtain ⟨Ft,rfl,h9⟩:=aQ h;replace h:=h9;clear h9;rw [gW] at h
 refine QW.seq ?_
 refine sR ?_
 refine xm 10 (pS dc) ?_
 refine xs 11 rfl (uP (a:=dc) (b:=([]:List UInt8)) rfl rfl rfl ?_)
 refine XK.nz ?_
 refine QW.cond (t:=(!(dc==([]:List UInt8)))) rfl zL (fun lO=>?_) (fun lO=>?_)
 ·replace h:=eX h lO
  refine QW.skip zL (aY ?_)
  refine QW.seq ?_
  refine QW.block ?_
  refine QW.region zL (PW.tN (id:=5) dh (M:=_) rfl (by kernel_rfl) ?_)
  refine RK.as (some 14) rfl rfl (bx (v:= .agg ((kL.1.map eG).map .d)) rfl TT.oV rfl rfl (kE (by decide)) ⟨.d (.agg (kL.1.map eG)),ia,?_⟩)
  refine RK.st (some 15) rfl rfl (au (v:=pS dc) rfl rfl ?_)
  obtain ⟨mc,h⟩:=gG h
  refine RK.st (some 16) rfl rfl (vt (l:=dc) (a:=(0:Int)) (b:=(64:Int)) rfl TT.bZ rfl rfl rfl mc ?_)
  obtain ⟨x_8,Am,h⟩:=bG h
  refine RK.st (some 17) rfl rfl (aA rfl rfl TT.Ok rfl (IG kL (sub dc (0:Int) (64:Int)) _ Am) ?_)
  refine RK.st none rfl rfl (bw (l':=((x_8.1.map eG).map .d)) rfl TT.oV rfl rfl rfl rfl rfl (aq _) (nT _) (cT ((aq _).trans (aq _).symm)) ?_)
  refine RK.nil ⟨gl.comp (by rfl),(gC (aY ?_))⟩
  refine rG ?_
  refine xm 12 (pS dc) ?_
  obtain ⟨oq,h⟩:=gG h
  refine xs 13 rfl (vt (l:=dc) (a:=(64:Int)) (b:=(dc.length:Int)) rfl TT.bZ rfl rfl rfl oq ?_)
  refine xz 4 (pS (sub dc (64:Int) (dc.length:Int))) ?_
  exact ⟨Ft,by omega,⟨aF [(2, .aK 0 0),(3, .aK 1 0),(4,pS (sub dc (64:Int) (dc.length:Int)))],aj [.var (((aE.rep 32 (0:UInt8)).1.map U).map .d), .var ((x_8.1.map eG).map .d)],2,[]⟩,View.mk 2 [0,1] _ _ _ rfl rfl (by decide) (iC (iC (iC trivial))) (And.intro (by simp only [cF,bB,PV.bR];rfl) (And.intro (by simp only [cF,bB,PV.bR];rfl) trivial)) rfl zL rfl,(sub dc (64:Int) (dc.length:Int)),x_8,by omega,jG h,rfl⟩
 ·replace h:=eY h lO
  refine QW.exit zL (eA (eA (jY (aY ?_))))
  refine sR ?_
  refine xs 5 rfl (bP (l:=(((aE.rep 32 (0:UInt8)).1.map U).map .d)) rfl TT.G3 rfl rfl ?_)
  refine XK.nz ?_
  refine QW.seq ?_
  refine sR ?_
  refine xm 18 (pI (0)) ?_
  refine XK.nz ?_
  refine QW.block ?_
  refine QW.loop (fun k σ=>∃ dn:Int,∃ ua:(aE 8 (BitVec 32)),∃ v5:(aE 32 UInt8),k≤Ft∧run (gW s0) k (.L2 dn ua v5)=some r∧σ=⟨aF [(2, .aK 0 0),(3, .aK 1 0),(5, .aK 2 0),(18,pI dn)],aj [.var (((aE.rep 32 (0:UInt8)).1.map U).map .d), .var ((ua.1.map eG).map .d), .var ((v5.1.map U).map .d)],3,[]⟩) Ft zL ⟨⟨aF [(2, .aK 0 0),(3, .aK 1 0),(5, .aK 2 0),(18,pI (0))],aj [.var (((aE.rep 32 (0:UInt8)).1.map U).map .d), .var ((kL.1.map eG).map .d), .var (((aE.rep 32 (0:UInt8)).1.map U).map .d)],3,[]⟩,View.mk 3 [0,1,2] _ _ _ rfl rfl (by decide) (iC (iC (iC (iC trivial)))) (And.intro (by simp only [cF,bB,PV.bR];rfl) (And.intro (by simp only [cF,bB,PV.bR];rfl) (And.intro (by simp only [cF,bB,PV.bR];rfl) trivial))) rfl zL rfl,0,kL,(aE.rep 32 (0:UInt8)),Nat.le_refl _,jG h,rfl⟩ ?_
  rintro aa7 _ ⟨dn,ua,v5,aa8,h,rfl⟩
  obtain ⟨Zo,rfl,h9⟩:=aQ h;replace h:=h9;clear h9;rw [gW] at h
  refine sR ?_
  refine xs 19 rfl (cK (a:=dn) (b:=(32:Int)) rfl rfl rfl ?_)
  refine XK.nz ?_
  refine QW.seq ?_
  refine QW.cond (t:=(decide (dn<(32:Int)))) rfl zL (fun Oo=>?_) (fun Oo=>?_)
  ·replace h:=eX h Oo
   refine QW.skip zL (aY ?_)
   refine QW.seq ?_
   refine QW.block ?_
   refine sR ?_
   refine xm 20 (pI dn) ?_
   refine xz 6 (pI dn) ?_
   refine rG ?_
   refine xm 21 (pI dn) ?_
   refine xm 22 (pI dn) ?_
   obtain ⟨nE,h⟩:=gG h
   refine xs 23 rfl (FJ (a:=dn) (b:=(4:Int)) rfl rfl rfl nE ?_)
   obtain ⟨rL,h⟩:=gG h
   refine xs 24 rfl (cX (i:=(dn.tdiv (4:Int))) rfl TT.fV TT.fU rfl rfl rL ?_)
   refine xs 25 rfl (bx (v:= .d (.val (.int .u32 ((idx ua.1 (dn.tdiv (4:Int))).toNat:Int)))) rfl TT.eK rfl rfl (fJ rL) ?_)
   refine xm 26 (pI dn) ?_
   refine xs 27 rfl (wS (a:=dn) (b:=(4:Int)) rfl rfl rfl (by decide) ?_)
   obtain ⟨vH,h⟩:=gG h
   refine xs 28 rfl (AV (a:=(8:Int)) (b:=(dn.tmod (4:Int))) rfl rfl rfl vH ?_)
   obtain ⟨oP,h⟩:=gG h
   refine xs 29 rfl (nJ (a:=(24:Int)) (b:=((8:Int)*(dn.tmod (4:Int)))) rfl rfl rfl oP ?_)
   obtain ⟨pO,h⟩:=gG h
   refine xs 30 rfl (A4 (a:=(idx ua.1 (dn.tdiv (4:Int)))) (c:=((24:Int)-((8:Int)*(dn.tmod (4:Int))))) rfl rfl rfl pO ?_)
   refine xs 31 rfl (nR (n:=((oJ (idx ua.1 (dn.tdiv (4:Int))) ((24:Int)-((8:Int)*(dn.tmod (4:Int))))).toNat:Int)) rfl TT.vQ TT.dV rfl ?_)
   obtain ⟨sH,h⟩:=gG h
   refine xs 32 rfl (cX (i:=dn) rfl TT.QK TT.Jo rfl rfl sH ?_)
   refine XK.st none rfl rfl (bw (l':=(((v5.put dn (gb ((oJ (idx ua.1 (dn.tdiv (4:Int))) ((24:Int)-((8:Int)*(dn.tmod (4:Int))))).toNat:Int))).1.map U).map .d)) rfl TT.kG rfl rfl rfl rfl rfl rfl (tP sH) (rI sH) ?_)
   refine XK.nil (gC (aY ?_))
   refine QW.view (s':=⟨aF [(2, .aK 0 0),(3, .aK 1 0),(5, .aK 2 0),(18,pI dn)],aj [.var (((aE.rep 32 (0:UInt8)).1.map U).map .d), .var ((ua.1.map eG).map .d), .var (((v5.put dn (gb ((oJ (idx ua.1 (dn.tdiv (4:Int))) ((24:Int)-((8:Int)*(dn.tmod (4:Int))))).toNat:Int))).1.map U).map .d)],3,[]⟩) (View.mk 3 [0,1,2] _ _ _ rfl rfl (by decide) (iC (iC (iC (iC trivial)))) (And.intro (by simp only [cF,bB,PV.bR];rfl) (And.intro (by simp only [cF,bB,PV.bR];rfl) (And.intro (by simp only [cF,bB,PV.bR];rfl) trivial))) rfl zL rfl) zL ?_
   refine rG ?_
   obtain ⟨yp,h⟩:=gG h
   refine xs 33 rfl (bY (a:=dn) (b:=(1:Int)) rfl rfl rfl yp ?_)
   refine xm 18 (pI (dn+(1:Int))) ?_
   refine XK.nz ?_
   exact ⟨Zo,by omega,⟨aF [(2, .aK 0 0),(3, .aK 1 0),(5, .aK 2 0),(18,pI (dn+(1:Int)))],aj [.var (((aE.rep 32 (0:UInt8)).1.map U).map .d), .var ((ua.1.map eG).map .d), .var (((v5.put dn (gb ((oJ (idx ua.1 (dn.tdiv (4:Int))) ((24:Int)-((8:Int)*(dn.tmod (4:Int))))).toNat:Int))).1.map U).map .d)],3,[]⟩,View.mk 3 [0,1,2] _ _ _ rfl rfl (by decide) (iC (iC (iC (iC trivial)))) (And.intro (by simp only [cF,bB,PV.bR];rfl) (And.intro (by simp only [cF,bB,PV.bR];rfl) (And.intro (by simp only [cF,bB,PV.bR];rfl) trivial))) rfl zL rfl,(dn+(1:Int)),ua,(v5.put dn (gb ((oJ (idx ua.1 (dn.tdiv (4:Int))) ((24:Int)-((8:Int)*(dn.tmod (4:Int))))).toNat:Int))),by omega,jG h,rfl⟩
  ·replace h:=eY h Oo
   refine QW.exit zL (eA (eA (jY (aY ?_))))
   refine sR ?_
   refine XK.as (some 34) rfl rfl (bx (v:= .agg ((v5.1.map U).map .d)) rfl TT.G2 rfl rfl (kE (by decide)) ⟨.d (.agg (v5.1.map U)),ia,?_⟩)
   refine XK.st none rfl rfl (bw (l':=((v5.1.map U).map .d)) rfl TT.G2 rfl rfl rfl rfl rfl (aq _) (nT _) (cT ((aq _).trans (aq _).symm)) ?_)
   refine XK.nz ?_
   refine QW.ret zL ?_
   obtain rfl:=sG h
   exact Ends.one (.inr rfl) rfl (aG.cell rfl rfl TT.G2 (kE (by decide))) (oI cA) rfl
noncomputable def At (x0:(aE 32 UInt8)):Option (List UInt8):=
  some (x0.1)
theorem II (x0:(aE 32 UInt8)) (r:(List UInt8)) (h:At x0=some r):bE Tryz.prog 63 [.agg (x0.1.map U)] (.val (sV r)):=by
 refine bE.aU Tryz.func63 rfl (by simp [Tryz.ntmps63]) ?_
 rw [Tryz.ntmps63,TT.Vy]
 refine QW.view (s':=⟨aF [(0, .d (.agg (x0.1.map U)))],aj [],0,[]⟩) (View.init (by rfl)) zL ?_
 unfold At at h
 refine sR ?_
 refine XK.fz (some 1) rfl rfl (eJ (ds:=x0.1.map U) rfl rfl rfl rfl cA ?_)
 refine xz 2 (pS ([]:List UInt8)) ?_
 refine sR ?_
 refine xs 3 rfl (D1 (en:=U) (a:=x0) rfl TT.Ol TT.Jo (Pre.all _) (I9 _ (fun _=>rfl)) rfl ?_)
 refine xs 4 rfl (nK (l:=x0.1) rfl TT.bC TT.dV TT.bZ rfl ?_)
 refine xz 2 (pS (x0.1)) ?_
 refine QW.ret zL ?_
 obtain rfl:=sO h
 exact Ends.one (.inr rfl) rfl (aG.tmp rfl) rfl rfl
noncomputable def vT (lR:(List UInt8)):Option (List UInt8):=
  (bif (decide ((lR.length:Int)<(32:Int))) then
  some lR
  else
  ((Ef lR).bind fun (x_2:(aE 32 UInt8))=>
  ((At x_2).bind fun (x_4:(List UInt8))=>
  some x_4)))
theorem KF (lR:(List UInt8)) (r:(List UInt8)) (h:vT lR=some r):bE Tryz.prog 35 [.val (sV lR)] (.val (sV r)):=by
 refine bE.aU Tryz.func35 rfl (by simp [Tryz.ntmps35]) ?_
 rw [Tryz.ntmps35,TT.Vx]
 refine QW.view (s':=⟨aF [(0,pS lR)],aj [],0,[]⟩) (View.init (by rfl)) zL ?_
 unfold vT at h
 refine sR ?_
 refine xz 2 (pS ([]:List UInt8)) ?_
 refine QW.seq ?_
 refine sR ?_
 refine xm 3 (pS lR) ?_
 refine xs 4 rfl (gB (l:=lR) rfl TT.bZ rfl ?_)
 refine xs 5 rfl (cK (a:=(lR.length:Int)) (b:=(32:Int)) rfl rfl rfl ?_)
 refine XK.nz ?_
 refine QW.cond (t:=(decide ((lR.length:Int)<(32:Int)))) rfl zL (fun dm=>?_) (fun dm=>?_)
 ·replace h:=bT h dm
  refine sR ?_
  refine xm 6 (pS lR) ?_
  refine xz 2 (pS lR) ?_
  refine QW.ret zL (eC ?_)
  obtain rfl:=sO h
  exact Ends.one (.inr rfl) rfl (aG.tmp rfl) rfl rfl
 ·replace h:=bF h dm
  refine QW.skip zL (aY ?_)
  refine sR ?_
  refine xm 7 (pS lR) ?_
  obtain ⟨x_2,nD,h⟩:=bO h
  refine xs 8 rfl (aA rfl rfl TT.Oh rfl (Ml lR _ nD) ?_)
  obtain ⟨x_4,kZ,h⟩:=bO h
  refine xs 9 rfl (aA rfl rfl TT.Og rfl (II x_2 _ kZ) ?_)
  refine xz 2 (pS x_4) ?_
  refine QW.ret zL ?_
  obtain rfl:=sO h
  exact Ends.one (.inr rfl) rfl (aG.tmp rfl) rfl rfl
end Go.Proofs.YtlfjfoknbjcncaaGreat.K
