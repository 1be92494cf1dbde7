/- Package node: what it reckons. -/
import Derived.Test.YtlfjfoknbjcncaaGreatHG3
import Derived.KernelRfl
namespace Go.Proofs.YtlfjfoknbjcncaaGreat.K
open Go Go.RowKit
set_option linter.unusedSimpArgs false
set_option linter.unusedVariables false
set_option maxRecDepth 20000
set_option maxHeartbeats 4000000
namespace TT
theorem mR:nR Tryz.prog 56=some (16,1,false):=by kernel_rfl
theorem MH:sv Tryz.prog 56=some ([Value.string ⟨#[]⟩,Value.string ⟨#[]⟩,Value.string ⟨#[]⟩,Value.string ⟨#[]⟩,Value.string ⟨#[]⟩,Value.string ⟨#[]⟩,Value.string ⟨#[]⟩,Value.string ⟨#[]⟩,Value.string ⟨#[]⟩,Value.string ⟨#[]⟩,Value.string ⟨#[]⟩,Value.string ⟨#[]⟩,Value.string ⟨#[]⟩,Value.string ⟨#[]⟩,Value.string ⟨#[]⟩,Value.string ⟨#[]⟩], .inr 1):=by kernel_rfl
theorem oc:sv Tryz.prog 58=some ([Value.int IntKind.i64 0,Value.slice none 0 0,Value.string ⟨#[]⟩,Value.string ⟨#[]⟩,Value.string ⟨#[]⟩,Value.string ⟨#[]⟩,Value.string ⟨#[]⟩,Value.string ⟨#[]⟩,Value.string ⟨#[]⟩,Value.string ⟨#[]⟩,Value.string ⟨#[]⟩,Value.string ⟨#[]⟩,Value.string ⟨#[]⟩,Value.string ⟨#[]⟩,Value.string ⟨#[]⟩,Value.string ⟨#[]⟩,Value.string ⟨#[]⟩,Value.string ⟨#[]⟩,Value.string ⟨#[]⟩], .inl [(0,1),(1,1),(2,1),(3,16)]):=by kernel_rfl
theorem Ot:e8 Tryz.prog 71=true:=by kernel_rfl
theorem Ou:e8 Tryz.prog 76=true:=by kernel_rfl
theorem Ov:e8 Tryz.prog 77=true:=by kernel_rfl
theorem Ow:e8 Tryz.prog 78=true:=by kernel_rfl
theorem iV:n5 Tryz.prog 58 0=some (0,1,false):=by kernel_rfl
theorem j5:n5 Tryz.prog 58 1=some (1,1,false):=by kernel_rfl
theorem kH:n5 Tryz.prog 58 2=some (2,1,false):=by kernel_rfl
theorem iW:n5 Tryz.prog 58 3=some (3,16,true):=by kernel_rfl
theorem SV:Tryz.f106.results.toList=[.cell 4 58]:=rfl
theorem SW:Tryz.f107.results.toList=[.tmp 2]:=rfl
theorem SX:Tryz.f108.results.toList=[.cell 2 58]:=rfl
theorem SY:Tryz.f115.results.toList=[.cell 4 58]:=rfl
theorem SZ:Tryz.f116.results.toList=[.cell 4 58]:=rfl
theorem U8:Tryz.f30.results.toList=[.tmp 2, .tmp 3]:=rfl
theorem U9:Tryz.f41.results.toList=[.tmp 2]:=rfl
theorem Va:Tryz.f42.results.toList=[.tmp 2]:=rfl
theorem Vc:Tryz.f55.results.toList=[.cell 2 82]:=rfl
theorem Vd:Tryz.f71.results.toList=[.tmp 2]:=rfl
theorem Ve:Tryz.f72.results.toList=[.tmp 2]:=rfl
theorem Vf:Tryz.f73.results.toList=[.tmp 2]:=rfl
theorem Vg:Tryz.f75.results.toList=[.tmp 4]:=rfl
theorem Vh:Tryz.f76.results.toList=[.tmp 4]:=rfl
theorem Vi:Tryz.f77.results.toList=[.tmp 2]:=rfl
theorem Vj:Tryz.f78.results.toList=[.tmp 2]:=rfl
theorem Vk:Tryz.f94.results.toList=[.cell 2 58, .tmp 3]:=rfl
theorem Vl:Tryz.f97.results.toList=[.tmp 4]:=rfl
theorem HU:qH Tryz.prog 90=some (1,16):=by kernel_rfl
theorem Bc:qG Tryz.prog 90=some (1,16,false):=by kernel_rfl
theorem B6:jU Tryz.prog 56=some (true,16):=by kernel_rfl
theorem cq:jU Tryz.prog 58=some (true,19):=by kernel_rfl
theorem JY:Program.underlying Tryz.prog 56=some (.array 16 9):=by kernel_rfl
theorem wC:Program.underlying Tryz.prog 90=some (.slice 9):=by kernel_rfl
theorem QH:m7 Tryz.prog 56=some [Value.string ⟨#[]⟩,Value.string ⟨#[]⟩,Value.string ⟨#[]⟩,Value.string ⟨#[]⟩,Value.string ⟨#[]⟩,Value.string ⟨#[]⟩,Value.string ⟨#[]⟩,Value.string ⟨#[]⟩,Value.string ⟨#[]⟩,Value.string ⟨#[]⟩,Value.string ⟨#[]⟩,Value.string ⟨#[]⟩,Value.string ⟨#[]⟩,Value.string ⟨#[]⟩,Value.string ⟨#[]⟩,Value.string ⟨#[]⟩]:=by kernel_rfl
theorem kj:m7 Tryz.prog 58=some [Value.int IntKind.i64 0,Value.slice none 0 0,Value.string ⟨#[]⟩,Value.string ⟨#[]⟩,Value.string ⟨#[]⟩,Value.string ⟨#[]⟩,Value.string ⟨#[]⟩,Value.string ⟨#[]⟩,Value.string ⟨#[]⟩,Value.string ⟨#[]⟩,Value.string ⟨#[]⟩,Value.string ⟨#[]⟩,Value.string ⟨#[]⟩,Value.string ⟨#[]⟩,Value.string ⟨#[]⟩,Value.string ⟨#[]⟩,Value.string ⟨#[]⟩,Value.string ⟨#[]⟩,Value.string ⟨#[]⟩]:=by kernel_rfl
end TT
noncomputable def th (fB:(List UInt8)) (jr:(List UInt8)):Option Node:=
  ((cA fB).bind fun (x_1:(List UInt8))=>
  some (⟨1,x_1,jr,(aD.rep 16 ([]:(List UInt8)))⟩:Node))
theorem HV (fB:(List UInt8)) (jr:(List UInt8)) (r:Node) (h:th fB jr=some r):cD Tryz.prog 115 [.slice (fB.map aa), .val (sV jr)] (.agg (cNode r)):=by
 refine fQ Tryz.func115 Tryz.ntmps115 TT.SY ?_
 unfold th at h
 refine sR ?_
 refine xT 4 (bl (([pI (0), .full (([]:(List UInt8)).map aa),pS ([]:List UInt8)])++(((aD.rep 16 ([]:(List UInt8))).1.map eS).map PV.d)) TT.kj ?_)
 refine sR ?_
 refine xm 5 (.d (.slice (fB.map aa))) ?_
 obtain ⟨x_1,fk,h⟩:=bO h
 refine xS 6 (az (gb fB _ fk) ?_)
 refine xm 7 (pS jr) ?_
 refine xS 8 (dX (.agg (([pI (1), .d (.slice (x_1.map aa)),pS jr])++(((aD.rep 16 ([]:(List UInt8))).1.map eS).map PV.d))) rfl TT.oc (cI rfl (bY (p:=pI (1)) (cells:=(([pI (0), .full (([]:(List UInt8)).map aa),pS ([]:List UInt8)])++(((aD.rep 16 ([]:(List UInt8))).1.map eS).map PV.d))) (cells':=(([pI (1), .full (([]:(List UInt8)).map aa),pS ([]:List UInt8)])++(((aD.rep 16 ([]:(List UInt8))).1.map eS).map PV.d))) rfl rfl rfl (bz (ay (A:=[pI (0), .full (([]:(List UInt8)).map aa),pS ([]:List UInt8)]) (b:=16) rfl (aj _) rfl) bL) (eJ 0 (by first | exact Nat.le_of_ble_eq_true rfl | simp) rfl) (bY (p:= .d (.slice (x_1.map aa))) (cells:=(([pI (1), .full (([]:(List UInt8)).map aa),pS ([]:List UInt8)])++(((aD.rep 16 ([]:(List UInt8))).1.map eS).map PV.d))) (cells':=(([pI (1), .d (.slice (x_1.map aa)),pS ([]:List UInt8)])++(((aD.rep 16 ([]:(List UInt8))).1.map eS).map PV.d))) rfl rfl rfl (bz (ay (A:=[pI (1), .full (([]:(List UInt8)).map aa),pS ([]:List UInt8)]) (b:=16) rfl (aj _) rfl) bL) (eJ 1 (by first | exact Nat.le_of_ble_eq_true rfl | simp) rfl) (bY (p:=pS jr) (cells:=(([pI (1), .d (.slice (x_1.map aa)),pS ([]:List UInt8)])++(((aD.rep 16 ([]:(List UInt8))).1.map eS).map PV.d))) (cells':=(([pI (1), .d (.slice (x_1.map aa)),pS jr])++(((aD.rep 16 ([]:(List UInt8))).1.map eS).map PV.d))) rfl rfl rfl (bz (ay (A:=[pI (1), .d (.slice (x_1.map aa)),pS ([]:List UInt8)]) (b:=16) rfl (aj _) rfl) bL) (eJ 2 (by first | exact Nat.le_of_ble_eq_true rfl | simp) rfl) cH)))) ?_)
 refine xN (aV (([pI (1), .d (.slice (x_1.map aa)),pS jr])++(((aD.rep 16 ([]:(List UInt8))).1.map eS).map PV.d)) (c:=(([pI (1), .d (.slice (x_1.map aa)),pS jr])++(((aD.rep 16 ([]:(List UInt8))).1.map eS).map PV.d))) TT.cq ?_ (hn:=by exact ay (A:=[pI (1), .d (.slice (x_1.map aa)),pS jr]) (b:=16) rfl (aj _) rfl) (hf:=by exact bz (ay (A:=[pI (0), .full (([]:(List UInt8)).map aa),pS ([]:List UInt8)]) (b:=16) rfl (aj _) rfl) bL) (hl:=by exact cE ((ay (A:=[pI (0), .full (([]:(List UInt8)).map aa),pS ([]:List UInt8)]) (b:=16) rfl (aj _) rfl).trans (ay (A:=[pI (1), .d (.slice (x_1.map aa)),pS jr]) (b:=16) rfl (aj _) rfl).symm)))
 refine XK.nz ?_
 refine QW.ret zL ?_
 obtain rfl:=sO h
 exact Ends.one (.inr rfl) rfl (aN.cell rfl rfl TT.cq (dr (ay (A:=[pI (1), .d (.slice (x_1.map aa)),pS jr]) (b:=16) rfl (aj _) rfl) (Nat.succ_pos _))) (by simp only [PV.cN,PV.dW,iu,bK,Option.bind_some,Option.map_some,cNode]<;>rfl) rfl
noncomputable def lK (x0:Item):Option (List UInt8):=
  (bif (!(x0).bQ) then
  some (x0.fS)
  else
  ((mP x0).bind fun (x_2:((List UInt8)×Int))=>
  some (x_2.1)))
theorem vL (x0:Item) (r:(List UInt8)) (h:lK x0=some r):cD Tryz.prog 107 [.agg (ct x0)] (.val (sV r)):=by
 refine fQ Tryz.func107 Tryz.ntmps107 TT.SW ?_
 unfold lK at h
 refine sR ?_
 refine XK.fz (some 1) rfl rfl (eE (ct x0) rfl rfl rfl rfl rfl ?_)
 refine xz 2 (pS ([]:List UInt8)) ?_
 refine QW.seq ?_
 refine sR ?_
 refine xS 5 (aL TT.p8 ?_)
 refine xS 6 (aA (.val (.bool (x0.bQ))) TT.A4 ?_)
 refine xT 7 (kV ?_)
 refine cT (!(x0).bQ) (fun c8=>?_) (fun c8=>?_)
 ·replace h:=bT h c8
  refine sR ?_
  refine xS 8 (aL TT.iI ?_)
  refine xS 9 (aA (.val (sV (x0.fS))) TT.eG ?_)
  refine xz 2 (pS (x0.fS)) ?_
  refine QW.ret zL (dc ?_)
  obtain rfl:=sO h
  exact eO
 ·replace h:=bF h c8
  refine sk ?_
  refine sR ?_
  refine xS 11 (aA (.agg (ct x0)) TT.bB ?_ (h:=by exact ⟨by simp [ct],rfl⟩))
  obtain ⟨x_2,nS,h⟩:=bO h
  refine xS 12 (az (we x0 _ nS) ?_)
  refine xm 10 (.d (.tuple [.val (sV (x_2.1)), .val (.int .i64 (x_2.2))])) ?_
  refine xS 13 (aY ?_)
  refine xS 14 (aY ?_)
  refine xa 3 (pS (x_2.1)) ?_
  refine xz 4 (pI (x_2.2)) ?_
  refine sR ?_
  refine xm 15 (pS (x_2.1)) ?_
  refine xz 2 (pS (x_2.1)) ?_
  refine QW.ret zL ?_
  obtain rfl:=sO h
  exact eO
noncomputable def u7 (fB:(List UInt8)) (yX:(List UInt8)):Option Node:=
  ((cA fB).bind fun (x_1:(List UInt8))=>
  some (⟨2,x_1,([]:List UInt8),(⟨[yX,([]:(List UInt8)),([]:(List UInt8)),([]:(List UInt8)),([]:(List UInt8)),([]:(List UInt8)),([]:(List UInt8)),([]:(List UInt8)),([]:(List UInt8)),([]:(List UInt8)),([]:(List UInt8)),([]:(List UInt8)),([]:(List UInt8)),([]:(List UInt8)),([]:(List UInt8)),([]:(List UInt8))],rfl⟩:(aD 16 (List UInt8)))⟩:Node))
theorem Jf (fB:(List UInt8)) (yX:(List UInt8)) (r:Node) (h:u7 fB yX=some r):cD Tryz.prog 116 [.slice (fB.map aa), .val (sV yX)] (.agg (cNode r)):=by
 refine fQ Tryz.func116 Tryz.ntmps116 TT.SZ ?_
 unfold u7 at h
 refine sR ?_
 refine xT 4 (bl (([pI (0), .full (([]:(List UInt8)).map aa),pS ([]:List UInt8)])++(((aD.rep 16 ([]:(List UInt8))).1.map eS).map PV.d)) TT.kj ?_)
 refine sR ?_
 refine xm 5 (.d (.slice (fB.map aa))) ?_
 obtain ⟨x_1,fk,h⟩:=bO h
 refine xS 6 (az (gb fB _ fk) ?_)
 refine xm 7 (pS yX) ?_
 refine xA 8 (wz (.agg [pS yX,pS ([]:List UInt8),pS ([]:List UInt8),pS ([]:List UInt8),pS ([]:List UInt8),pS ([]:List UInt8),pS ([]:List UInt8),pS ([]:List UInt8),pS ([]:List UInt8),pS ([]:List UInt8),pS ([]:List UInt8),pS ([]:List UInt8),pS ([]:List UInt8),pS ([]:List UInt8),pS ([]:List UInt8),pS ([]:List UInt8)]) rfl (by rw [TT.MH];simp [lX,lW,placeOf,pN,aH,PV.ir,PV.iF,Value.oneCell',m4,oF,qP,List.all,p4,bW,AS,ym,fE,Gh]) (by rw [TT.MH];rfl) ⟨.d (.agg ((⟨[yX,([]:(List UInt8)),([]:(List UInt8)),([]:(List UInt8)),([]:(List UInt8)),([]:(List UInt8)),([]:(List UInt8)),([]:(List UInt8)),([]:(List UInt8)),([]:(List UInt8)),([]:(List UInt8)),([]:(List UInt8)),([]:(List UInt8)),([]:(List UInt8)),([]:(List UInt8)),([]:(List UInt8))],rfl⟩:(aD 16 (List UInt8))).1.map eS)),(fX.cN rfl),?_⟩)
 refine xS 9 (dX (.agg (([pI (2), .d (.slice (x_1.map aa)),pS ([]:List UInt8)])++(((⟨[yX,([]:(List UInt8)),([]:(List UInt8)),([]:(List UInt8)),([]:(List UInt8)),([]:(List UInt8)),([]:(List UInt8)),([]:(List UInt8)),([]:(List UInt8)),([]:(List UInt8)),([]:(List UInt8)),([]:(List UInt8)),([]:(List UInt8)),([]:(List UInt8)),([]:(List UInt8)),([]:(List UInt8))],rfl⟩:(aD 16 (List UInt8))).1.map eS).map PV.d))) rfl TT.oc (cI rfl (bY (p:=pI (2)) (cells:=(([pI (0), .full (([]:(List UInt8)).map aa),pS ([]:List UInt8)])++(((aD.rep 16 ([]:(List UInt8))).1.map eS).map PV.d))) (cells':=(([pI (2), .full (([]:(List UInt8)).map aa),pS ([]:List UInt8)])++(((aD.rep 16 ([]:(List UInt8))).1.map eS).map PV.d))) rfl rfl rfl (bz (ay (A:=[pI (0), .full (([]:(List UInt8)).map aa),pS ([]:List UInt8)]) (b:=16) rfl (aj _) rfl) bL) (eJ 0 (by first | exact Nat.le_of_ble_eq_true rfl | simp) rfl) (bY (p:= .d (.slice (x_1.map aa))) (cells:=(([pI (2), .full (([]:(List UInt8)).map aa),pS ([]:List UInt8)])++(((aD.rep 16 ([]:(List UInt8))).1.map eS).map PV.d))) (cells':=(([pI (2), .d (.slice (x_1.map aa)),pS ([]:List UInt8)])++(((aD.rep 16 ([]:(List UInt8))).1.map eS).map PV.d))) rfl rfl rfl (bz (ay (A:=[pI (2), .full (([]:(List UInt8)).map aa),pS ([]:List UInt8)]) (b:=16) rfl (aj _) rfl) bL) (eJ 1 (by first | exact Nat.le_of_ble_eq_true rfl | simp) rfl) (bY (p:= .d (.agg ((⟨[yX,([]:(List UInt8)),([]:(List UInt8)),([]:(List UInt8)),([]:(List UInt8)),([]:(List UInt8)),([]:(List UInt8)),([]:(List UInt8)),([]:(List UInt8)),([]:(List UInt8)),([]:(List UInt8)),([]:(List UInt8)),([]:(List UInt8)),([]:(List UInt8)),([]:(List UInt8)),([]:(List UInt8))],rfl⟩:(aD 16 (List UInt8))).1.map eS))) (cells:=(([pI (2), .d (.slice (x_1.map aa)),pS ([]:List UInt8)])++(((aD.rep 16 ([]:(List UInt8))).1.map eS).map PV.d))) (cells':=(([pI (2), .d (.slice (x_1.map aa)),pS ([]:List UInt8)])++(((⟨[yX,([]:(List UInt8)),([]:(List UInt8)),([]:(List UInt8)),([]:(List UInt8)),([]:(List UInt8)),([]:(List UInt8)),([]:(List UInt8)),([]:(List UInt8)),([]:(List UInt8)),([]:(List UInt8)),([]:(List UInt8)),([]:(List UInt8)),([]:(List UInt8)),([]:(List UInt8)),([]:(List UInt8))],rfl⟩:(aD 16 (List UInt8))).1.map eS).map PV.d))) rfl rfl (show (((⟨[yX,([]:(List UInt8)),([]:(List UInt8)),([]:(List UInt8)),([]:(List UInt8)),([]:(List UInt8)),([]:(List UInt8)),([]:(List UInt8)),([]:(List UInt8)),([]:(List UInt8)),([]:(List UInt8)),([]:(List UInt8)),([]:(List UInt8)),([]:(List UInt8)),([]:(List UInt8)),([]:(List UInt8))],rfl⟩:(aD 16 (List UInt8))).1.map eS).map PV.d).length=_ from aj _) (bz (ay (A:=[pI (2), .d (.slice (x_1.map aa)),pS ([]:List UInt8)]) (b:=16) rfl (aj _) rfl) bL) (qt 3 0 rfl (cE ((aj _).trans (aj _).symm))) cH)))) ?_)
 refine xN (aV (([pI (2), .d (.slice (x_1.map aa)),pS ([]:List UInt8)])++(((⟨[yX,([]:(List UInt8)),([]:(List UInt8)),([]:(List UInt8)),([]:(List UInt8)),([]:(List UInt8)),([]:(List UInt8)),([]:(List UInt8)),([]:(List UInt8)),([]:(List UInt8)),([]:(List UInt8)),([]:(List UInt8)),([]:(List UInt8)),([]:(List UInt8)),([]:(List UInt8)),([]:(List UInt8))],rfl⟩:(aD 16 (List UInt8))).1.map eS).map PV.d)) (c:=(([pI (2), .d (.slice (x_1.map aa)),pS ([]:List UInt8)])++(((⟨[yX,([]:(List UInt8)),([]:(List UInt8)),([]:(List UInt8)),([]:(List UInt8)),([]:(List UInt8)),([]:(List UInt8)),([]:(List UInt8)),([]:(List UInt8)),([]:(List UInt8)),([]:(List UInt8)),([]:(List UInt8)),([]:(List UInt8)),([]:(List UInt8)),([]:(List UInt8)),([]:(List UInt8))],rfl⟩:(aD 16 (List UInt8))).1.map eS).map PV.d))) TT.cq ?_ (hn:=by exact ay (A:=[pI (2), .d (.slice (x_1.map aa)),pS ([]:List UInt8)]) (b:=16) rfl (aj _) rfl) (hf:=by exact bz (ay (A:=[pI (0), .full (([]:(List UInt8)).map aa),pS ([]:List UInt8)]) (b:=16) rfl (aj _) rfl) bL) (hl:=by exact cE ((ay (A:=[pI (0), .full (([]:(List UInt8)).map aa),pS ([]:List UInt8)]) (b:=16) rfl (aj _) rfl).trans (ay (A:=[pI (2), .d (.slice (x_1.map aa)),pS ([]:List UInt8)]) (b:=16) rfl (aj _) rfl).symm)))
 refine XK.nz ?_
 refine QW.ret zL ?_
 obtain rfl:=sO h
 exact Ends.one (.inr rfl) rfl (aN.cell rfl rfl TT.cq (dr (ay (A:=[pI (2), .d (.slice (x_1.map aa)),pS ([]:List UInt8)]) (b:=16) rfl (aj _) rfl) (Nat.succ_pos _))) (by simp only [PV.cN,PV.dW,iu,bK,Option.bind_some,Option.map_some,cNode]<;>rfl) rfl
noncomputable def tj (a0:Item) (b1:Item):Option Node:=
  ((yt (a0.fS)).bind fun (x_1:((List UInt8)×Bool×Int))=>
  (bif x_1.2.1 then
  ((th (x_1.1) (b1.fS)).bind fun (x_4:Node)=>
  some x_4)
  else
  ((lK b1).bind fun (x_6:(List UInt8))=>
  ((u7 (x_1.1) x_6).bind fun (x_8:Node)=>
  some x_8))))
theorem HW (a0:Item) (b1:Item) (r:Node) (h:tj a0 b1=some r):cD Tryz.prog 106 [.agg (ct a0), .agg (ct b1)] (.agg (cNode r)):=by
 refine fQ Tryz.func106 Tryz.ntmps106 TT.SV ?_
 unfold tj at h
 refine sR ?_
 refine XK.fz (some 2) rfl rfl (eE (ct a0) rfl rfl rfl rfl rfl ?_)
 refine XK.fz (some 3) rfl rfl (eE (ct b1) rfl rfl rfl rfl rfl ?_)
 refine xT 4 (bl (([pI (0), .full (([]:(List UInt8)).map aa),pS ([]:List UInt8)])++(((aD.rep 16 ([]:(List UInt8))).1.map eS).map PV.d)) TT.kj ?_)
 refine sR ?_
 refine xS 9 (aL TT.iI ?_)
 refine xS 10 (aA (.val (sV (a0.fS))) TT.eG ?_)
 obtain ⟨x_1,fk,h⟩:=bO h
 refine xS 11 (az (Gl (a0.fS) _ fk) ?_)
 refine xm 8 (.d (.tuple [.slice ((x_1.1).map aa), .val (.bool (x_1.2.1)), .val (.int .i64 (x_1.2.2))])) ?_
 refine xS 12 (aY ?_)
 refine xS 13 (aY ?_)
 refine xS 14 (aY ?_)
 refine xa 5 (.d (.slice ((x_1.1).map aa))) ?_
 refine xa 6 (pB (x_1.2.1)) ?_
 refine xz 7 (pI (x_1.2.2)) ?_
 refine QW.seq ?_
 refine sR ?_
 refine xm 15 (pB (x_1.2.1)) ?_
 refine XK.nz ?_
 refine cT x_1.2.1 (fun dY=>?_) (fun dY=>?_)
 ·replace h:=bT h dY
  refine sR ?_
  refine xm 16 (.d (.slice ((x_1.1).map aa))) ?_
  refine xS 17 (aL TT.iI ?_)
  refine xS 18 (aA (.val (sV (b1.fS))) TT.eG ?_)
  obtain ⟨x_4,mQ,h⟩:=bO h
  refine xS 19 (az (HV (x_1.1) (b1.fS) _ mQ) ?_)
  refine xN (aV (([pI (x_4.aG), .d (.slice ((x_4.av).map aa)),pS (x_4.aq)])++(((x_4.aC).1.map eS).map PV.d)) (c:=(([pI (x_4.aG), .d (.slice ((x_4.av).map aa)),pS (x_4.aq)])++(((x_4.aC).1.map eS).map PV.d))) TT.cq ?_ (hc:=by exact show (cNode x_4).map PV.d=_ by simp only [cNode,List.map_append];rfl) (hn:=by exact ay (A:=[pI (x_4.aG), .d (.slice ((x_4.av).map aa)),pS (x_4.aq)]) (b:=16) rfl (aj _) rfl) (hf:=by exact bz (ay (A:=[pI (0), .full (([]:(List UInt8)).map aa),pS ([]:List UInt8)]) (b:=16) rfl (aj _) rfl) bL) (hl:=by exact cE ((ay (A:=[pI (0), .full (([]:(List UInt8)).map aa),pS ([]:List UInt8)]) (b:=16) rfl (aj _) rfl).trans (ay (A:=[pI (x_4.aG), .d (.slice ((x_4.av).map aa)),pS (x_4.aq)]) (b:=16) rfl (aj _) rfl).symm)))
  refine XK.nz ?_
  refine QW.ret zL (dc ?_)
  obtain rfl:=sO h
  exact Ends.one (.inr rfl) rfl (aN.cell rfl rfl TT.cq (dr (ay (A:=[pI (x_4.aG), .d (.slice ((x_4.av).map aa)),pS (x_4.aq)]) (b:=16) rfl (aj _) rfl) (Nat.succ_pos _))) (by simp only [PV.cN,PV.dW,iu,bK,Option.bind_some,Option.map_some,cNode]<;>rfl) rfl
 ·replace h:=bF h dY
  refine sk ?_
  refine sR ?_
  refine xm 20 (.d (.slice ((x_1.1).map aa))) ?_
  refine xS 21 (aA (.agg (ct b1)) TT.bB ?_ (h:=by exact ⟨by simp [ct],rfl⟩))
  obtain ⟨x_6,u6,h⟩:=bO h
  refine xS 22 (az (vL b1 _ u6) ?_)
  obtain ⟨x_8,Eh,h⟩:=bO h
  refine xS 23 (az (Jf (x_1.1) x_6 _ Eh) ?_)
  refine xN (aV (([pI (x_8.aG), .d (.slice ((x_8.av).map aa)),pS (x_8.aq)])++(((x_8.aC).1.map eS).map PV.d)) (c:=(([pI (x_8.aG), .d (.slice ((x_8.av).map aa)),pS (x_8.aq)])++(((x_8.aC).1.map eS).map PV.d))) TT.cq ?_ (hc:=by exact show (cNode x_8).map PV.d=_ by simp only [cNode,List.map_append];rfl) (hn:=by exact ay (A:=[pI (x_8.aG), .d (.slice ((x_8.av).map aa)),pS (x_8.aq)]) (b:=16) rfl (aj _) rfl) (hf:=by exact bz (ay (A:=[pI (0), .full (([]:(List UInt8)).map aa),pS ([]:List UInt8)]) (b:=16) rfl (aj _) rfl) bL) (hl:=by exact cE ((ay (A:=[pI (0), .full (([]:(List UInt8)).map aa),pS ([]:List UInt8)]) (b:=16) rfl (aj _) rfl).trans (ay (A:=[pI (x_8.aG), .d (.slice ((x_8.av).map aa)),pS (x_8.aq)]) (b:=16) rfl (aj _) rfl).symm)))
  refine XK.nz ?_
  refine QW.ret zL ?_
  obtain rfl:=sO h
  exact Ends.one (.inr rfl) rfl (aN.cell rfl rfl TT.cq (dr (ay (A:=[pI (x_8.aG), .d (.slice ((x_8.av).map aa)),pS (x_8.aq)]) (b:=16) rfl (aj _) rfl) (Nat.succ_pos _))) (by simp only [PV.cN,PV.dW,iu,bK,Option.bind_some,Option.map_some,cNode]<;>rfl) rfl
noncomputable def wX (jy:(aD 16 (List UInt8))):Option Node:=
  some (⟨3,([]:(List UInt8)),([]:List UInt8),jy⟩:Node)
theorem E7 (jy:(aD 16 (List UInt8))) (r:Node) (h:wX jy=some r):cD Tryz.prog 108 [.agg (jy.1.map eS)] (.agg (cNode r)):=by
 refine fQ Tryz.func108 Tryz.ntmps108 TT.SX ?_
 unfold wX at h
 refine sR ?_
 refine XK.fz (some 1) rfl rfl (eE (jy.1.map eS) rfl rfl rfl rfl bK ?_)
 refine xT 2 (bl (([pI (0), .full (([]:(List UInt8)).map aa),pS ([]:List UInt8)])++(((aD.rep 16 ([]:(List UInt8))).1.map eS).map PV.d)) TT.kj ?_)
 refine sR ?_
 refine xS 3 (aA (.agg (jy.1.map eS)) TT.B6 ?_ (h:=by exact s9 (by rw [List.length_map,jy.2])))
 refine xS 4 (dX (.agg (([pI (3), .full (([]:(List UInt8)).map aa),pS ([]:List UInt8)])++((jy.1.map eS).map PV.d))) rfl TT.oc (cI rfl (bY (p:=pI (3)) (cells:=(([pI (0), .full (([]:(List UInt8)).map aa),pS ([]:List UInt8)])++(((aD.rep 16 ([]:(List UInt8))).1.map eS).map PV.d))) (cells':=(([pI (3), .full (([]:(List UInt8)).map aa),pS ([]:List UInt8)])++(((aD.rep 16 ([]:(List UInt8))).1.map eS).map PV.d))) rfl rfl rfl (bz (ay (A:=[pI (0), .full (([]:(List UInt8)).map aa),pS ([]:List UInt8)]) (b:=16) rfl (aj _) rfl) bL) (eJ 0 (by first | exact Nat.le_of_ble_eq_true rfl | simp) rfl) (bY (p:= .d (.agg (jy.1.map eS))) (cells:=(([pI (3), .full (([]:(List UInt8)).map aa),pS ([]:List UInt8)])++(((aD.rep 16 ([]:(List UInt8))).1.map eS).map PV.d))) (cells':=(([pI (3), .full (([]:(List UInt8)).map aa),pS ([]:List UInt8)])++((jy.1.map eS).map PV.d))) rfl rfl (show ((jy.1.map eS).map PV.d).length=_ from aj _) (bz (ay (A:=[pI (3), .full (([]:(List UInt8)).map aa),pS ([]:List UInt8)]) (b:=16) rfl (aj _) rfl) bL) (qt 3 0 rfl (cE ((aj _).trans (aj _).symm))) cH))) ?_)
 refine xN (aV (([pI (3), .full (([]:(List UInt8)).map aa),pS ([]:List UInt8)])++((jy.1.map eS).map PV.d)) (c:=(([pI (3), .full (([]:(List UInt8)).map aa),pS ([]:List UInt8)])++((jy.1.map eS).map PV.d))) TT.cq ?_ (hn:=by exact ay (A:=[pI (3), .full (([]:(List UInt8)).map aa),pS ([]:List UInt8)]) (b:=16) rfl (aj _) rfl) (hf:=by exact bz (ay (A:=[pI (0), .full (([]:(List UInt8)).map aa),pS ([]:List UInt8)]) (b:=16) rfl (aj _) rfl) bL) (hl:=by exact cE ((ay (A:=[pI (0), .full (([]:(List UInt8)).map aa),pS ([]:List UInt8)]) (b:=16) rfl (aj _) rfl).trans (ay (A:=[pI (3), .full (([]:(List UInt8)).map aa),pS ([]:List UInt8)]) (b:=16) rfl (aj _) rfl).symm)))
 refine XK.nz ?_
 refine QW.ret zL ?_
 obtain rfl:=sO h
 exact Ends.one (.inr rfl) rfl (aN.cell rfl rfl TT.cq (dr (ay (A:=[pI (3), .full (([]:(List UInt8)).map aa),pS ([]:List UInt8)]) (b:=16) rfl (aj _) rfl) (Nat.succ_pos _))) (by simp only [PV.cN,PV.dW,iu,bK,Option.bind_some,Option.map_some,cNode]<;>rfl) rfl
noncomputable def kI (self:(List UInt8)→Option Bool) (k0:(List UInt8)):Option Bool:=
  ((self k0).bind fun (x_1:Bool)=>
  some (!x_1))
theorem Di (self:(List UInt8)→Option Bool) (dZ:∀ (y0:(List UInt8)) (rr:Bool),self y0=some rr→cD Tryz.prog 72 [.val (sV y0)] (.val (.bool rr))) (k0:(List UInt8)) (r:Bool) (h:kI self k0=some r):cD Tryz.prog 71 [.val (sV k0)] (.val (.bool r)):=by
 refine fQ Tryz.func71 Tryz.ntmps71 TT.Vd ?_
 unfold kI at h
 refine sR ?_
 refine xz 2 (pB false) ?_
 refine sR ?_
 refine xm 3 (pS k0) ?_
 obtain ⟨x_1,fk,h⟩:=bO h
 refine xS 4 (az (dZ k0 _ fk) ?_)
 refine xS 5 (kV ?_)
 refine xz 2 (pB (!x_1)) ?_
 refine QW.ret zL ?_
 obtain rfl:=sO h
 exact eO
noncomputable def jc (v0:(List (List UInt8))):Option (List (List UInt8)):=
  gO (v0.length*16≤140737488355328) (
  some v0)
theorem tU (v0:(List (List UInt8))) (r:(List (List UInt8))) (h:jc v0=some r):Spec Tryz.prog 77 [.d (.slice (v0.map eS))] (aK []) 0 (mJ (.ret (.iG 0 0 r.length)) (aK [.var (dK (r.map eS))]) 1):=by
 refine Spec.sw Tryz.func77 rfl (by simp [Tryz.ntmps77]) bL ?_
 rw [Tryz.ntmps77,TT.Vi]
 refine QW.view (s':=⟨bW [(0, .d (.slice (v0.map eS)))],aK [],0,[]⟩) (View.nJ zL (by rfl)) zL ?_
 unfold jc at h
 refine sR ?_
 refine xz 2 (.full (([]:(List (List UInt8))).map eS)) ?_
 refine QW.seq ?_
 refine sR ?_
 refine xm 3 (.d (.slice (v0.map eS))) ?_
 refine XK.nt (l:=v0) (some 4) rfl rfl rfl TT.wC rfl (fun e0=>?_) ?_
 ·refine XK.nz ?_
  refine QW.Hl rfl ?_
  refine sR ?_
  refine xz 2 (.full (([]:(List (List UInt8))).map eS)) ?_
  refine QW.ret zL (dc ?_)
  subst e0;obtain ⟨_,h⟩:=bq h;obtain rfl:=sO h
  exact gu.one (s':=⟨bW [(2, .iG 0 0 0)],aK [.var (dK (([]:(List (List UInt8))).map eS))],1,[]⟩) (.inr rfl) (View.trans (View.Y1 2 rfl zL) (vM 1 [0])) rfl bL (fun i hi=>ec [.var (dK (([]:(List (List UInt8))).map eS))] [] i hi) rfl (by simp [HO.bw,HO.bH,PV.bw,PV.bH,cz,dK]) (aN.tmp rfl) (by simp [PV.bw,PV.bH,cz])
 ·refine XK.nz ?_
  refine QW.N7 rfl ?_
  refine sk ?_
  refine sR ?_
  refine xS 5 (eA eS ([]:List (List UInt8)) TT.HU ?_ (hl:=AV))
  refine xm 6 (.d (.slice (v0.map eS))) ?_
  obtain ⟨oK,h⟩:=bq h
  refine XK.so (some 7) rfl rfl (Sw v0 (en:=eS) TT.HU TT.wC AV oK ?_)
  refine xz 2 (.iG 0 0 v0.length) ?_
  refine QW.ret zL ?_
  obtain rfl:=sO h
  exact gu.one (s':=⟨bW [(2, .iG 0 0 v0.length)],aK [.var (dK (v0.map eS))],1,[]⟩) (.inr rfl) (vM 1 [0]) rfl bL (fun i hi=>ec [.var (dK (v0.map eS))] [] i hi) rfl (by simp [HO.bw,HO.bH,PV.bw,PV.bH,cz,dK]) (aN.tmp rfl) (by simp [PV.bw,PV.bH,cz])
inductive m6 where
 | S
 | L1 (v8:Int)
noncomputable def cL (v0:(List (List UInt8))) (f1:(List UInt8)→Option Bool):m6→Option (m6⊕Int)
 | .S=>
  some (.inl (.L1 (0)))
 | .L1 v8=>
  (bif (decide (v8<(v0.length:Int))) then
  gO (0≤v8∧v8<(v0.length:Int)) (
  ((f1 (idx v0 v8)).bind fun (x_4:Bool)=>
  (bif x_4 then
  some (.inr v8)
  else
  gO (bf (v8+(1:Int))) (
  some (.inl (.L1 (v8+(1:Int))))))))
  else
  some (.inr (-1)))
noncomputable def h9 (v0:(List (List UInt8))) (f1:(List UInt8)→Option Bool):Option Int:=gJ (cL v0 f1) .S
theorem mm (v0:(List (List UInt8))) (f1:(List UInt8)→Option Bool) (qQ:Nat) (tT:List D) (Jc:e8 Tryz.prog qQ=true) (Jd:∀ y0 r,f1 y0=some r→cD Tryz.prog qQ ([.val (sV y0)]++tT) (.val (.bool r))) (r:Int) (h:h9 v0 f1=some r):cD Tryz.prog 97 [.slice (v0.map eS), .jT qQ tT] (.val (.int .i64 r)):=by
 refine fQ Tryz.func97 Tryz.ntmps97 TT.Vl ?_
 obtain ⟨_,h⟩:=cP h
 obtain ⟨dm,e9,h⟩:=aQ h;rw [cL] at h
 refine sR ?_
 refine xz 4 (pI (0)) ?_
 refine QW.seq ?_
 refine sR ?_
 refine xm 6 (.d (.slice (v0.map eS))) ?_
 refine xS 7 (cX eS v0 TT.wC ?_)
 refine xm 8 (pI (0)) ?_
 refine XK.nz ?_
 refine QW.block ?_
 refine lp (fun k σ=>∃ v8:Int,k≤dm∧run (cL v0 f1) k (.L1 v8)=some r∧σ=⟨bW [(0, .d (.slice (v0.map eS))),(1, .d (.jT qQ tT)),(7,pI (v0.length:Int)),(8,pI v8)],aK [],0,[]⟩) dm ⟨0,Nat.le_refl _,jG h,rfl⟩ (vM 0 []) ?_
 rintro wP _ ⟨v8,wQ,h,rfl⟩
 obtain ⟨k_1,e9,h⟩:=aQ h;rw [cL] at h
 refine sR ?_
 refine xT 9 (cM v8 (v0.length:Int) ?_)
 refine QW.seq ?_
 refine cT (decide (v8<(v0.length:Int))) (fun cQ=>?_) (fun cQ=>?_)
 ·replace h:=ej h cQ
  refine sk ?_
  refine QW.seq ?_
  refine QW.block ?_
  refine sR ?_
  refine xm 10 (pI v8) ?_
  refine xz 5 (pI v8) ?_
  refine sR ?_
  refine xm 11 (.d (.jT qQ tT)) ?_
  refine xm 12 (.d (.slice (v0.map eS))) ?_
  refine xm 13 (pI v8) ?_
  obtain ⟨eD,h⟩:=gG h
  refine xS 14 (bX v0 v8 TT.Bc AV eD ?_)
  refine xS 15 (aA (.val (sV (idx v0 v8))) TT.eG ?_)
  obtain ⟨x_4,mQ,h⟩:=bG h
  refine xT 16 (xW (Jd (idx v0 v8) _ mQ) ?_ (he:=Jc))
  refine cT x_4 (fun j4=>?_) (fun j4=>?_)
  ·replace h:=ej h j4
   refine sR ?_
   refine xm 17 (pI v8) ?_
   refine xz 4 (pI v8) ?_
   refine QW.ret zL (nK (dc (dc (nK (dc ?_)))))
   obtain rfl:=sG h
   exact eO
  ·replace h:=ek h j4
   refine QW.skip zL (iS (cn ?_))
   refine rG ?_
   obtain ⟨pJ,h⟩:=gG h
   refine xS 18 (bE v8 (1:Int) pJ ?_)
   refine xm 8 (pI (v8+(1:Int))) ?_
   refine XK.nz ?_
   exact lb k_1 ⟨(v8+(1:Int)),by omega,jG h,rfl⟩ (vM 0 [])
 ·replace h:=ek h cQ
  refine QW.exit zL (eP (eP (kW (cn ?_))))
  refine sR ?_
  refine xz 4 (pI (-1)) ?_
  refine QW.ret zL ?_
  obtain rfl:=sG h
  exact eO
inductive mS where
 | S
 | L1 (dM:Int) (dB:Int) (o5:(List (List UInt8)))
noncomputable def bU (f1:(List UInt8)→Option Bool) (v0:(List (List UInt8))):mS→Option (mS⊕(List (List UInt8)))
 | .S=>
  ((h9 v0 f1).bind fun (x_1:Int)=>
  (bif (decide (x_1=(-1:Int))) then
  some (.inr v0)
  else
  gO (bf (x_1+(1:Int))) (
  some (.inl (.L1 x_1 (x_1+(1:Int)) v0)))))
 | .L1 dM dB o5=>
  (bif (decide (dB<((v0.length:Nat):Int))) then
  ((gO (0≤dB∧dB<((v0.length:Nat):Int)) (
  gO (0≤dB∧dB<(o5.length:Int)) (
  ((f1 (idx o5 dB)).bind fun (x_9:Bool)=>
  (bif (!x_9) then
  gO (0≤dM∧dM<((v0.length:Nat):Int)) (
  gO (0≤dM∧dM<(o5.length:Int)) (
  gO (bf (dM+(1:Int))) (
  some ((dM+(1:Int)),(o5.set dM.toNat (idx o5 dB))))))
  else
  some (dM,o5))))):Option (Int×(List (List UInt8)))).bind fun (PB,PC)=>
  gO (bf (dB+(1:Int))) (
  some (.inl (.L1 PB (dB+(1:Int)) PC))))
  else
  gO (0≤dM∧dM≤((v0.length:Nat):Int)∧((v0.length:Nat):Int)≤((v0.length:Nat):Int)) (
  gO ((v0.length)=o5.length) (
  gO (0≤(0:Int)∧(0:Int)≤dM∧dM≤((v0.length:Nat):Int)) (
  gO (((dM-(0:Int)).toNat)=(o5.take dM.toNat).length) (
  some (.inr (o5.take dM.toNat)))))))
noncomputable def jz (f1:(List UInt8)→Option Bool) (v0:(List (List UInt8))):Option (List (List UInt8)):=gJ (bU f1 v0) .S
theorem qT (f1:(List UInt8)→Option Bool) (qQ:Nat) (tT:List D) (Jc:e8 Tryz.prog qQ=true) (Jd:∀ y0 r,f1 y0=some r→cD Tryz.prog qQ ([.val (sV y0)]++tT) (.val (.bool r))) (v0:(List (List UInt8))) (r:(List (List UInt8))) (h:jz f1 v0=some r):Spec Tryz.prog 76 [.iG 0 0 v0.length, .d (.jT qQ tT)] (aK [.var (dK (v0.map eS))]) 1 (mJ (.ret (.d (.slice (r.map eS)))) (aK [.dead]) 1):=by
 refine Spec.sw Tryz.func76 rfl (by simp [Tryz.ntmps76]) bL ?_
 rw [Tryz.ntmps76,TT.Vh]
 refine QW.view (s':=⟨bW [(0, .iG 0 0 v0.length),(1, .d (.jT qQ tT))],aK [.var (dK (v0.map eS))],1,[]⟩) (View.nJ bL (by rfl)) bL ?_
 obtain ⟨_,h⟩:=cP h
 obtain ⟨dm,e9,h⟩:=aQ h;rw [bU] at h
 refine mK ?_
 refine xz 4 (.full (([]:(List (List UInt8))).map eS)) ?_
 refine mK ?_
 refine xm 8 (.iG 0 0 v0.length) ?_
 refine xm 9 (.d (.jT qQ tT)) ?_
 obtain ⟨x_1,fk,h⟩:=bG h
 refine XK.so (some 10) rfl rfl (Ss (v0.map eS) (mm v0 f1 qQ tT Jc Jd _ fk) ?_)
 refine xz 5 (pI x_1) ?_
 refine QW.seq ?_
 refine mK ?_
 refine xm 11 (pI x_1) ?_
 refine xT 12 (dj x_1 (-1:Int) ?_)
 refine QW.cond (t:=(decide (x_1=(-1:Int)))) rfl bL (fun dY=>?_) (fun dY=>?_)
 ·replace h:=ej h dY
  refine mK ?_
  refine xm 13 (.iG 0 0 v0.length) ?_
  refine xz 4 (.iG 0 0 v0.length) ?_
  refine QW.ret bL (dc ?_)
  obtain rfl:=sG h
  exact gu.one (s':=⟨bW [(4, .d (.slice (v0.map eS)))],aK [.dead],1,[]⟩) (.inr rfl) (View.trans (View.JW (en:=eS) (l:=v0) 0 4 rfl rfl rfl bL) (vM 1 [0])) rfl bL (fun i hi=>ec [.dead] [] i hi) rfl (by simp [HO.bw,HO.bH,PV.bw,PV.bH,cz,dK]) (aN.tmp rfl) (by simp [PV.bw,PV.bH,cz])
 ·replace h:=ek h dY
  refine QW.skip bL (cn ?_)
  refine QW.seq ?_
  refine mK ?_
  refine xm 14 (pI x_1) ?_
  obtain ⟨rW,h⟩:=gG h
  refine xS 15 (bE x_1 (1:Int) rW ?_)
  refine xz 6 (pI (x_1+(1:Int))) ?_
  refine QW.block ?_
  refine lp (fun k σ=>∃ dM:Int,∃ dB:Int,∃ o5:(List (List UInt8)),k≤dm∧run (bU f1 v0) k (.L1 dM dB o5)=some r∧σ=⟨bW [(0, .iG 0 0 v0.length),(1, .d (.jT qQ tT)),(5,pI dM),(6,pI dB)],aK [.var (dK (o5.map eS))],1,[]⟩) dm ⟨x_1,(x_1+(1:Int)),v0,Nat.le_refl _,jG h,rfl⟩ (vM 1 [0]) ?_
  rintro MI _ ⟨dM,dB,o5,MJ,h,rfl⟩
  obtain ⟨Dj,e9,h⟩:=aQ h;rw [bU] at h
  refine QW.seq ?_
  refine mK ?_
  refine xm 16 (pI dB) ?_
  refine xm 17 (.iG 0 0 v0.length) ?_
  refine XK.so (some 18) rfl rfl (Sr TT.wC ?_)
  refine xT 19 (cM dB ((v0.length:Nat):Int) ?_)
  refine QW.cond (t:=(decide (dB<((v0.length:Nat):Int)))) rfl bL (fun j4=>?_) (fun j4=>?_)
  ·replace h:=ej h j4
   refine QW.skip bL (cn ?_)
   obtain ⟨⟨PB,PC⟩,hq,h⟩:=bG h
   refine QW.s6 (fun s'=>s'=⟨bW [(0, .iG 0 0 v0.length),(1, .d (.jT qQ tT)),(5,pI PB),(6,pI dB)],aK [.var (dK (PC.map eS))],1,[]⟩) ?_ ?_
   ·replace h:=hq;clear hq
    refine QW.block ?_
    refine mK ?_
    refine xm 22 (.iG 0 0 v0.length) ?_
    refine xm 23 (pI dB) ?_
    obtain ⟨pJ,h⟩:=bq h
    obtain ⟨uq,h⟩:=bq h
    refine XK.so (some 24) rfl rfl (Ms dB TT.Bc pJ ?_)
    refine xS 25 (aW (pS (idx o5 dB)) TT.eG ?_ (h:=Qw AV uq))
    refine xz 7 (pS (idx o5 dB)) ?_
    refine mK ?_
    refine xm 26 (.d (.jT qQ tT)) ?_
    refine xm 27 (pS (idx o5 dB)) ?_
    obtain ⟨x_9,zI,h⟩:=bO h
    refine xS 28 (xW (Jd (idx o5 dB) _ zI) ?_ (he:=Jc))
    refine xT 29 (kV ?_)
    refine QW.cond (t:=(!x_9)) rfl bL (fun kJ=>?_) (fun kJ=>?_)
    ·replace h:=bT h kJ
     refine mK ?_
     refine xm 30 (.iG 0 0 v0.length) ?_
     refine xm 31 (pI dM) ?_
     refine xm 32 (pS (idx o5 dB)) ?_
     obtain ⟨kP,h⟩:=bq h
     obtain ⟨nU,h⟩:=bq h
     refine XK.so (some 33) rfl rfl (Ms dM TT.Bc kP ?_)
     refine xN (aV (dK ((o5.set dM.toNat (idx o5 dB)).map eS)) (c:=([.val (sV (idx o5 dB))]).map .d) TT.eG ?_ (hf:=by exact UO AV nU) (hl:=Sq AV nU))
     refine XK.nz ?_
     refine Gk ?_
     refine xm 34 (pI dM) ?_
     obtain ⟨tc,h⟩:=bq h
     refine xS 35 (bE dM (1:Int) tc ?_)
     refine xa 5 (pI (dM+(1:Int))) ?_
     refine XK.nil (iS (cn ?_))
     simp only [Option.some.injEq,Prod.mk.injEq] at h
     obtain ⟨rfl,rfl⟩:=h
     exact jb rfl (vM 1 [0])
    ·replace h:=bF h kJ
     refine QW.skip bL (iS (cn ?_))
     simp only [Option.some.injEq,Prod.mk.injEq] at h
     obtain ⟨rfl,rfl⟩:=h
     exact jb rfl (vM 1 [0])
   ·rintro _ rfl
    refine Gk ?_
    refine xm 20 (pI dB) ?_
    obtain ⟨uY,h⟩:=gG h
    refine xS 21 (bE dB (1:Int) uY ?_)
    refine xz 6 (pI (dB+(1:Int))) ?_
    exact lb Dj ⟨PB,(dB+(1:Int)),PC,by omega,jG h,rfl⟩ (vM 1 [0])
  ·replace h:=ek h j4
   refine QW.exit bL (eP (eP (kW (cn ?_))))
   refine mK ?_
   refine xm 36 (.iG 0 0 v0.length) ?_
   refine xm 37 (pI dM) ?_
   obtain ⟨q8,h⟩:=gG h
   refine XK.so (some 38) rfl rfl (Py dM ((v0.length:Nat):Int) TT.Bc q8 ?_)
   obtain ⟨oB,h⟩:=gG h
   refine XK.so none rfl rfl (Qx (dK ((o5.take dM.toNat).map eS)) TT.HU (UQ AV q8 oB) (Qy AV q8 oB) ?_)
   refine XK.nz ?_
   refine mK ?_
   refine xm 39 (.iG 0 0 v0.length) ?_
   refine xm 40 (pI dM) ?_
   obtain ⟨qI,h⟩:=gG h
   refine XK.so (some 41) rfl rfl (Py (0:Int) dM TT.Bc qI ?_)
   refine xz 4 (.iG 0 0 (dM-(0:Int)).toNat) ?_
   refine QW.ret bL ?_
   obtain ⟨wY,h⟩:=gG h
   obtain rfl:=sG h
   exact gu.one (s':=⟨bW [(4, .d (.slice ((o5.take dM.toNat).map eS)))],aK [.dead],1,[]⟩) (.inr rfl) (View.trans (View.JW (en:=eS) (l:=(o5.take dM.toNat)) 0 4 rfl rfl wY bL) (vM 1 [0])) rfl bL (fun i hi=>ec [.dead] [] i hi) rfl (by simp [HO.bw,HO.bH,PV.bw,PV.bH,cz,dK]) (aN.tmp rfl) (by simp [PV.bw,PV.bH,cz])
noncomputable def qd (k0:(List UInt8)):Option Bool:=
  some (k0==([]:List UInt8))
theorem E8 (k0:(List UInt8)) (r:Bool) (h:qd k0=some r):cD Tryz.prog 78 [.val (sV k0)] (.val (.bool r)):=by
 refine fQ Tryz.func78 Tryz.ntmps78 TT.Vj ?_
 unfold qd at h
 refine sR ?_
 refine xz 2 (pB false) ?_
 refine sR ?_
 refine xm 3 (pS k0) ?_
 refine xS 4 (jW k0 ([]:List UInt8) ?_)
 refine xz 2 (pB (k0==([]:List UInt8))) ?_
 refine QW.ret zL ?_
 obtain rfl:=sO h
 exact eO
noncomputable def nw (n0:Node):Option (List (List UInt8)):=
  ((jc ((n0.aC).1)).bind fun (S0:(List (List UInt8)))=>
  ((jz (fun y0=>qd y0) S0).bind fun (Vm:(List (List UInt8)))=>
  some Vm))
theorem Bd (n0:Node) (r:(List (List UInt8))) (h:nw n0=some r):cD Tryz.prog 42 [.agg (cNode n0)] (.slice (r.map eS)):=by
 refine fQ Tryz.func42 Tryz.ntmps42 TT.Va ?_
 unfold nw at h
 refine sR ?_
 refine XK.fz (some 1) rfl rfl (eE (cNode n0) rfl rfl rfl rfl bK ?_)
 refine xz 2 (.full (([]:(List (List UInt8))).map eS)) ?_
 refine sR ?_
 refine xS 3 (aL TT.iW ?_)
 refine xA 4 (EZ n0.aC (en:=eS) TT.JY TT.mR (nu _) ⟨.d (.slice (((n0.aC).1).map eS)),(fX.cN rfl),?_⟩ (hf:=by exact Hx (HP _)))
 obtain ⟨S0,fk,h⟩:=bO h
 refine XK.fr (p:= .iG 0 0 S0.length) (H2:=cG _ 0 (some (.var (dK (S0.map eS))))) (nr:=1) (some 5) rfl rfl (bR [] rfl rfl TT.Ov (tU ((n0.aC).1) _ fk) rfl rfl (by decide) trivial bL) rfl (by simp only [iR,lv,HO.re,dK,PV.Ho,HE];rfl) rfl ?_
 obtain ⟨Vm,mQ,h⟩:=bO h
 refine XK.fr (p:= .d (.slice (Vm.map eS))) (H2:=cG _ 0 none) (nr:=1) (some 6) rfl rfl (bR [0] rfl rfl TT.Ou (qT (fun y0=>qd y0) 78 [] TT.Ow (fun y0 _ h=>E8 y0 _ h) S0 _ mQ) rfl rfl (by decide) (And.intro (by simp only [HO.re,dK,PV.Ho];rfl) trivial) bL) rfl rfl rfl ?_
 refine xz 2 (.d (.slice (Vm.map eS))) ?_
 refine QW.ret zL ?_
 obtain rfl:=sO h
 exact eO
noncomputable def q9 (n0:Node):Option Bool:=
  ((nw n0).bind fun (x_1:(List (List UInt8)))=>
  (bif (decide ((n0.aG)=(1:Int))) then
  some (((!(n0.aq==([]:List UInt8)))&&(decide (((n0.aq).length:Int)≤(65552:Int))))&&(decide ((x_1.length:Int)=(0:Int))))
  else
  (bif (decide ((n0.aG)=(2:Int))) then
  some ((((n0.aq==([]:List UInt8))&&(decide ((0:Int)<((n0.av).length:Int))))&&(decide ((x_1.length:Int)=(1:Int))))&&(!((idx (n0.aC).1 (0:Int))==([]:List UInt8))))
  else
  (bif (decide ((n0.aG)=(3:Int))) then
  some (((n0.aq==([]:List UInt8))&&(decide (((n0.av).length:Int)=(0:Int))))&&(decide ((1:Int)<(x_1.length:Int))))
  else
  some false))))
theorem Gm (n0:Node) (r:Bool) (h:q9 n0=some r):cD Tryz.prog 73 [.agg (cNode n0)] (.val (.bool r)):=by
 refine fQ Tryz.func73 Tryz.ntmps73 TT.Vf ?_
 unfold q9 at h
 refine sR ?_
 refine XK.fz (some 1) rfl rfl (eE (cNode n0) rfl rfl rfl rfl bK ?_)
 refine xz 2 (pB false) ?_
 refine sR ?_
 refine xS 4 (aA (.agg (cNode n0)) TT.cq ?_ (h:=by exact ⟨by rw [ki.len];decide,congrArg D.agg (List.take_of_length_le (by rw [ki.len];decide))⟩))
 obtain ⟨x_1,fk,h⟩:=bO h
 refine xS 5 (az (Bd n0 _ fk) ?_)
 refine xS 6 (cX eS x_1 TT.wC ?_)
 refine xz 3 (pI (x_1.length:Int)) ?_
 refine QW.seq ?_
 refine sR ?_
 refine xS 7 (aL TT.iV ?_)
 refine xT 8 (aA (.val (.int .i64 (n0.aG))) TT.jl ?_ (h:=jN _))
 refine QW.block ?_
 refine sR ?_
 refine xS 10 (dj (n0.aG) (1:Int) ?_)
 refine xz 9 (pB (decide ((n0.aG)=(1:Int)))) ?_
 refine cT (decide ((n0.aG)=(1:Int))) (fun dY=>?_) (fun dY=>?_)
 ·replace h:=bT h dY
  refine sR ?_
  refine xS 11 (aL TT.kH ?_)
  refine xS 12 (aA (.val (sV (n0.aq))) TT.eG ?_ (h:=jO _))
  refine xS 13 (qq n0.aq ([]:List UInt8) ?_)
  refine xm 14 (pB (!(n0.aq==([]:List UInt8)))) ?_
  refine xg 15 (.d (.cF ((cNode n0).drop 2))) rfl rfl (fun hg=>aL TT.kH g3) ?_
  refine xg 16 (pS (n0.aq)) rfl rfl (fun hg=>aA (.val (sV (n0.aq))) TT.eG g3 (h:=jO _)) ?_
  refine xg 17 (pI ((n0.aq).length:Int)) rfl rfl (fun hg=>eU n0.aq TT.bh g3) ?_
  refine xg 18 (pB (decide (((n0.aq).length:Int)≤(65552:Int)))) rfl rfl (fun hg=>uI ((n0.aq).length:Int) (65552:Int) g3) ?_
  refine xS 19 (cO ?_)
  refine xm 20 (pB ((!(n0.aq==([]:List UInt8)))&&(decide (((n0.aq).length:Int)≤(65552:Int))))) ?_
  refine xg 21 (pI (x_1.length:Int)) rfl rfl (fun hg=>ax (pI (x_1.length:Int)) g3) ?_
  refine xg 22 (pB (decide ((x_1.length:Int)=(0:Int)))) rfl rfl (fun hg=>dj (x_1.length:Int) (0:Int) g3) ?_
  refine xS 23 (cO ?_)
  refine xz 2 (pB (((!(n0.aq==([]:List UInt8)))&&(decide (((n0.aq).length:Int)≤(65552:Int))))&&(decide ((x_1.length:Int)=(0:Int))))) ?_
  refine QW.ret zL (nK (dc ?_))
  obtain rfl:=sO h
  exact eO
 ·replace h:=bF h dY
  refine sR ?_
  refine xS 25 (dj (n0.aG) (2:Int) ?_)
  refine xz 24 (pB (decide ((n0.aG)=(2:Int)))) ?_
  refine cT (decide ((n0.aG)=(2:Int))) (fun fA=>?_) (fun fA=>?_)
  ·replace h:=bT h fA
   refine sR ?_
   refine xS 26 (aL TT.kH ?_)
   refine xS 27 (aA (.val (sV (n0.aq))) TT.eG ?_ (h:=jO _))
   refine xS 28 (jW n0.aq ([]:List UInt8) ?_)
   refine xm 29 (pB (n0.aq==([]:List UInt8))) ?_
   refine xg 30 (.d (.cF ((cNode n0).drop 1))) rfl rfl (fun hg=>aL TT.j5 g3) ?_
   refine xg 31 (.d (.slice ((n0.av).map aa))) rfl rfl (fun hg=>aA (.slice ((n0.av).map aa)) TT.fJ g3 (h:=ja _)) ?_
   refine xg 32 (pI ((n0.av).length:Int)) rfl rfl (fun hg=>cX aa n0.av TT.bt g3) ?_
   refine xg 33 (pB (decide ((0:Int)<((n0.av).length:Int)))) rfl rfl (fun hg=>kU ((n0.av).length:Int) (0:Int) g3) ?_
   refine xS 34 (cO ?_)
   refine xm 35 (pB ((n0.aq==([]:List UInt8))&&(decide ((0:Int)<((n0.av).length:Int))))) ?_
   refine xg 36 (pI (x_1.length:Int)) rfl rfl (fun hg=>ax (pI (x_1.length:Int)) g3) ?_
   refine xg 37 (pB (decide ((x_1.length:Int)=(1:Int)))) rfl rfl (fun hg=>dj (x_1.length:Int) (1:Int) g3) ?_
   refine xS 38 (cO ?_)
   refine xm 39 (pB (((n0.aq==([]:List UInt8))&&(decide ((0:Int)<((n0.av).length:Int))))&&(decide ((x_1.length:Int)=(1:Int))))) ?_
   refine xg 40 (.d (.cF ((cNode n0).drop 3))) rfl rfl (fun hg=>aL TT.iW g3) ?_
   refine xg 41 (.d (.cF (((cNode n0).drop 3).drop ((0:Int).toNat*1)))) rfl rfl (fun hg=>lg (0:Int) TT.mR g3) ?_
   refine xg 42 (pS (idx (n0.aC).1 (0:Int))) rfl rfl (fun hg=>aA (.val (sV (idx (n0.aC).1 (0:Int)))) TT.eG g3 (h:=by exact nq (nu _) (by decide))) ?_
   refine xg 43 (pB (!((idx (n0.aC).1 (0:Int))==([]:List UInt8)))) rfl rfl (fun hg=>qq (idx (n0.aC).1 (0:Int)) ([]:List UInt8) g3) ?_
   refine xS 44 (cO ?_)
   refine xz 2 (pB ((((n0.aq==([]:List UInt8))&&(decide ((0:Int)<((n0.av).length:Int))))&&(decide ((x_1.length:Int)=(1:Int))))&&(!((idx (n0.aC).1 (0:Int))==([]:List UInt8))))) ?_
   refine QW.ret zL (nK (dc ?_))
   obtain rfl:=sO h
   exact eO
  ·replace h:=bF h fA
   refine sR ?_
   refine xS 46 (dj (n0.aG) (3:Int) ?_)
   refine xz 45 (pB (decide ((n0.aG)=(3:Int)))) ?_
   refine cT (decide ((n0.aG)=(3:Int))) (fun mO=>?_) (fun mO=>?_)
   ·replace h:=bT h mO
    refine sR ?_
    refine xS 47 (aL TT.kH ?_)
    refine xS 48 (aA (.val (sV (n0.aq))) TT.eG ?_ (h:=jO _))
    refine xS 49 (jW n0.aq ([]:List UInt8) ?_)
    refine xm 50 (pB (n0.aq==([]:List UInt8))) ?_
    refine xg 51 (.d (.cF ((cNode n0).drop 1))) rfl rfl (fun hg=>aL TT.j5 g3) ?_
    refine xg 52 (.d (.slice ((n0.av).map aa))) rfl rfl (fun hg=>aA (.slice ((n0.av).map aa)) TT.fJ g3 (h:=ja _)) ?_
    refine xg 53 (pI ((n0.av).length:Int)) rfl rfl (fun hg=>cX aa n0.av TT.bt g3) ?_
    refine xg 54 (pB (decide (((n0.av).length:Int)=(0:Int)))) rfl rfl (fun hg=>dj ((n0.av).length:Int) (0:Int) g3) ?_
    refine xS 55 (cO ?_)
    refine xm 56 (pB ((n0.aq==([]:List UInt8))&&(decide (((n0.av).length:Int)=(0:Int))))) ?_
    refine xg 57 (pI (x_1.length:Int)) rfl rfl (fun hg=>ax (pI (x_1.length:Int)) g3) ?_
    refine xg 58 (pB (decide ((1:Int)<(x_1.length:Int)))) rfl rfl (fun hg=>kU (x_1.length:Int) (1:Int) g3) ?_
    refine xS 59 (cO ?_)
    refine xz 2 (pB (((n0.aq==([]:List UInt8))&&(decide (((n0.av).length:Int)=(0:Int))))&&(decide ((1:Int)<(x_1.length:Int))))) ?_
    refine QW.ret zL (nK (dc ?_))
    obtain rfl:=sO h
    exact eO
   ·replace h:=bF h mO
    refine QW.skip zL (iS (cn ?_))
    refine sR ?_
    refine xz 2 (pB false) ?_
    refine QW.ret zL ?_
    obtain rfl:=sO h
    exact eO
noncomputable def fc (v0:(List (List UInt8))) (f1:(List UInt8)→Option Bool):Option Bool:=
  ((h9 v0 f1).bind fun (x_1:Int)=>
  some (decide ((0:Int)≤x_1)))
theorem qe (v0:(List (List UInt8))) (f1:(List UInt8)→Option Bool) (qQ:Nat) (tT:List D) (Jc:e8 Tryz.prog qQ=true) (Jd:∀ y0 r,f1 y0=some r→cD Tryz.prog qQ ([.val (sV y0)]++tT) (.val (.bool r))) (r:Bool) (h:fc v0 f1=some r):cD Tryz.prog 75 [.slice (v0.map eS), .jT qQ tT] (.val (.bool r)):=by
 refine fQ Tryz.func75 Tryz.ntmps75 TT.Vg ?_
 unfold fc at h
 refine sR ?_
 refine xz 4 (pB false) ?_
 refine sR ?_
 refine xm 5 (.d (.slice (v0.map eS))) ?_
 refine xm 6 (.d (.jT qQ tT)) ?_
 obtain ⟨x_1,fk,h⟩:=bO h
 refine xS 7 (az (mm v0 f1 qQ tT Jc Jd _ fk) ?_)
 refine xS 8 (pO x_1 (0:Int) ?_)
 refine xz 4 (pB (decide ((0:Int)≤x_1))) ?_
 refine QW.ret zL ?_
 obtain rfl:=sO h
 exact eO
noncomputable def od (self:(List UInt8)→Option Bool) (n0:Node):Option Int:=
  ((q9 n0).bind fun (x_1:Bool)=>
  ((bif ((!x_1)==false) then qv (n0.av) else some default).bind fun (x_3:Bool)=>
  ((bif ((((!x_1)||(!x_3))||(decide ((64:Int)<((n0.av).length:Int))))==false) then fc ((n0.aC).1) (fun y0=>kI self y0) else some default).bind fun (x_5:Bool)=>
  (bif ((((!x_1)||(!x_3))||(decide ((64:Int)<((n0.av).length:Int))))||x_5) then
  some (2)
  else
  some (0)))))
theorem yY (self:(List UInt8)→Option Bool) (dZ:∀ (y0:(List UInt8)) (rr:Bool),self y0=some rr→cD Tryz.prog 72 [.val (sV y0)] (.val (.bool rr))) (n0:Node) (r:Int) (h:od self n0=some r):cD Tryz.prog 41 [.agg (cNode n0)] (.val (.int .i64 r)):=by
 refine fQ Tryz.func41 Tryz.ntmps41 TT.U9 ?_
 unfold od at h
 refine sR ?_
 refine XK.fz (some 1) rfl rfl (eE (cNode n0) rfl rfl rfl rfl bK ?_)
 refine xz 2 (pI (0)) ?_
 refine sR ?_
 refine xz 3 (.d (.jT 71 [])) ?_
 refine QW.seq ?_
 refine sR ?_
 refine xS 4 (aA (.agg (cNode n0)) TT.cq ?_ (h:=by exact ⟨by rw [ki.len];decide,congrArg D.agg (List.take_of_length_le (by rw [ki.len];decide))⟩))
 obtain ⟨x_1,fk,h⟩:=bO h
 refine xS 5 (az (Gm n0 _ fk) ?_)
 refine xS 6 (kV ?_)
 refine xm 7 (pB (!x_1)) ?_
 refine xg 8 (.d (.cF ((cNode n0).drop 1))) rfl rfl (fun hg=>aL TT.j5 g3) ?_
 refine xg 9 (.d (.slice ((n0.av).map aa))) rfl rfl (fun hg=>aA (.slice ((n0.av).map aa)) TT.fJ g3 (h:=ja _)) ?_
 obtain ⟨x_3,ri,h⟩:=bO h
 refine xg 10 (pB x_3) rfl rfl (fun hg=>az (Ba (n0.av) _ (bT ri hg)) g3) ?_
 refine xg 11 (pB (!x_3)) rfl rfl (fun hg=>kV g3) ?_
 refine xS 12 (fh ?_)
 refine xm 13 (pB ((!x_1)||(!x_3))) ?_
 refine xg 14 (.d (.cF ((cNode n0).drop 1))) rfl rfl (fun hg=>aL TT.j5 g3) ?_
 refine xg 15 (.d (.slice ((n0.av).map aa))) rfl rfl (fun hg=>aA (.slice ((n0.av).map aa)) TT.fJ g3 (h:=ja _)) ?_
 refine xg 16 (pI ((n0.av).length:Int)) rfl rfl (fun hg=>cX aa n0.av TT.bt g3) ?_
 refine xg 17 (pB (decide ((64:Int)<((n0.av).length:Int)))) rfl rfl (fun hg=>kU ((n0.av).length:Int) (64:Int) g3) ?_
 refine xS 18 (fh ?_)
 refine xm 19 (pB (((!x_1)||(!x_3))||(decide ((64:Int)<((n0.av).length:Int))))) ?_
 refine xg 20 (.d (.cF ((cNode n0).drop 3))) rfl rfl (fun hg=>aL TT.iW g3) ?_
 refine xg 21 (.full (((n0.aC).1).map eS)) rfl rfl (fun hg=>EZ n0.aC (en:=eS) TT.JY TT.mR (nu _) g3 (hf:=by exact Hx (HP _))) ?_
 refine xg 22 (.d (.jT 71 [])) rfl rfl (fun hg=>ax (.d (.jT 71 [])) g3) ?_
 obtain ⟨x_5,vH,h⟩:=bO h
 refine xg 23 (pB x_5) rfl rfl (fun hg=>az (qe ((n0.aC).1) (fun y0=>kI self y0) 71 [] TT.Ot (fun y0 _ h=>Di self dZ y0 _ h) _ (bT vH hg)) g3) ?_
 refine xT 24 (fh ?_)
 refine cT ((((!x_1)||(!x_3))||(decide ((64:Int)<((n0.av).length:Int))))||x_5) (fun wZ=>?_) (fun wZ=>?_)
 ·replace h:=bT h wZ
  refine sR ?_
  refine xz 2 (pI (2)) ?_
  refine QW.ret zL (dc ?_)
  obtain rfl:=sO h
  exact eO
 ·replace h:=bF h wZ
  refine sk ?_
  refine sR ?_
  refine xz 2 (pI (0)) ?_
  refine QW.ret zL ?_
  obtain rfl:=sO h
  exact eO
noncomputable def ny (qJ:(List UInt8)):Option Item:=
  (bif ((qJ==([]:List UInt8))||(decide ((qJ.length:Int)=(32:Int)))) then
  ((gL qJ).bind fun (x_2:Item)=>
  some x_2)
  else
  ((gV qJ).bind fun (x_4:(Item×Int))=>
  some (x_4.1)))
theorem Be (qJ:(List UInt8)) (r:Item) (h:ny qJ=some r):cD Tryz.prog 55 [.val (sV qJ)] (.agg (ct r)):=by
 refine fQ Tryz.func55 Tryz.ntmps55 TT.Vc ?_
 unfold ny at h
 refine sR ?_
 refine xT 2 (bl [pB false,pS ([]:List UInt8), .full (([]:(List Item)).map aM)] TT.jL ?_)
 refine QW.seq ?_
 refine sR ?_
 refine xm 5 (pS qJ) ?_
 refine xS 6 (jW qJ ([]:List UInt8) ?_)
 refine xm 7 (pB (qJ==([]:List UInt8))) ?_
 refine xg 8 (pS qJ) rfl rfl (fun hg=>ax (pS qJ) g3) ?_
 refine xg 9 (pI (qJ.length:Int)) rfl rfl (fun hg=>eU qJ TT.bh g3) ?_
 refine xg 10 (pB (decide ((qJ.length:Int)=(32:Int)))) rfl rfl (fun hg=>dj (qJ.length:Int) (32:Int) g3) ?_
 refine xT 11 (fh ?_)
 refine cT ((qJ==([]:List UInt8))||(decide ((qJ.length:Int)=(32:Int)))) (fun c8=>?_) (fun c8=>?_)
 ·replace h:=bT h c8
  refine sR ?_
  refine xm 12 (pS qJ) ?_
  obtain ⟨x_2,nS,h⟩:=bO h
  refine xS 13 (az (nN qJ _ nS) ?_)
  refine xN (aV [pB (x_2.bQ),pS (x_2.fS), .d (.slice ((x_2.fL).map aM))] TT.bB ?_)
  refine XK.nz ?_
  refine QW.ret zL (dc ?_)
  obtain rfl:=sO h
  exact Ends.one (.inr rfl) rfl (aN.cell rfl rfl TT.bB ⟨⟨by simp,by simp⟩,rfl⟩) rfl rfl
 ·replace h:=bF h c8
  refine sk ?_
  refine sR ?_
  refine xm 15 (pS qJ) ?_
  obtain ⟨x_4,mQ,h⟩:=bO h
  refine xS 16 (az (A9 qJ _ mQ) ?_)
  refine xm 14 (.d (.tuple [.agg (ct (x_4.1)), .val (.int .i64 (x_4.2))])) ?_
  refine xS 17 (aY ?_)
  refine xS 18 (aY ?_)
  refine xS 3 (bl [pB false,pS ([]:List UInt8), .full (([]:(List Item)).map aM)] TT.jL ?_)
  refine xN (aV [pB ((x_4.1).bQ),pS ((x_4.1).fS), .d (.slice (((x_4.1).fL).map aM))] TT.bB ?_)
  refine xz 4 (pI (x_4.2)) ?_
  refine sR ?_
  refine xA 19 (aW (.agg [pB ((x_4.1).bQ),pS ((x_4.1).fS), .d (.slice (((x_4.1).fL).map aM))]) TT.bB ⟨.d (.agg (ct (x_4.1))),(fX.cN rfl),?_⟩)
  refine xN (aV [pB ((x_4.1).bQ),pS ((x_4.1).fS), .d (.slice (((x_4.1).fL).map aM))] TT.bB ?_)
  refine XK.nz ?_
  refine QW.ret zL ?_
  obtain rfl:=sO h
  exact Ends.one (.inr rfl) rfl (aN.cell rfl rfl TT.bB ⟨⟨by simp,by simp⟩,rfl⟩) rfl rfl
inductive FY where
 | S
 | L1 (v7:(List Item)) (yZ:Int)
noncomputable def hU (self:(List UInt8)→Option Bool) (n0:Node):FY→Option (FY⊕((List UInt8)×Int))
 | .S=>
  ((od self n0).bind fun (x_1:Int)=>
  (bif (!decide (x_1=(0:Int))) then
  some (.inr (([]:List UInt8),x_1))
  else
  ((u5 (n0.av) (decide ((n0.aG)=(1:Int)))).bind fun (x_4:((List UInt8)×Int))=>
  (bif (decide ((n0.aG)=(1:Int))) then
  ((gL (x_4.1)).bind fun (x_7:Item)=>
  ((gL (n0.aq)).bind fun (x_9:Item)=>
  ((qc ([x_7,x_9]:List Item)).bind fun (x_11:Item)=>
  ((mP x_11).bind fun (x_13:((List UInt8)×Int))=>
  some (.inr (x_13.1,x_13.2))))))
  else
  (bif (decide ((n0.aG)=(2:Int))) then
  ((gL (x_4.1)).bind fun (x_16:Item)=>
  ((ny (idx (n0.aC).1 (0:Int))).bind fun (x_18:Item)=>
  ((qc ([x_16,x_18]:List Item)).bind fun (x_20:Item)=>
  ((mP x_20).bind fun (x_22:((List UInt8)×Int))=>
  some (.inr (x_22.1,x_22.2))))))
  else
  some (.inl (.L1 ([]:(List Item)) (0))))))))
 | .L1 v7 yZ=>
  (bif (decide (yZ<(16:Int))) then
  gO (0≤yZ∧yZ<((16:Nat):Int)) (
  ((ny (idx (n0.aC).1 yZ)).bind fun (y3:Item)=>
  gO ((v7.length+([y3]:List Item).length)*48≤140737488355328) (
  gO (bf (yZ+(1:Int))) (
  some (.inl (.L1 (v7++([y3]:List Item)) (yZ+(1:Int))))))))
  else
  ((gL ([]:List UInt8)).bind fun (JZ:Item)=>
  gO ((v7.length+([JZ]:List Item).length)*48≤140737488355328) (
  ((qc (v7++([JZ]:List Item))).bind fun (S1:Item)=>
  ((mP S1).bind fun (HX:((List UInt8)×Int))=>
  some (.inr (HX.1,HX.2)))))))
noncomputable def wh (self:(List UInt8)→Option Bool) (n0:Node):Option ((List UInt8)×Int):=gJ (hU self n0) .S
theorem Bf (self:(List UInt8)→Option Bool) (dZ:∀ (y0:(List UInt8)) (rr:Bool),self y0=some rr→cD Tryz.prog 72 [.val (sV y0)] (.val (.bool rr))) (n0:Node) (r:((List UInt8)×Int)) (h:wh self n0=some r):cD Tryz.prog 30 [.agg (cNode n0)] (.tuple [.val (sV (r.1)), .val (.int .i64 (r.2))]):=by
 refine fQ Tryz.func30 Tryz.ntmps30 TT.U8 ?_
 obtain ⟨_,h⟩:=cP h
 obtain ⟨dm,e9,h⟩:=aQ h;rw [hU] at h
 refine sR ?_
 refine XK.fz (some 1) rfl rfl (eE (cNode n0) rfl rfl rfl rfl bK ?_)
 refine xa 2 (pS ([]:List UInt8)) ?_
 refine xz 3 (pI (0)) ?_
 refine QW.seq ?_
 refine sR ?_
 refine xS 10 (aA (.agg (cNode n0)) TT.cq ?_ (h:=by exact ⟨by rw [ki.len];decide,congrArg D.agg (List.take_of_length_le (by rw [ki.len];decide))⟩))
 obtain ⟨x_1,fk,h⟩:=bG h
 refine xS 11 (az (yY self dZ n0 _ fk) ?_)
 refine xz 4 (pI x_1) ?_
 refine sR ?_
 refine xm 12 (pI x_1) ?_
 refine xT 13 (mI x_1 (0:Int) ?_)
 refine cT (!decide (x_1=(0:Int))) (fun dY=>?_) (fun dY=>?_)
 ·replace h:=ej h dY
  refine sR ?_
  refine xm 14 (pI x_1) ?_
  refine xa 2 (pS ([]:List UInt8)) ?_
  refine xz 3 (pI x_1) ?_
  refine QW.ret zL (dc ?_)
  obtain rfl:=sG h
  exact Ends.more (.inr rfl) rfl (ps:=[pS ([]:List UInt8),pI x_1]) (And.intro (aN.tmp rfl) (And.intro (aN.tmp rfl) trivial)) rfl rfl
 ·replace h:=ek h dY
  refine sk ?_
  refine sR ?_
  refine xS 16 (aL TT.j5 ?_)
  refine xS 17 (aA (.slice ((n0.av).map aa)) TT.fJ ?_ (h:=ja _))
  refine xS 18 (aL TT.iV ?_)
  refine xS 19 (aA (.val (.int .i64 (n0.aG))) TT.jl ?_ (h:=jN _))
  refine xS 20 (dj (n0.aG) (1:Int) ?_)
  obtain ⟨x_4,mQ,h⟩:=bG h
  refine xS 21 (az (Je (n0.av) (decide ((n0.aG)=(1:Int))) _ mQ) ?_)
  refine xm 15 (.d (.tuple [.val (sV (x_4.1)), .val (.int .i64 (x_4.2))])) ?_
  refine xS 22 (aY ?_)
  refine xS 23 (aY ?_)
  refine xa 5 (pS (x_4.1)) ?_
  refine xz 6 (pI (x_4.2)) ?_
  refine QW.seq ?_
  refine sR ?_
  refine xS 24 (aL TT.iV ?_)
  refine xT 25 (aA (.val (.int .i64 (n0.aG))) TT.jl ?_ (h:=jN _))
  refine QW.block ?_
  refine sR ?_
  refine xS 27 (dj (n0.aG) (1:Int) ?_)
  refine xz 26 (pB (decide ((n0.aG)=(1:Int)))) ?_
  refine cT (decide ((n0.aG)=(1:Int))) (fun j4=>?_) (fun j4=>?_)
  ·replace h:=ej h j4
   refine QW.seq ?_
   refine QW.region zL (PW.nj (id:=7) dG (M:=_) rfl (by kernel_rfl) ?_)
   refine qS 28 (ax (pS (x_4.1)) (q2 ?_))
   obtain ⟨x_7,oA,h⟩:=bG h
   refine qS 29 (az (nN (x_4.1) _ oA) (q2 ?_))
   refine qS 30 (aL TT.kH (q2 ?_))
   refine qS 31 (aA (.val (sV (n0.aq))) TT.eG (q2 ?_) (h:=jO _))
   obtain ⟨x_9,zI,h⟩:=bG h
   refine qS 32 (az (nN (n0.aq) _ zI) (q2 ?_))
   refine qS 33 (eA aM ([x_7,x_9]:List Item) TT.p9 (q2 ?_) (hl:=gR) (hx:=by first | rfl | (simp only [List.map_cons,List.map_nil,uo];rfl)))
   obtain ⟨x_11,ta,h⟩:=bG h
   refine qS 34 (az (yu ([x_7,x_9]:List Item) _ ta) (q2 ?_))
   obtain ⟨x_13,Dk,h⟩:=bG h
   refine qS 35 (az (we x_11 _ Dk) (q2 ?_))
   refine qS 36 (aY (q2 ?_))
   refine qS 37 (aY (q2 ?_))
   refine qS 2 (cj (pS (x_13.1)) (q2 ?_))
   refine qS 3 (cj (pI (x_13.2)) (q2 ?_))
   refine RQ.nil (cn ?_)
   refine QW.ret zL (nK (dc ?_))
   obtain rfl:=sG h
   exact Ends.more (.inr rfl) rfl (ps:=[pS (x_13.1),pI (x_13.2)]) (And.intro (aN.tmp rfl) (And.intro (aN.tmp rfl) trivial)) rfl rfl
  ·replace h:=ek h j4
   refine sR ?_
   refine xS 39 (dj (n0.aG) (2:Int) ?_)
   refine xz 38 (pB (decide ((n0.aG)=(2:Int)))) ?_
   refine cT (decide ((n0.aG)=(2:Int))) (fun r9=>?_) (fun r9=>?_)
   ·replace h:=ej h r9
    refine QW.seq ?_
    refine QW.region zL (PW.nj (id:=9) dG (M:=_) rfl (by kernel_rfl) ?_)
    refine qS 40 (ax (pS (x_4.1)) (q2 ?_))
    obtain ⟨x_16,Dl,h⟩:=bG h
    refine qS 41 (az (nN (x_4.1) _ Dl) (q2 ?_))
    refine qS 42 (aL TT.iW (q2 ?_))
    refine qS 43 (lg (0:Int) TT.mR (q2 ?_))
    refine qS 44 (aA (.val (sV (idx (n0.aC).1 (0:Int)))) TT.eG (q2 ?_) (h:=by exact nq (nu _) (by decide)))
    obtain ⟨x_18,vt,h⟩:=bG h
    refine qS 45 (az (Be (idx (n0.aC).1 (0:Int)) _ vt) (q2 ?_))
    refine qS 46 (eA aM ([x_16,x_18]:List Item) TT.p9 (q2 ?_) (hl:=gR) (hx:=by first | rfl | (simp only [List.map_cons,List.map_nil,uo];rfl)))
    obtain ⟨x_20,wV,h⟩:=bG h
    refine qS 47 (az (yu ([x_16,x_18]:List Item) _ wV) (q2 ?_))
    obtain ⟨x_22,zJ,h⟩:=bG h
    refine qS 48 (az (we x_20 _ zJ) (q2 ?_))
    refine qS 49 (aY (q2 ?_))
    refine qS 50 (aY (q2 ?_))
    refine qS 2 (cj (pS (x_22.1)) (q2 ?_))
    refine qS 3 (cj (pI (x_22.2)) (q2 ?_))
    refine RQ.nil (cn ?_)
    refine QW.ret zL (nK (dc ?_))
    obtain rfl:=sG h
    exact Ends.more (.inr rfl) rfl (ps:=[pS (x_22.1),pI (x_22.2)]) (And.intro (aN.tmp rfl) (And.intro (aN.tmp rfl) trivial)) rfl rfl
   ·replace h:=ek h r9
    refine QW.skip zL (iS (cn ?_))
    refine sR ?_
    refine xz 7 (.full (([]:(List Item)).map aM)) ?_
    refine QW.seq ?_
    refine sR ?_
    refine xS 51 (aL TT.iW ?_)
    refine xS 52 (aA (.agg ((n0.aC).1.map eS)) TT.B6 ?_ (h:=x5 _))
    refine xm 53 (pI (0)) ?_
    refine XK.nz ?_
    refine QW.block ?_
    refine lp (fun k σ=>∃ v7:(List Item),∃ yZ:Int,k≤dm∧run (hU self n0) k (.L1 v7 yZ)=some r∧σ=⟨bW [(7, .own 0 (v7.map aM)),(52, .d (.agg ((n0.aC).1.map eS))),(53,pI yZ)],aK [.spare 3 v7.length],1,[]⟩) dm ⟨([]:(List Item)),0,Nat.le_refl _,jG h,rfl⟩ (View.trans (View.buf 7 3 rfl zL) (vM 1 [0])) ?_
    rintro aaV _ ⟨v7,yZ,aaW,h,rfl⟩
    obtain ⟨Zf,e9,h⟩:=aQ h;rw [hU] at h
    refine sR ?_
    refine xT 54 (cM yZ (16:Int) ?_)
    refine QW.seq ?_
    refine cT (decide (yZ<(16:Int))) (fun Dm=>?_) (fun Dm=>?_)
    ·replace h:=ej h Dm
     refine sk ?_
     refine QW.seq ?_
     refine QW.block ?_
     refine sR ?_
     obtain ⟨Ee,h⟩:=gG h
     refine xS 55 (wA n0.aC yZ TT.mR Ee ?_)
     refine xz 9 (pS (idx (n0.aC).1 yZ)) ?_
     refine rG ?_
     refine xm 56 (.own 0 (v7.map aM)) ?_
     refine xm 57 (pS (idx (n0.aC).1 yZ)) ?_
     obtain ⟨y3,zH,h⟩:=bG h
     refine xS 58 (az (Be (idx (n0.aC).1 yZ) _ zH) ?_)
     refine xS 59 (eA aM ([y3]:List Item) TT.p9 ?_ (hl:=gR) (hx:=by first | rfl | (simp only [List.map_cons,List.map_nil,uo];rfl)))
     obtain ⟨q7,h⟩:=gG h
     refine xS 60 (kA aM v7 ([y3]:List Item) TT.p9 TT.m9 q7 ?_ (hl:=gR))
     refine xa 7 (.own 1 ((v7++([y3]:List Item)).map aM)) ?_
     refine XK.nil (iS (cn ?_))
     refine rG ?_
     obtain ⟨FW,h⟩:=gG h
     refine xS 61 (bE yZ (1:Int) FW ?_)
     refine xm 53 (pI (yZ+(1:Int))) ?_
     refine XK.nz ?_
     exact lb Zf ⟨(v7++([y3]:List Item)),(yZ+(1:Int)),by omega,jG h,rfl⟩ (vM 1 [1])
    ·replace h:=ek h Dm
     refine QW.exit zL (eP (eP (kW (cn ?_))))
     refine sR ?_
     refine xm 62 (.own 0 (v7.map aM)) ?_
     obtain ⟨JZ,XH,h⟩:=bG h
     refine xS 63 (az (nN ([]:List UInt8) _ XH) ?_)
     refine xS 64 (eA aM ([JZ]:List Item) TT.p9 ?_ (hl:=gR) (hx:=by first | rfl | (simp only [List.map_cons,List.map_nil,uo];rfl)))
     obtain ⟨ME,h⟩:=gG h
     refine xS 65 (kA aM v7 ([JZ]:List Item) TT.p9 TT.m9 ME ?_ (hl:=gR))
     obtain ⟨S1,Lh,h⟩:=bG h
     refine xS 66 (az (yu (v7++([JZ]:List Item)) _ Lh) ?_)
     obtain ⟨HX,XI,h⟩:=bG h
     refine xS 67 (az (we S1 _ XI) ?_)
     refine xS 68 (aY ?_)
     refine xS 69 (aY ?_)
     refine xa 2 (pS (HX.1)) ?_
     refine xz 3 (pI (HX.2)) ?_
     refine QW.ret zL ?_
     obtain rfl:=sG h
     exact Ends.more (.inr rfl) rfl (ps:=[pS (HX.1),pI (HX.2)]) (And.intro (aN.tmp rfl) (And.intro (aN.tmp rfl) trivial)) rfl rfl
inductive FZ where
 | S
 | L2 (j6:Int) (zK:Bool) (zM:(List UInt8)) (qw:(List Item)) (Aq:(aD 16 (List UInt8)))
 | J1 (rj:Int) (rm:(List UInt8)) (dB:(List UInt8)) (sF:(aD 16 (List UInt8)))
noncomputable def fU (self:(List UInt8)→Option Bool) (s0:(List UInt8)):FZ→Option (FZ⊕(Node×Int))
 | .S=>
  ((gV s0).bind fun (x_1:(Item×Int))=>
  (bif (!decide ((x_1.2)=(0:Int))) then
  some (.inr ((⟨0,([]:(List UInt8)),([]:List UInt8),(aD.rep 16 ([]:(List UInt8)))⟩:Node),x_1.2))
  else
  (bif (decide ((((x_1.1).fL).length:Int)=(2:Int))) then
  gO (0≤(0:Int)∧(0:Int)<(((x_1.1).fL).length:Int)) (
  gO (0≤(1:Int)∧(1:Int)<(((x_1.1).fL).length:Int)) (
  ((tj (idx ((x_1.1).fL) (0:Int)) (idx ((x_1.1).fL) (1:Int))).bind fun (x_7:Node)=>
  some (.inl (.J1 (x_7.aG) (x_7.av) (x_7.aq) (x_7.aC))))))
  else
  (bif (decide ((((x_1.1).fL).length:Int)=(17:Int))) then
  some (.inl (.L2 (0) ((x_1.1).bQ) ((x_1.1).fS) ((x_1.1).fL) (aD.rep 16 ([]:(List UInt8)))))
  else
  some (.inl (.J1 (0) ([]:(List UInt8)) ([]:List UInt8) (aD.rep 16 ([]:(List UInt8)))))))))
 | .L2 j6 zK zM qw Aq=>
  (bif (decide (j6<(16:Int))) then
  gO (0≤j6∧j6<(qw.length:Int)) (
  ((lK (idx qw j6)).bind fun (x_13:(List UInt8))=>
  gO (0≤j6∧j6<((16:Nat):Int)) (
  gO (bf (j6+(1:Int))) (
  some (.inl (.L2 (j6+(1:Int)) zK zM qw (Aq.put j6 x_13)))))))
  else
  ((wX Aq).bind fun (x_17:Node)=>
  some (.inl (.J1 (x_17.aG) (x_17.av) (x_17.aq) (x_17.aC)))))
 | .J1 rj rm dB sF=>
  ((wh self (⟨rj,rm,dB,sF⟩:Node)).bind fun (x_20:((List UInt8)×Int))=>
  (bif ((!decide ((x_20.2)=(0:Int)))||(!(x_20.1==s0))) then
  some (.inr ((⟨0,([]:(List UInt8)),([]:List UInt8),(aD.rep 16 ([]:(List UInt8)))⟩:Node),6))
  else
  some (.inr ((⟨rj,rm,dB,sF⟩:Node),0))))
noncomputable def tq (self:(List UInt8)→Option Bool) (s0:(List UInt8)):Option (Node×Int):=gJ (fU self s0) .S
theorem HY (self:(List UInt8)→Option Bool) (dZ:∀ (y0:(List UInt8)) (rr:Bool),self y0=some rr→cD Tryz.prog 72 [.val (sV y0)] (.val (.bool rr))) (s0:(List UInt8)) (r:(Node×Int)) (h:tq self s0=some r):cD Tryz.prog 94 [.val (sV s0)] (.tuple [.agg (cNode (r.1)), .val (.int .i64 (r.2))]):=by
 refine fQ Tryz.func94 Tryz.ntmps94 TT.Vk ?_
 obtain ⟨_,h⟩:=cP h
 obtain ⟨dm,e9,h⟩:=aQ h;rw [fU] at h
 refine sR ?_
 refine xS 2 (bl (([pI (0), .full (([]:(List UInt8)).map aa),pS ([]:List UInt8)])++(((aD.rep 16 ([]:(List UInt8))).1.map eS).map PV.d)) TT.kj ?_)
 refine xz 3 (pI (0)) ?_
 refine sR ?_
 refine xm 12 (pS s0) ?_
 obtain ⟨x_1,fk,h⟩:=bG h
 refine xS 13 (az (A9 s0 _ fk) ?_)
 refine xm 11 (.d (.tuple [.agg (ct (x_1.1)), .val (.int .i64 (x_1.2))])) ?_
 refine xS 14 (aY ?_)
 refine xS 15 (aY ?_)
 refine xS 4 (bl [pB false,pS ([]:List UInt8), .full (([]:(List Item)).map aM)] TT.jL ?_)
 refine xN (aV [pB ((x_1.1).bQ),pS ((x_1.1).fS), .d (.slice (((x_1.1).fL).map aM))] TT.bB ?_)
 refine xz 5 (pI (x_1.2)) ?_
 refine QW.seq ?_
 refine sR ?_
 refine xm 16 (pI (x_1.2)) ?_
 refine xT 17 (mI (x_1.2) (0:Int) ?_)
 refine cT (!decide ((x_1.2)=(0:Int))) (fun dY=>?_) (fun dY=>?_)
 ·replace h:=ej h dY
  refine sR ?_
  refine xS 18 (dX (.agg (([pI (0), .full (([]:(List UInt8)).map aa),pS ([]:List UInt8)])++(((aD.rep 16 ([]:(List UInt8))).1.map eS).map PV.d))) rfl TT.oc (cI rfl cH) ?_)
  refine xm 19 (pI (x_1.2)) ?_
  refine xN (aV (([pI (0), .full (([]:(List UInt8)).map aa),pS ([]:List UInt8)])++(((aD.rep 16 ([]:(List UInt8))).1.map eS).map PV.d)) (c:=(([pI (0), .full (([]:(List UInt8)).map aa),pS ([]:List UInt8)])++(((aD.rep 16 ([]:(List UInt8))).1.map eS).map PV.d))) TT.cq ?_ (hn:=by exact ay (A:=[pI (0), .full (([]:(List UInt8)).map aa),pS ([]:List UInt8)]) (b:=16) rfl (aj _) rfl) (hf:=by exact bz (ay (A:=[pI (0), .full (([]:(List UInt8)).map aa),pS ([]:List UInt8)]) (b:=16) rfl (aj _) rfl) bL) (hl:=by exact cE ((ay (A:=[pI (0), .full (([]:(List UInt8)).map aa),pS ([]:List UInt8)]) (b:=16) rfl (aj _) rfl).trans (ay (A:=[pI (0), .full (([]:(List UInt8)).map aa),pS ([]:List UInt8)]) (b:=16) rfl (aj _) rfl).symm)))
  refine xz 3 (pI (x_1.2)) ?_
  refine QW.ret zL (dc ?_)
  obtain rfl:=sG h
  exact Ends.more (.inr rfl) rfl (ps:=[.agg (([pI (0), .full (([]:(List UInt8)).map aa),pS ([]:List UInt8)])++(((aD.rep 16 ([]:(List UInt8))).1.map eS).map PV.d)),pI (x_1.2)]) (And.intro (aN.cell rfl rfl TT.cq (dr (ay (A:=[pI (0), .full (([]:(List UInt8)).map aa),pS ([]:List UInt8)]) (b:=16) rfl (aj _) rfl) (Nat.succ_pos _))) (And.intro (aN.tmp rfl) trivial)) (by simp only [PV.cN,PV.dW,iu,bK,Option.bind_some,Option.map_some,cNode]<;>rfl) rfl
 ·replace h:=ek h dY
  refine sk ?_
  refine sR ?_
  refine xT 6 (bl (([pI (0), .full (([]:(List UInt8)).map aa),pS ([]:List UInt8)])++(((aD.rep 16 ([]:(List UInt8))).1.map eS).map PV.d)) TT.kj ?_)
  refine QW.s6 (fun s'=>∃ rj:Int,∃ rm:(List UInt8),∃ dB:(List UInt8),∃ sF:(aD 16 (List UInt8)),∃ k:Nat,k≤dm∧run (fU self s0) k (.J1 rj rm dB sF)=some r∧s'=⟨bW [(0,pS s0),(2, .aR 0 0),(6, .aR 1 0)],aK [.var (([pI (0), .full (([]:(List UInt8)).map aa),pS ([]:List UInt8)])++(((aD.rep 16 ([]:(List UInt8))).1.map eS).map PV.d)), .var (([pI rj, .d (.slice (rm.map aa)),pS dB])++((sF.1.map eS).map PV.d))],2,[]⟩) ?_ ?_
  ·refine sR ?_
   refine xS 20 (dF TT.fY ?_)
   refine xS 21 (aW (.d (.slice (((x_1.1).fL).map aM))) TT.kY ?_)
   refine xT 22 (cX aM ((x_1.1).fL) TT.m9 ?_)
   refine QW.block ?_
   refine sR ?_
   refine xS 24 (dj (((x_1.1).fL).length:Int) (2:Int) ?_)
   refine xz 23 (pB (decide ((((x_1.1).fL).length:Int)=(2:Int)))) ?_
   refine cT (decide ((((x_1.1).fL).length:Int)=(2:Int))) (fun fA=>?_) (fun fA=>?_)
   ·replace h:=ej h fA
    refine QW.region zL (PW.qX (id:=7) dG (M:=_) rfl (by kernel_rfl) ?_)
    refine kS 25 (dF TT.fY ?_)
    refine kS 26 (aW (.d (.slice (((x_1.1).fL).map aM))) TT.kY ?_)
    obtain ⟨nM,h⟩:=gG h
    refine kS 27 (bX ((x_1.1).fL) (0:Int) TT.qa gR nM ?_)
    refine kS 28 (aA (.agg (ct (idx ((x_1.1).fL) (0:Int)))) TT.bB ?_ (h:=by exact ⟨by simp [ct],rfl⟩))
    refine kS 29 (dF TT.fY ?_)
    refine kS 30 (aW (.d (.slice (((x_1.1).fL).map aM))) TT.kY ?_)
    obtain ⟨oM,h⟩:=gG h
    refine kS 31 (bX ((x_1.1).fL) (1:Int) TT.qa gR oM ?_)
    refine kS 32 (aA (.agg (ct (idx ((x_1.1).fL) (1:Int)))) TT.bB ?_ (h:=by exact ⟨by simp [ct],rfl⟩))
    obtain ⟨x_7,oA,h⟩:=bG h
    refine kS 33 (az (HW (idx ((x_1.1).fL) (0:Int)) (idx ((x_1.1).fL) (1:Int)) _ oA) ?_)
    refine RK.st none rfl rfl (aV (([pI (x_7.aG), .d (.slice ((x_7.av).map aa)),pS (x_7.aq)])++(((x_7.aC).1.map eS).map PV.d)) (c:=(([pI (x_7.aG), .d (.slice ((x_7.av).map aa)),pS (x_7.aq)])++(((x_7.aC).1.map eS).map PV.d))) TT.cq ?_ (hc:=by exact show (cNode x_7).map PV.d=_ by simp only [cNode,List.map_append];rfl) (hn:=by exact ay (A:=[pI (x_7.aG), .d (.slice ((x_7.av).map aa)),pS (x_7.aq)]) (b:=16) rfl (aj _) rfl) (hf:=by exact bz (ay (A:=[pI (0), .full (([]:(List UInt8)).map aa),pS ([]:List UInt8)]) (b:=16) rfl (aj _) rfl) bL) (hl:=by exact cE ((ay (A:=[pI (0), .full (([]:(List UInt8)).map aa),pS ([]:List UInt8)]) (b:=16) rfl (aj _) rfl).trans (ay (A:=[pI (x_7.aG), .d (.slice ((x_7.av).map aa)),pS (x_7.aq)]) (b:=16) rfl (aj _) rfl).symm)))
    refine RK.nil ⟨fH.comp (by rfl),(iS (cn ?_))⟩
    exact ⟨⟨bW [(0,pS s0),(2, .aR 0 0),(6, .aR 1 0)],aK [.var (([pI (0), .full (([]:(List UInt8)).map aa),pS ([]:List UInt8)])++(((aD.rep 16 ([]:(List UInt8))).1.map eS).map PV.d)), .var (([pI (x_7.aG), .d (.slice ((x_7.av).map aa)),pS (x_7.aq)])++(((x_7.aC).1.map eS).map PV.d))],2,[]⟩,vM 2 [0,2],x_7.aG,x_7.av,x_7.aq,x_7.aC,dm,by omega,jG h,rfl⟩
   ·replace h:=ek h fA
    refine sR ?_
    refine xS 35 (dj (((x_1.1).fL).length:Int) (17:Int) ?_)
    refine xz 34 (pB (decide ((((x_1.1).fL).length:Int)=(17:Int)))) ?_
    refine cT (decide ((((x_1.1).fL).length:Int)=(17:Int))) (fun oe=>?_) (fun oe=>?_)
    ·replace h:=ej h oe
     refine sR ?_
     refine xT 7 (bl (((aD.rep 16 ([]:(List UInt8))).1.map eS).map .d) TT.QH ?_)
     refine QW.seq ?_
     refine sR ?_
     refine xm 36 (pI (0)) ?_
     refine XK.nz ?_
     refine QW.block ?_
     refine lp (fun k σ=>∃ j6:Int,∃ zK:Bool,∃ zM:(List UInt8),∃ qw:(List Item),∃ Aq:(aD 16 (List UInt8)),k≤dm∧run (fU self s0) k (.L2 j6 zK zM qw Aq)=some r∧σ=⟨bW [(0,pS s0),(2, .aR 0 0),(4, .aR 1 0),(6, .aR 2 0),(7, .aR 3 0),(36,pI j6)],aK [.var (([pI (0), .full (([]:(List UInt8)).map aa),pS ([]:List UInt8)])++(((aD.rep 16 ([]:(List UInt8))).1.map eS).map PV.d)), .var [pB zK,pS zM, .d (.slice (qw.map aM))], .var (([pI (0), .full (([]:(List UInt8)).map aa),pS ([]:List UInt8)])++(((aD.rep 16 ([]:(List UInt8))).1.map eS).map PV.d)), .var ((Aq.1.map eS).map .d)],4,[]⟩) dm ⟨0,(x_1.1).bQ,(x_1.1).fS,(x_1.1).fL,(aD.rep 16 ([]:(List UInt8))),Nat.le_refl _,jG h,rfl⟩ (vM 4 [0,1,2,3]) ?_
     rintro XJ _ ⟨j6,zK,zM,qw,Aq,XL,h,rfl⟩
     obtain ⟨MK,e9,h⟩:=aQ h;rw [fU] at h
     refine sR ?_
     refine xT 37 (cM j6 (16:Int) ?_)
     refine QW.seq ?_
     refine cT (decide (j6<(16:Int))) (fun kJ=>?_) (fun kJ=>?_)
     ·replace h:=ej h kJ
      refine sk ?_
      refine QW.seq ?_
      refine QW.block ?_
      refine sR ?_
      refine xm 38 (pI j6) ?_
      refine xz 8 (pI j6) ?_
      refine rG ?_
      refine xm 39 (pI j6) ?_
      refine xS 40 (dF TT.fY ?_)
      refine xS 41 (aW (.d (.slice (qw.map aM))) TT.kY ?_)
      refine xm 42 (pI j6) ?_
      obtain ⟨kP,h⟩:=gG h
      refine xS 43 (bX qw j6 TT.qa gR kP ?_)
      refine xS 44 (aA (.agg (ct (idx qw j6))) TT.bB ?_ (h:=by exact ⟨by simp [ct],rfl⟩))
      obtain ⟨x_13,Dk,h⟩:=bG h
      refine xS 45 (az (vL (idx qw j6) _ Dk) ?_)
      obtain ⟨uY,h⟩:=gG h
      refine xS 46 (cZ j6 TT.mR ?_ (h:=by exact uY))
      refine xN (aV (((Aq.put j6 x_13).1.map eS).map .d) TT.eG ?_ (hf:=by exact uV uY) (hl:=s7 uY))
      refine XK.nil (iS (cn ?_))
      refine rG ?_
      obtain ⟨q8,h⟩:=gG h
      refine xS 47 (bE j6 (1:Int) q8 ?_)
      refine xm 36 (pI (j6+(1:Int))) ?_
      refine XK.nz ?_
      exact lb MK ⟨(j6+(1:Int)),zK,zM,qw,(Aq.put j6 x_13),by omega,jG h,rfl⟩ (vM 4 [0,1,2,3])
     ·replace h:=ek h kJ
      refine QW.exit zL (eP (eP (kW (cn ?_))))
      refine rG ?_
      refine xA 48 (aW (.agg ((Aq.1.map eS).map .d)) TT.B6 ⟨.d (.agg (Aq.1.map eS)),jk,?_⟩ (h:=by exact lq (by decide)))
      obtain ⟨x_17,zN,h⟩:=bG h
      refine xS 49 (az (E7 Aq _ zN) ?_)
      refine xN (aV (([pI (x_17.aG), .d (.slice ((x_17.av).map aa)),pS (x_17.aq)])++(((x_17.aC).1.map eS).map PV.d)) (c:=(([pI (x_17.aG), .d (.slice ((x_17.av).map aa)),pS (x_17.aq)])++(((x_17.aC).1.map eS).map PV.d))) TT.cq ?_ (hc:=by exact show (cNode x_17).map PV.d=_ by simp only [cNode,List.map_append];rfl) (hn:=by exact ay (A:=[pI (x_17.aG), .d (.slice ((x_17.av).map aa)),pS (x_17.aq)]) (b:=16) rfl (aj _) rfl) (hf:=by exact bz (ay (A:=[pI (0), .full (([]:(List UInt8)).map aa),pS ([]:List UInt8)]) (b:=16) rfl (aj _) rfl) bL) (hl:=by exact cE ((ay (A:=[pI (0), .full (([]:(List UInt8)).map aa),pS ([]:List UInt8)]) (b:=16) rfl (aj _) rfl).trans (ay (A:=[pI (x_17.aG), .d (.slice ((x_17.av).map aa)),pS (x_17.aq)]) (b:=16) rfl (aj _) rfl).symm)))
      refine XK.nil (iS (cn ?_))
      exact ⟨⟨bW [(0,pS s0),(2, .aR 0 0),(6, .aR 1 0)],aK [.var (([pI (0), .full (([]:(List UInt8)).map aa),pS ([]:List UInt8)])++(((aD.rep 16 ([]:(List UInt8))).1.map eS).map PV.d)), .var (([pI (x_17.aG), .d (.slice ((x_17.av).map aa)),pS (x_17.aq)])++(((x_17.aC).1.map eS).map PV.d))],2,[]⟩,vM 2 [0,2],x_17.aG,x_17.av,x_17.aq,x_17.aC,MK,by omega,jG h,rfl⟩
    ·replace h:=ek h oe
     refine QW.skip zL (iS (cn ?_))
     exact ⟨⟨bW [(0,pS s0),(2, .aR 0 0),(6, .aR 1 0)],aK [.var (([pI (0), .full (([]:(List UInt8)).map aa),pS ([]:List UInt8)])++(((aD.rep 16 ([]:(List UInt8))).1.map eS).map PV.d)), .var (([pI (0), .d (.slice (([]:(List UInt8)).map aa)),pS ([]:List UInt8)])++(((aD.rep 16 ([]:(List UInt8))).1.map eS).map PV.d))],2,[]⟩,View.trans (View.Sk 2 1 rfl (JS rfl) rfl (JT bL rfl) zL) (vM 2 [0,2]),0,([]:(List UInt8)),([]:List UInt8),(aD.rep 16 ([]:(List UInt8))),dm,by omega,jG h,rfl⟩
  ·rintro _ ⟨rj,rm,dB,sF,aaX,aaY,h,rfl⟩
   obtain ⟨abO,e9,h⟩:=aQ h;rw [fU] at h
   refine QW.seq ?_
   refine sR ?_
   refine xA 51 (aW (.agg (([pI rj, .d (.slice (rm.map aa)),pS dB])++((sF.1.map eS).map PV.d))) TT.cq ⟨.d (.agg (cNode (⟨rj,rm,dB,sF⟩:Node))),(fX.cN (jK (ia rfl bK))),?_⟩ (h:=by exact dr (ay (A:=[pI rj, .d (.slice (rm.map aa)),pS dB]) (b:=16) rfl (aj _) rfl) (Nat.succ_pos _)))
   obtain ⟨x_20,wV,h⟩:=bG h
   refine xS 52 (az (Bf self dZ (⟨rj,rm,dB,sF⟩:Node) _ wV) ?_)
   refine xm 50 (.d (.tuple [.val (sV (x_20.1)), .val (.int .i64 (x_20.2))])) ?_
   refine xS 53 (aY ?_)
   refine xS 54 (aY ?_)
   refine xa 9 (pS (x_20.1)) ?_
   refine xz 10 (pI (x_20.2)) ?_
   refine sR ?_
   refine xm 55 (pI (x_20.2)) ?_
   refine xS 56 (mI (x_20.2) (0:Int) ?_)
   refine xm 57 (pB (!decide ((x_20.2)=(0:Int)))) ?_
   refine xg 58 (pS (x_20.1)) rfl rfl (fun hg=>ax (pS (x_20.1)) g3) ?_
   refine xg 59 (pS s0) rfl rfl (fun hg=>ax (pS s0) g3) ?_
   refine xg 60 (pB (!(x_20.1==s0))) rfl rfl (fun hg=>qq x_20.1 s0 g3) ?_
   refine xT 61 (fh ?_)
   refine cT ((!decide ((x_20.2)=(0:Int)))||(!(x_20.1==s0))) (fun Ox=>?_) (fun Ox=>?_)
   ·replace h:=ej h Ox
    refine sR ?_
    refine xS 62 (dX (.agg (([pI (0), .full (([]:(List UInt8)).map aa),pS ([]:List UInt8)])++(((aD.rep 16 ([]:(List UInt8))).1.map eS).map PV.d))) rfl TT.oc (cI rfl cH) ?_)
    refine xN (aV (([pI (0), .full (([]:(List UInt8)).map aa),pS ([]:List UInt8)])++(((aD.rep 16 ([]:(List UInt8))).1.map eS).map PV.d)) (c:=(([pI (0), .full (([]:(List UInt8)).map aa),pS ([]:List UInt8)])++(((aD.rep 16 ([]:(List UInt8))).1.map eS).map PV.d))) TT.cq ?_ (hn:=by exact ay (A:=[pI (0), .full (([]:(List UInt8)).map aa),pS ([]:List UInt8)]) (b:=16) rfl (aj _) rfl) (hf:=by exact bz (ay (A:=[pI (0), .full (([]:(List UInt8)).map aa),pS ([]:List UInt8)]) (b:=16) rfl (aj _) rfl) bL) (hl:=by exact cE ((ay (A:=[pI (0), .full (([]:(List UInt8)).map aa),pS ([]:List UInt8)]) (b:=16) rfl (aj _) rfl).trans (ay (A:=[pI (0), .full (([]:(List UInt8)).map aa),pS ([]:List UInt8)]) (b:=16) rfl (aj _) rfl).symm)))
    refine xz 3 (pI (6)) ?_
    refine QW.ret zL (dc ?_)
    obtain rfl:=sG h
    exact Ends.more (.inr rfl) rfl (ps:=[.agg (([pI (0), .full (([]:(List UInt8)).map aa),pS ([]:List UInt8)])++(((aD.rep 16 ([]:(List UInt8))).1.map eS).map PV.d)),pI (6)]) (And.intro (aN.cell rfl rfl TT.cq (dr (ay (A:=[pI (0), .full (([]:(List UInt8)).map aa),pS ([]:List UInt8)]) (b:=16) rfl (aj _) rfl) (Nat.succ_pos _))) (And.intro (aN.tmp rfl) trivial)) (by simp only [PV.cN,PV.dW,iu,bK,Option.bind_some,Option.map_some,cNode]<;>rfl) rfl
   ·replace h:=ek h Ox
    refine sk ?_
    refine sR ?_
    refine xA 63 (aW (.agg (([pI rj, .d (.slice (rm.map aa)),pS dB])++((sF.1.map eS).map PV.d))) TT.cq ⟨.d (.agg (cNode (⟨rj,rm,dB,sF⟩:Node))),(fX.cN (jK (ia rfl bK))),?_⟩ (h:=by exact dr (ay (A:=[pI rj, .d (.slice (rm.map aa)),pS dB]) (b:=16) rfl (aj _) rfl) (Nat.succ_pos _)))
    refine xN (aV (([pI rj, .d (.slice (rm.map aa)),pS dB])++((sF.1.map eS).map PV.d)) (c:=(([pI rj, .d (.slice (rm.map aa)),pS dB])++((sF.1.map eS).map PV.d))) TT.cq ?_ (hc:=by exact show (cNode (⟨rj,rm,dB,sF⟩:Node)).map PV.d=_ by simp only [cNode,List.map_append];rfl) (hn:=by exact ay (A:=[pI rj, .d (.slice (rm.map aa)),pS dB]) (b:=16) rfl (aj _) rfl) (hf:=by exact bz (ay (A:=[pI (0), .full (([]:(List UInt8)).map aa),pS ([]:List UInt8)]) (b:=16) rfl (aj _) rfl) bL) (hl:=by exact cE ((ay (A:=[pI (0), .full (([]:(List UInt8)).map aa),pS ([]:List UInt8)]) (b:=16) rfl (aj _) rfl).trans (ay (A:=[pI rj, .d (.slice (rm.map aa)),pS dB]) (b:=16) rfl (aj _) rfl).symm)))
    refine xz 3 (pI (0)) ?_
    refine QW.ret zL ?_
    obtain rfl:=sG h
    exact Ends.more (.inr rfl) rfl (ps:=[.agg (([pI rj, .d (.slice (rm.map aa)),pS dB])++((sF.1.map eS).map PV.d)),pI (0)]) (And.intro (aN.cell rfl rfl TT.cq (dr (ay (A:=[pI rj, .d (.slice (rm.map aa)),pS dB]) (b:=16) rfl (aj _) rfl) (Nat.succ_pos _))) (And.intro (aN.tmp rfl) trivial)) (by simp only [PV.cN,PV.dW,iu,bK,Option.bind_some,Option.map_some,cNode]<;>rfl) rfl
noncomputable def eZ (self:(List UInt8)→Option Bool) (s0:(List UInt8)):Option Bool:=
  (bif ((s0==([]:List UInt8))||(decide ((s0.length:Int)=(32:Int)))) then
  some true
  else
  ((tq self s0).bind fun (x_2:(Node×Int))=>
  some ((decide ((s0.length:Int)<(32:Int)))&&(decide ((x_2.2)=(0:Int))))))
theorem Bg (self:(List UInt8)→Option Bool) (dZ:∀ (y0:(List UInt8)) (rr:Bool),self y0=some rr→cD Tryz.prog 72 [.val (sV y0)] (.val (.bool rr))) (s0:(List UInt8)) (r:Bool) (h:eZ self s0=some r):cD Tryz.prog 72 [.val (sV s0)] (.val (.bool r)):=by
 refine fQ Tryz.func72 Tryz.ntmps72 TT.Ve ?_
 unfold eZ at h
 refine sR ?_
 refine xz 2 (pB false) ?_
 refine QW.seq ?_
 refine sR ?_
 refine xm 5 (pS s0) ?_
 refine xS 6 (jW s0 ([]:List UInt8) ?_)
 refine xm 7 (pB (s0==([]:List UInt8))) ?_
 refine xg 8 (pS s0) rfl rfl (fun hg=>ax (pS s0) g3) ?_
 refine xg 9 (pI (s0.length:Int)) rfl rfl (fun hg=>eU s0 TT.bh g3) ?_
 refine xg 10 (pB (decide ((s0.length:Int)=(32:Int)))) rfl rfl (fun hg=>dj (s0.length:Int) (32:Int) g3) ?_
 refine xT 11 (fh ?_)
 refine cT ((s0==([]:List UInt8))||(decide ((s0.length:Int)=(32:Int)))) (fun c8=>?_) (fun c8=>?_)
 ·replace h:=bT h c8
  refine sR ?_
  refine xz 2 (pB true) ?_
  refine QW.ret zL (dc ?_)
  obtain rfl:=sO h
  exact eO
 ·replace h:=bF h c8
  refine sk ?_
  refine sR ?_
  refine xm 13 (pS s0) ?_
  obtain ⟨x_2,nS,h⟩:=bO h
  refine xS 14 (az (HY self dZ s0 _ nS) ?_)
  refine xm 12 (.d (.tuple [.agg (cNode (x_2.1)), .val (.int .i64 (x_2.2))])) ?_
  refine xS 15 (aY ?_)
  refine xS 16 (aY ?_)
  refine xS 3 (bl (([pI (0), .full (([]:(List UInt8)).map aa),pS ([]:List UInt8)])++(((aD.rep 16 ([]:(List UInt8))).1.map eS).map PV.d)) TT.kj ?_)
  refine xN (aV (([pI ((x_2.1).aG), .d (.slice (((x_2.1).av).map aa)),pS ((x_2.1).aq)])++((((x_2.1).aC).1.map eS).map PV.d)) (c:=(([pI ((x_2.1).aG), .d (.slice (((x_2.1).av).map aa)),pS ((x_2.1).aq)])++((((x_2.1).aC).1.map eS).map PV.d))) TT.cq ?_ (hc:=by exact show (cNode (x_2.1)).map PV.d=_ by simp only [cNode,List.map_append];rfl) (hn:=by exact ay (A:=[pI ((x_2.1).aG), .d (.slice (((x_2.1).av).map aa)),pS ((x_2.1).aq)]) (b:=16) rfl (aj _) rfl) (hf:=by exact bz (ay (A:=[pI (0), .full (([]:(List UInt8)).map aa),pS ([]:List UInt8)]) (b:=16) rfl (aj _) rfl) bL) (hl:=by exact cE ((ay (A:=[pI (0), .full (([]:(List UInt8)).map aa),pS ([]:List UInt8)]) (b:=16) rfl (aj _) rfl).trans (ay (A:=[pI ((x_2.1).aG), .d (.slice (((x_2.1).av).map aa)),pS ((x_2.1).aq)]) (b:=16) rfl (aj _) rfl).symm)))
  refine xz 4 (pI (x_2.2)) ?_
  refine sR ?_
  refine xm 17 (pS s0) ?_
  refine xS 18 (eU s0 TT.bh ?_)
  refine xS 19 (cM (s0.length:Int) (32:Int) ?_)
  refine xm 20 (pB (decide ((s0.length:Int)<(32:Int)))) ?_
  refine xg 21 (pI (x_2.2)) rfl rfl (fun hg=>ax (pI (x_2.2)) g3) ?_
  refine xg 22 (pB (decide ((x_2.2)=(0:Int)))) rfl rfl (fun hg=>dj (x_2.2) (0:Int) g3) ?_
  refine xS 23 (cO ?_)
  refine xz 2 (pB ((decide ((s0.length:Int)<(32:Int)))&&(decide ((x_2.2)=(0:Int))))) ?_
  refine QW.ret zL ?_
  obtain rfl:=sO h
  exact eO
noncomputable def ee:Nat→(List UInt8)→Option Bool
 | 0=>fun _=>none
 | n+1=>fun y0=>eZ (ee n) y0
theorem u9:∀ (n:Nat) (y0:(List UInt8)) (rr:Bool),ee n y0=some rr→cD Tryz.prog 72 [.val (sV y0)] (.val (.bool rr))
 | 0,_,_,h=>by cases h
 | n+1,y0,rr,h=>Bg (ee n) (u9 n) y0 rr h
noncomputable def jd (y0:(List UInt8)):Option Bool:=vG (fun n=>ee n y0)
theorem vN (y0:(List UInt8)) (rr:Bool) (h:jd y0=some rr):cD Tryz.prog 72 [.val (sV y0)] (.val (.bool rr)):=by
 obtain ⟨n,hn⟩:=n8 h
 exact u9 n y0 rr hn
noncomputable def rq (n0:Node):Option Int:=od jd n0
theorem Gn (n0:Node) (r:Int) (h:rq n0=some r):cD Tryz.prog 41 [.agg (cNode n0)] (.val (.int .i64 r)):=yY jd vN n0 r h
noncomputable def Bh (n0:Node):Option ((List UInt8)×Int):=wh jd n0
theorem Jg (n0:Node) (r:((List UInt8)×Int)) (h:Bh n0=some r):cD Tryz.prog 30 [.agg (cNode n0)] (.tuple [.val (sV (r.1)), .val (.int .i64 (r.2))]):=Bf jd vN n0 r h
end Go.Proofs.YtlfjfoknbjcncaaGreat.K
namespace Go.Proofs.YtlfjfoknbjcncaaGreat.K
open Go Go.RowKit
set_option linter.unusedSimpArgs false
set_option linter.unusedVariables false
set_option maxRecDepth 20000
set_option maxHeartbeats 4000000
namespace TT
theorem J0:nR Tryz.prog 110=some (32,1,false):=by kernel_rfl
theorem gf:nR Tryz.prog 132=some (8,1,false):=by kernel_rfl
theorem sH:nR Tryz.prog 152=some (64,1,false):=by kernel_rfl
theorem J4:nR Tryz.prog 161=some (8,1,false):=by kernel_rfl
theorem B7:sv Tryz.prog 132=some ([Value.int IntKind.u32 0,Value.int IntKind.u32 0,Value.int IntKind.u32 0,Value.int IntKind.u32 0,Value.int IntKind.u32 0,Value.int IntKind.u32 0,Value.int IntKind.u32 0,Value.int IntKind.u32 0], .inr 1):=by kernel_rfl
theorem J5:sv Tryz.prog 152=some ([Value.int IntKind.u32 0,Value.int IntKind.u32 0,Value.int IntKind.u32 0,Value.int IntKind.u32 0,Value.int IntKind.u32 0,Value.int IntKind.u32 0,Value.int IntKind.u32 0,Value.int IntKind.u32 0,Value.int IntKind.u32 0,Value.int IntKind.u32 0,Value.int IntKind.u32 0,Value.int IntKind.u32 0,Value.int IntKind.u32 0,Value.int IntKind.u32 0,Value.int IntKind.u32 0,Value.int IntKind.u32 0,Value.int IntKind.u32 0,Value.int IntKind.u32 0,Value.int IntKind.u32 0,Value.int IntKind.u32 0,Value.int IntKind.u32 0,Value.int IntKind.u32 0,Value.int IntKind.u32 0,Value.int IntKind.u32 0,Value.int IntKind.u32 0,Value.int IntKind.u32 0,Value.int IntKind.u32 0,Value.int IntKind.u32 0,Value.int IntKind.u32 0,Value.int IntKind.u32 0,Value.int IntKind.u32 0,Value.int IntKind.u32 0,Value.int IntKind.u32 0,Value.int IntKind.u32 0,Value.int IntKind.u32 0,Value.int IntKind.u32 0,Value.int IntKind.u32 0,Value.int IntKind.u32 0,Value.int IntKind.u32 0,Value.int IntKind.u32 0,Value.int IntKind.u32 0,Value.int IntKind.u32 0,Value.int IntKind.u32 0,Value.int IntKind.u32 0,Value.int IntKind.u32 0,Value.int IntKind.u32 0,Value.int IntKind.u32 0,Value.int IntKind.u32 0,Value.int IntKind.u32 0,Value.int IntKind.u32 0,Value.int IntKind.u32 0,Value.int IntKind.u32 0,Value.int IntKind.u32 0,Value.int IntKind.u32 0,Value.int IntKind.u32 0,Value.int IntKind.u32 0,Value.int IntKind.u32 0,Value.int IntKind.u32 0,Value.int IntKind.u32 0,Value.int IntKind.u32 0,Value.int IntKind.u32 0,Value.int IntKind.u32 0,Value.int IntKind.u32 0,Value.int IntKind.u32 0], .inr 1):=by kernel_rfl
theorem S2:Tryz.f102.results.toList=[.tmp 4]:=rfl
theorem S3:Tryz.f103.results.toList=[.cell 2 152]:=rfl
theorem S4:Tryz.f104.results.toList=[.cell 0 152]:=rfl
theorem S5:Tryz.f105.results.toList=[.tmp 10]:=rfl
theorem S6:Tryz.f111.results.toList=[.tmp 2]:=rfl
theorem S7:Tryz.f112.results.toList=[.tmp 3]:=rfl
theorem S8:Tryz.f113.results.toList=[.tmp 4]:=rfl
theorem Vn:Tryz.f35.results.toList=[.tmp 2]:=rfl
theorem Vo:Tryz.f63.results.toList=[.tmp 2]:=rfl
theorem Vp:Tryz.f64.results.toList=[.cell 2 110]:=rfl
theorem Vq:Tryz.f87.results.toList=[.cell 0 132]:=rfl
theorem Vr:Tryz.f88.results.toList=[.tmp 2]:=rfl
theorem Vt:Tryz.f89.results.toList=[.cell 4 132]:=rfl
theorem HZ:jU Tryz.prog 110=some (true,32):=by kernel_rfl
theorem eX:jU Tryz.prog 131=some (false,1):=by kernel_rfl
theorem qf:jU Tryz.prog 132=some (true,8):=by kernel_rfl
theorem w4:jU Tryz.prog 152=some (true,64):=by kernel_rfl
theorem Oy:Program.underlying Tryz.prog 110=some (.array 32 5):=by kernel_rfl
theorem uv:Program.underlying Tryz.prog 112=some (.int .u64):=by kernel_rfl
theorem w5:Program.underlying Tryz.prog 131=some (.int .u32):=by kernel_rfl
theorem QI:Program.underlying Tryz.prog 97=some (.int .u64):=by kernel_rfl
theorem H6:m7 Tryz.prog 110=some [Value.int IntKind.u8 0,Value.int IntKind.u8 0,Value.int IntKind.u8 0,Value.int IntKind.u8 0,Value.int IntKind.u8 0,Value.int IntKind.u8 0,Value.int IntKind.u8 0,Value.int IntKind.u8 0,Value.int IntKind.u8 0,Value.int IntKind.u8 0,Value.int IntKind.u8 0,Value.int IntKind.u8 0,Value.int IntKind.u8 0,Value.int IntKind.u8 0,Value.int IntKind.u8 0,Value.int IntKind.u8 0,Value.int IntKind.u8 0,Value.int IntKind.u8 0,Value.int IntKind.u8 0,Value.int IntKind.u8 0,Value.int IntKind.u8 0,Value.int IntKind.u8 0,Value.int IntKind.u8 0,Value.int IntKind.u8 0,Value.int IntKind.u8 0,Value.int IntKind.u8 0,Value.int IntKind.u8 0,Value.int IntKind.u8 0,Value.int IntKind.u8 0,Value.int IntKind.u8 0,Value.int IntKind.u8 0,Value.int IntKind.u8 0]:=by kernel_rfl
theorem zO:m7 Tryz.prog 132=some [Value.int IntKind.u32 0,Value.int IntKind.u32 0,Value.int IntKind.u32 0,Value.int IntKind.u32 0,Value.int IntKind.u32 0,Value.int IntKind.u32 0,Value.int IntKind.u32 0,Value.int IntKind.u32 0]:=by kernel_rfl
theorem w6:m7 Tryz.prog 152=some [Value.int IntKind.u32 0,Value.int IntKind.u32 0,Value.int IntKind.u32 0,Value.int IntKind.u32 0,Value.int IntKind.u32 0,Value.int IntKind.u32 0,Value.int IntKind.u32 0,Value.int IntKind.u32 0,Value.int IntKind.u32 0,Value.int IntKind.u32 0,Value.int IntKind.u32 0,Value.int IntKind.u32 0,Value.int IntKind.u32 0,Value.int IntKind.u32 0,Value.int IntKind.u32 0,Value.int IntKind.u32 0,Value.int IntKind.u32 0,Value.int IntKind.u32 0,Value.int IntKind.u32 0,Value.int IntKind.u32 0,Value.int IntKind.u32 0,Value.int IntKind.u32 0,Value.int IntKind.u32 0,Value.int IntKind.u32 0,Value.int IntKind.u32 0,Value.int IntKind.u32 0,Value.int IntKind.u32 0,Value.int IntKind.u32 0,Value.int IntKind.u32 0,Value.int IntKind.u32 0,Value.int IntKind.u32 0,Value.int IntKind.u32 0,Value.int IntKind.u32 0,Value.int IntKind.u32 0,Value.int IntKind.u32 0,Value.int IntKind.u32 0,Value.int IntKind.u32 0,Value.int IntKind.u32 0,Value.int IntKind.u32 0,Value.int IntKind.u32 0,Value.int IntKind.u32 0,Value.int IntKind.u32 0,Value.int IntKind.u32 0,Value.int IntKind.u32 0,Value.int IntKind.u32 0,Value.int IntKind.u32 0,Value.int IntKind.u32 0,Value.int IntKind.u32 0,Value.int IntKind.u32 0,Value.int IntKind.u32 0,Value.int IntKind.u32 0,Value.int IntKind.u32 0,Value.int IntKind.u32 0,Value.int IntKind.u32 0,Value.int IntKind.u32 0,Value.int IntKind.u32 0,Value.int IntKind.u32 0,Value.int IntKind.u32 0,Value.int IntKind.u32 0,Value.int IntKind.u32 0,Value.int IntKind.u32 0,Value.int IntKind.u32 0,Value.int IntKind.u32 0,Value.int IntKind.u32 0]:=by kernel_rfl
theorem Oz:m7 Tryz.prog 161=some [Value.int IntKind.u8 0,Value.int IntKind.u8 0,Value.int IntKind.u8 0,Value.int IntKind.u8 0,Value.int IntKind.u8 0,Value.int IntKind.u8 0,Value.int IntKind.u8 0,Value.int IntKind.u8 0]:=by kernel_rfl
end TT
noncomputable def zP:Option (aD 8 (BitVec 32)):=
  some (⟨[(1779033703:BitVec 32),(3144134277:BitVec 32),(1013904242:BitVec 32),(2773480762:BitVec 32),(1359893119:BitVec 32),(2600822924:BitVec 32),(528734635:BitVec 32),(1541459225:BitVec 32)],rfl⟩:(aD 8 (BitVec 32)))
theorem H7 (r:(aD 8 (BitVec 32))) (h:zP=some r):cD Tryz.prog 87 [] (.agg (r.1.map ic)):=by
 refine fQ Tryz.func87 Tryz.ntmps87 TT.Vq ?_
 unfold zP at h
 refine sR ?_
 refine xT 0 (bl (((aD.rep 8 (0:BitVec 32)).1.map ic).map .d) TT.zO ?_)
 refine sR ?_
 refine xA 1 (wz (.agg [.d (.val (.int .u32 ((1779033703:BitVec 32).toNat:Int))), .d (.val (.int .u32 ((3144134277:BitVec 32).toNat:Int))), .d (.val (.int .u32 ((1013904242:BitVec 32).toNat:Int))), .d (.val (.int .u32 ((2773480762:BitVec 32).toNat:Int))), .d (.val (.int .u32 ((1359893119:BitVec 32).toNat:Int))), .d (.val (.int .u32 ((2600822924:BitVec 32).toNat:Int))), .d (.val (.int .u32 ((528734635:BitVec 32).toNat:Int))), .d (.val (.int .u32 ((1541459225:BitVec 32).toNat:Int)))]) rfl (by rw [TT.B7];simp [lX,lW,placeOf,pN,aH,PV.ir,PV.iF,Value.oneCell',m4,oF,qP,List.all,p4,bW,AS,ym,fE,Gh]) (by rw [TT.B7];rfl) ⟨.d (.agg ((⟨[(1779033703:BitVec 32),(3144134277:BitVec 32),(1013904242:BitVec 32),(2773480762:BitVec 32),(1359893119:BitVec 32),(2600822924:BitVec 32),(528734635:BitVec 32),(1541459225:BitVec 32)],rfl⟩:(aD 8 (BitVec 32))).1.map ic)),(fX.cN rfl),?_⟩)
 refine xN (aV (((⟨[(1779033703:BitVec 32),(3144134277:BitVec 32),(1013904242:BitVec 32),(2773480762:BitVec 32),(1359893119:BitVec 32),(2600822924:BitVec 32),(528734635:BitVec 32),(1541459225:BitVec 32)],rfl⟩:(aD 8 (BitVec 32))).1.map ic).map .d) TT.qf ?_ (hn:=by exact aj _) (hf:=by exact oZ _) (hl:=by exact cE ((aj _).trans (aj _).symm)))
 refine XK.nz ?_
 refine QW.ret zL ?_
 obtain rfl:=sO h
 exact Ends.one (.inr rfl) rfl (aN.cell rfl rfl TT.qf (lq (by decide))) (jK bK) rfl
inductive F1 where
 | S
 | L1 (j3:(BitVec 64)) (lA:Int) (v5:(aD 8 UInt8))
noncomputable def lB (n0:(BitVec 64)) (j7:Int):F1→Option (F1⊕(List UInt8))
 | .S=>
  some (.inl (.L1 n0 (0) (aD.rep 8 (0:UInt8))))
 | .L1 j3 lA v5=>
  (bif (decide (lA<(gl (jj j7 (0:Int)) (8:Int)))) then
  gO (0≤lA∧lA<((8:Nat):Int)) (
  gO (bf (lA+(1:Int))) (
  some (.inl (.L1 (qY j3 (8:Int)) (lA+(1:Int)) (v5.put lA (g7 (j3.toNat:Int)))))))
  else
  gO (0≤(0:Int)∧(0:Int)≤(gl (jj j7 (0:Int)) (8:Int))∧(gl (jj j7 (0:Int)) (8:Int))≤((8:Nat):Int)) (
  some (.inr (sub v5.1 0 (gl (jj j7 (0:Int)) (8:Int))))))
noncomputable def x7 (n0:(BitVec 64)) (j7:Int):Option (List UInt8):=gJ (lB n0 j7) .S
theorem Jh (n0:(BitVec 64)) (j7:Int) (r:(List UInt8)) (h:x7 n0 j7=some r):cD Tryz.prog 102 [.val (.int .u64 (n0.toNat:Int)), .val (.int .i64 j7)] (.val (sV r)):=by
 refine fQ Tryz.func102 Tryz.ntmps102 TT.S2 ?_
 obtain ⟨_,h⟩:=cP h
 obtain ⟨dm,e9,h⟩:=aQ h;rw [lB] at h
 refine sR ?_
 refine xz 4 (pS ([]:List UInt8)) ?_
 refine sR ?_
 refine xT 5 (bl (((aD.rep 8 (0:UInt8)).1.map aa).map .d) TT.Oz ?_)
 refine sR ?_
 refine xm 8 (pI j7) ?_
 refine xS 9 (Pu j7 (0:Int) ?_)
 refine xS 10 (GC (jj j7 (0:Int)) (8:Int) ?_)
 refine xz 6 (pI (gl (jj j7 (0:Int)) (8:Int))) ?_
 refine QW.seq ?_
 refine sR ?_
 refine xm 11 (pI (gl (jj j7 (0:Int)) (8:Int))) ?_
 refine xm 12 (pI (0)) ?_
 refine XK.nz ?_
 refine QW.block ?_
 refine lp (fun k σ=>∃ j3:(BitVec 64),∃ lA:Int,∃ v5:(aD 8 UInt8),k≤dm∧run (lB n0 j7) k (.L1 j3 lA v5)=some r∧σ=⟨bW [(0, .d (.val (.int .u64 (j3.toNat:Int)))),(5, .aR 0 0),(6,pI (gl (jj j7 (0:Int)) (8:Int))),(11,pI (gl (jj j7 (0:Int)) (8:Int))),(12,pI lA)],aK [.var ((v5.1.map aa).map .d)],1,[]⟩) dm ⟨n0,0,(aD.rep 8 (0:UInt8)),Nat.le_refl _,jG h,rfl⟩ (vM 1 [0]) ?_
 rintro wP _ ⟨j3,lA,v5,wQ,h,rfl⟩
 obtain ⟨k_1,e9,h⟩:=aQ h;rw [lB] at h
 refine sR ?_
 refine xT 13 (cM lA (gl (jj j7 (0:Int)) (8:Int)) ?_)
 refine QW.seq ?_
 refine cT (decide (lA<(gl (jj j7 (0:Int)) (8:Int)))) (fun cQ=>?_) (fun cQ=>?_)
 ·replace h:=ej h cQ
  refine sk ?_
  refine QW.seq ?_
  refine QW.block ?_
  refine sR ?_
  refine xm 14 (pI lA) ?_
  refine xz 7 (pI lA) ?_
  refine sR ?_
  refine xm 15 (pI lA) ?_
  refine xm 16 (.d (.val (.int .u64 (j3.toNat:Int)))) ?_
  refine xS 17 (oY (j3.toNat:Int) TT.uv TT.dw ?_)
  obtain ⟨eD,h⟩:=gG h
  refine xS 18 (cZ lA TT.J4 ?_ (h:=by exact eD))
  refine xN (aV (((v5.put lA (g7 (j3.toNat:Int))).1.map aa).map .d) TT.l6 ?_ (hf:=by exact uV eD) (hl:=s7 eD))
  refine XK.nz ?_
  refine rG ?_
  refine xm 19 (.d (.val (.int .u64 (j3.toNat:Int)))) ?_
  refine xS 20 (B3 j3 (8:Int) ?_ (h:=by decide))
  refine xa 0 (.d (.val (.int .u64 ((qY j3 (8:Int)).toNat:Int)))) ?_
  refine XK.nil (iS (cn ?_))
  refine rG ?_
  obtain ⟨rW,h⟩:=gG h
  refine xS 21 (bE lA (1:Int) rW ?_)
  refine xm 12 (pI (lA+(1:Int))) ?_
  refine XK.nz ?_
  exact lb k_1 ⟨(qY j3 (8:Int)),(lA+(1:Int)),(v5.put lA (g7 (j3.toNat:Int))),by omega,jG h,rfl⟩ (vM 1 [0])
 ·replace h:=ek h cQ
  refine QW.exit zL (eP (eP (kW (cn ?_))))
  refine sR ?_
  refine xm 22 (pI (gl (jj j7 (0:Int)) (8:Int))) ?_
  obtain ⟨nM,h⟩:=gG h
  refine XK.so (some 23) rfl rfl (UJ (0:Int) (gl (jj j7 (0:Int)) (8:Int)) TT.J4 nM ?_)
  refine XK.so (some 24) rfl rfl (UK (sub v5.1 0 (gl (jj j7 (0:Int)) (8:Int))) TT.bt TT.dw TT.bh (Sp (a:=v5) nM) (Qv (a:=v5) nM) ?_)
  refine xz 4 (pS (sub v5.1 0 (gl (jj j7 (0:Int)) (8:Int)))) ?_
  refine QW.ret zL ?_
  obtain rfl:=sG h
  exact eO
inductive CM where
 | S
 | L1 (v3:(List UInt8))
 | L2 (fq:(List UInt8)) (dR:(List UInt8)) (v5:Int)
noncomputable def fm (s0:(List UInt8)):CM→Option (CM⊕(List UInt8))
 | .S=>
  gO (s0.length≤9223372036854775807) (
  gO ((s0.length+([(128:UInt8)]:List UInt8).length)*1≤140737488355328) (
  some (.inl (.L1 (s0++([(128:UInt8)]:List UInt8))))))
 | .L1 v3=>
  (bif (!decide (((v3.length:Int).tmod (64:Int))=(56:Int))) then
  gO ((v3.length+([(0:UInt8)]:List UInt8).length)*1≤140737488355328) (
  some (.inl (.L1 (v3++([(0:UInt8)]:List UInt8)))))
  else
  ((x7 ((BitVec.ofInt 64 (s0.length:Int))*(8:BitVec 64)) (8)).bind fun (x_6:(List UInt8))=>
  some (.inl (.L2 v3 x_6 (7)))))
 | .L2 fq dR v5=>
  (bif (decide ((0:Int)≤v5)) then
  gO (0≤v5∧v5<(dR.length:Int)) (
  gO ((fq.length+([(idx dR v5)]:List UInt8).length)*1≤140737488355328) (
  gO (bf (v5-(1:Int))) (
  some (.inl (.L2 (fq++([(idx dR v5)]:List UInt8)) dR (v5-(1:Int)))))))
  else
  some (.inr fq))
noncomputable def yw (s0:(List UInt8)):Option (List UInt8):=gJ (fm s0) .S
theorem Gp (s0:(List UInt8)) (r:(List UInt8)) (h:yw s0=some r):cD Tryz.prog 88 [.val (sV s0)] (.val (sV r)):=by
 refine fQ Tryz.func88 Tryz.ntmps88 TT.Vr ?_
 obtain ⟨_,h⟩:=cP h
 obtain ⟨dm,e9,h⟩:=aQ h;rw [fm] at h
 refine sR ?_
 refine xz 2 (pS ([]:List UInt8)) ?_
 refine sR ?_
 refine xm 6 (pS s0) ?_
 obtain ⟨oK,h⟩:=gG h
 refine XK.s2r (l:=s0) (some 7) rfl rfl rfl TT.bh TT.bt TT.dw rfl oK ?_
 refine xS 8 (eA aa ([(128:UInt8)]:List UInt8) TT.eV ?_)
 obtain ⟨yp,h⟩:=gG h
 refine xS 9 (kA aa s0 ([(128:UInt8)]:List UInt8) TT.eV TT.bt yp ?_)
 refine xz 3 (.own 1 ((s0++([(128:UInt8)]:List UInt8)).map aa)) ?_
 refine QW.seq ?_
 refine QW.block ?_
 refine lp (fun k σ=>∃ v3:(List UInt8),k≤dm∧run (fm s0) k (.L1 v3)=some r∧σ=⟨bW [(0,pS s0),(3, .own 0 (v3.map aa))],aK [.spare 1 v3.length],1,[]⟩) dm ⟨(s0++([(128:UInt8)]:List UInt8)),Nat.le_refl _,jG h,rfl⟩ (vM 1 [1]) ?_
 rintro Zg _ ⟨v3,Zh,h,rfl⟩
 obtain ⟨OA,e9,h⟩:=aQ h;rw [fm] at h
 refine QW.seq ?_
 refine sR ?_
 refine xm 10 (.own 0 (v3.map aa)) ?_
 refine xS 11 (cX aa v3 TT.bt ?_)
 refine xS 12 (uH (v3.length:Int) (64:Int) ?_)
 refine xT 13 (mI ((v3.length:Int).tmod (64:Int)) (56:Int) ?_)
 refine cT (!decide (((v3.length:Int).tmod (64:Int))=(56:Int))) (fun fA=>?_) (fun fA=>?_)
 ·replace h:=ej h fA
  refine sk ?_
  refine QW.block ?_
  refine rG ?_
  refine xm 14 (.own 0 (v3.map aa)) ?_
  refine xS 15 (eA aa ([(0:UInt8)]:List UInt8) TT.eV ?_)
  obtain ⟨nM,h⟩:=gG h
  refine xS 16 (kA aa v3 ([(0:UInt8)]:List UInt8) TT.eV TT.bt nM ?_)
  refine xa 3 (.own 1 ((v3++([(0:UInt8)]:List UInt8)).map aa)) ?_
  refine XK.nil (iS (cn ?_))
  exact lb OA ⟨(v3++([(0:UInt8)]:List UInt8)),by omega,jG h,rfl⟩ (vM 1 [1])
 ·replace h:=ek h fA
  refine QW.exit zL (eP (eP (kW (cn ?_))))
  refine sR ?_
  refine xm 17 (pS s0) ?_
  refine xS 18 (eU s0 TT.bh ?_)
  refine xS 19 (xX (s0.length:Int) TT.kD TT.uv ?_)
  refine xS 20 (E3 (BitVec.ofInt 64 (s0.length:Int)) (8:BitVec 64) ?_)
  obtain ⟨x_6,u6,h⟩:=bG h
  refine xS 21 (az (Jh ((BitVec.ofInt 64 (s0.length:Int))*(8:BitVec 64)) (8) _ u6) ?_)
  refine xz 4 (pS x_6) ?_
  refine QW.seq ?_
  refine sR ?_
  refine xz 5 (pI (7)) ?_
  refine QW.block ?_
  refine lp (fun k σ=>∃ fq:(List UInt8),∃ dR:(List UInt8),∃ v5:Int,k≤OA∧run (fm s0) k (.L2 fq dR v5)=some r∧σ=⟨bW [(3, .own 0 (fq.map aa)),(4,pS dR),(5,pI v5)],aK [.spare 1 fq.length],1,[]⟩) OA ⟨v3,x_6,7,Nat.le_refl _,jG h,rfl⟩ (vM 1 [0]) ?_
  rintro Zi _ ⟨fq,dR,v5,Zj,h,rfl⟩
  obtain ⟨Vu,e9,h⟩:=aQ h;rw [fm] at h
  refine QW.seq ?_
  refine sR ?_
  refine xm 22 (pI v5) ?_
  refine xT 23 (pO v5 (0:Int) ?_)
  refine cT (decide ((0:Int)≤v5)) (fun oe=>?_) (fun oe=>?_)
  ·replace h:=ej h oe
   refine sk ?_
   refine QW.seq ?_
   refine QW.block ?_
   refine rG ?_
   refine xm 26 (.own 0 (fq.map aa)) ?_
   refine xm 27 (pS dR) ?_
   refine xm 28 (pI v5) ?_
   obtain ⟨nT,h⟩:=gG h
   refine xS 29 (g8 dR v5 TT.bh nT ?_)
   refine xS 30 (eA aa ([(idx dR v5)]:List UInt8) TT.eV ?_)
   obtain ⟨td,h⟩:=gG h
   refine xS 31 (kA aa fq ([(idx dR v5)]:List UInt8) TT.eV TT.bt td ?_)
   refine xa 3 (.own 1 ((fq++([(idx dR v5)]:List UInt8)).map aa)) ?_
   refine XK.nil (iS (cn ?_))
   refine rG ?_
   refine xm 24 (pI v5) ?_
   obtain ⟨kP,h⟩:=gG h
   refine xS 25 (mZ v5 (1:Int) kP ?_)
   refine xz 5 (pI (v5-(1:Int))) ?_
   exact lb Vu ⟨(fq++([(idx dR v5)]:List UInt8)),dR,(v5-(1:Int)),by omega,jG h,rfl⟩ (vM 1 [1])
  ·replace h:=ek h oe
   refine QW.exit zL (eP (eP (kW (cn ?_))))
   refine sR ?_
   refine xm 32 (.own 0 (fq.map aa)) ?_
   refine xS 33 (nk fq TT.bt TT.dw TT.bh ?_)
   refine xz 2 (pS fq) ?_
   refine QW.ret zL ?_
   obtain rfl:=sG h
   exact eO
noncomputable def va (s0:(List UInt8)):Option (BitVec 32):=
  gO (0≤(0:Int)∧(0:Int)<(s0.length:Int)) (
  gO (0≤(1:Int)∧(1:Int)<(s0.length:Int)) (
  gO (0≤(2:Int)∧(2:Int)<(s0.length:Int)) (
  gO (0≤(3:Int)∧(3:Int)<(s0.length:Int)) (
  some ((((sx (BitVec.ofInt 32 ((idx s0 (0:Int)).toNat:Int)) (24:Int))||| (sx (BitVec.ofInt 32 ((idx s0 (1:Int)).toNat:Int)) (16:Int)))||| (sx (BitVec.ofInt 32 ((idx s0 (2:Int)).toNat:Int)) (8:Int)))||| (BitVec.ofInt 32 ((idx s0 (3:Int)).toNat:Int)))))))
theorem Ji (s0:(List UInt8)) (r:(BitVec 32)) (h:va s0=some r):cD Tryz.prog 111 [.val (sV s0)] (.val (.int .u32 (r.toNat:Int))):=by
 refine fQ Tryz.func111 Tryz.ntmps111 TT.S6 ?_
 unfold va at h
 refine sR ?_
 refine xz 2 (.d (.val (.int .u32 ((0:BitVec 32).toNat:Int)))) ?_
 refine QW.seq ?_
 refine QW.region zL (PW.nj (id:=1) dG (M:=_) rfl (by kernel_rfl) ?_)
 refine qS 3 (ax (pS s0) (q2 ?_))
 obtain ⟨oK,h⟩:=bq h
 refine qS 4 (g8 s0 (0:Int) TT.bh oK (q2 ?_))
 refine qS 5 (xX ((idx s0 (0:Int)).toNat:Int) TT.dw TT.w5 (q2 ?_))
 refine qS 6 (B2 (BitVec.ofInt 32 ((idx s0 (0:Int)).toNat:Int)) (24:Int) (q2 ?_))
 refine qS 7 (ax (pS s0) (q2 ?_))
 obtain ⟨yp,h⟩:=bq h
 refine qS 8 (g8 s0 (1:Int) TT.bh yp (q2 ?_))
 refine qS 9 (xX ((idx s0 (1:Int)).toNat:Int) TT.dw TT.w5 (q2 ?_))
 refine qS 10 (B2 (BitVec.ofInt 32 ((idx s0 (1:Int)).toNat:Int)) (16:Int) (q2 ?_))
 refine qS 11 (wN (sx (BitVec.ofInt 32 ((idx s0 (0:Int)).toNat:Int)) (24:Int)) (sx (BitVec.ofInt 32 ((idx s0 (1:Int)).toNat:Int)) (16:Int)) (q2 ?_))
 refine qS 12 (ax (pS s0) (q2 ?_))
 obtain ⟨eD,h⟩:=bq h
 refine qS 13 (g8 s0 (2:Int) TT.bh eD (q2 ?_))
 refine qS 14 (xX ((idx s0 (2:Int)).toNat:Int) TT.dw TT.w5 (q2 ?_))
 refine qS 15 (B2 (BitVec.ofInt 32 ((idx s0 (2:Int)).toNat:Int)) (8:Int) (q2 ?_))
 refine qS 16 (wN ((sx (BitVec.ofInt 32 ((idx s0 (0:Int)).toNat:Int)) (24:Int))||| (sx (BitVec.ofInt 32 ((idx s0 (1:Int)).toNat:Int)) (16:Int))) (sx (BitVec.ofInt 32 ((idx s0 (2:Int)).toNat:Int)) (8:Int)) (q2 ?_))
 refine qS 17 (ax (pS s0) (q2 ?_))
 obtain ⟨rW,h⟩:=bq h
 refine qS 18 (g8 s0 (3:Int) TT.bh rW (q2 ?_))
 refine qS 19 (xX ((idx s0 (3:Int)).toNat:Int) TT.dw TT.w5 (q2 ?_))
 refine qS 20 (wN (((sx (BitVec.ofInt 32 ((idx s0 (0:Int)).toNat:Int)) (24:Int))||| (sx (BitVec.ofInt 32 ((idx s0 (1:Int)).toNat:Int)) (16:Int)))||| (sx (BitVec.ofInt 32 ((idx s0 (2:Int)).toNat:Int)) (8:Int))) (BitVec.ofInt 32 ((idx s0 (3:Int)).toNat:Int)) (q2 ?_))
 refine qS 2 (cj (.d (.val (.int .u32 (((((sx (BitVec.ofInt 32 ((idx s0 (0:Int)).toNat:Int)) (24:Int))||| (sx (BitVec.ofInt 32 ((idx s0 (1:Int)).toNat:Int)) (16:Int)))||| (sx (BitVec.ofInt 32 ((idx s0 (2:Int)).toNat:Int)) (8:Int)))||| (BitVec.ofInt 32 ((idx s0 (3:Int)).toNat:Int))).toNat:Int)))) (q2 ?_))
 refine RQ.nil (cn ?_)
 refine QW.ret zL ?_
 obtain rfl:=sO h
 exact eO
noncomputable def iT (x0:(BitVec 32)) (k1:Int):Option (BitVec 32):=
  gO (0≤(((BitVec.ofInt 64 k1)&&& (31:BitVec 64)).toNat:Int)) (
  gO (0≤(((32:BitVec 64)-((BitVec.ofInt 64 k1)&&& (31:BitVec 64))).toNat:Int)) (
  some ((sx x0 (((BitVec.ofInt 64 k1)&&& (31:BitVec 64)).toNat:Int))||| (qY x0 (((32:BitVec 64)-((BitVec.ofInt 64 k1)&&& (31:BitVec 64))).toNat:Int)))))
theorem wj (x0:(BitVec 32)) (k1:Int) (r:(BitVec 32)) (h:iT x0 k1=some r):cD Tryz.prog 113 [.val (.int .u32 (x0.toNat:Int)), .val (.int .i64 k1)] (.val (.int .u32 (r.toNat:Int))):=by
 refine fQ Tryz.func113 Tryz.ntmps113 TT.S8 ?_
 unfold iT at h
 refine sR ?_
 refine xz 4 (.d (.val (.int .u32 ((0:BitVec 32).toNat:Int)))) ?_
 refine sR ?_
 refine xm 6 (pI k1) ?_
 refine xS 7 (xX k1 TT.kD TT.QI ?_)
 refine xS 8 (n9 (BitVec.ofInt 64 k1) (31:BitVec 64) ?_)
 refine xz 5 (.d (.val (.int .u64 (((BitVec.ofInt 64 k1)&&& (31:BitVec 64)).toNat:Int)))) ?_
 refine sR ?_
 refine xm 9 (.d (.val (.int .u32 (x0.toNat:Int)))) ?_
 refine xm 10 (.d (.val (.int .u64 (((BitVec.ofInt 64 k1)&&& (31:BitVec 64)).toNat:Int)))) ?_
 obtain ⟨oK,h⟩:=bq h
 refine xS 11 (B2 x0 (((BitVec.ofInt 64 k1)&&& (31:BitVec 64)).toNat:Int) ?_ (h:=oK))
 refine xm 12 (.d (.val (.int .u32 (x0.toNat:Int)))) ?_
 refine xm 13 (.d (.val (.int .u64 (((BitVec.ofInt 64 k1)&&& (31:BitVec 64)).toNat:Int)))) ?_
 refine xS 14 (JU (32:BitVec 64) ((BitVec.ofInt 64 k1)&&& (31:BitVec 64)) ?_)
 obtain ⟨yp,h⟩:=bq h
 refine xS 15 (B3 x0 (((32:BitVec 64)-((BitVec.ofInt 64 k1)&&& (31:BitVec 64))).toNat:Int) ?_ (h:=by exact yp))
 refine xS 16 (wN (sx x0 (((BitVec.ofInt 64 k1)&&& (31:BitVec 64)).toNat:Int)) (qY x0 (((32:BitVec 64)-((BitVec.ofInt 64 k1)&&& (31:BitVec 64))).toNat:Int)) ?_)
 refine xz 4 (.d (.val (.int .u32 (((sx x0 (((BitVec.ofInt 64 k1)&&& (31:BitVec 64)).toNat:Int))||| (qY x0 (((32:BitVec 64)-((BitVec.ofInt 64 k1)&&& (31:BitVec 64))).toNat:Int))).toNat:Int)))) ?_
 refine QW.ret zL ?_
 obtain rfl:=sO h
 exact eO
noncomputable def l7 (n0:Int) (v1:(BitVec 32)):Option (BitVec 32):=
  gO (bf (0-n0)) (
  ((iT v1 (0-n0)).bind fun (x_2:(BitVec 32))=>
  some x_2))
theorem qh (n0:Int) (v1:(BitVec 32)) (r:(BitVec 32)) (h:l7 n0 v1=some r):cD Tryz.prog 112 [.val (.int .i64 n0), .cF ([.val (.int .u32 (v1.toNat:Int))])] (.val (.int .u32 (r.toNat:Int))):=by
 refine fQ Tryz.func112 Tryz.ntmps112 TT.S7 ?_
 unfold l7 at h
 refine sR ?_
 refine xz 3 (.d (.val (.int .u32 ((0:BitVec 32).toNat:Int)))) ?_
 refine sR ?_
 refine xS 4 (aA (.val (.int .u32 (v1.toNat:Int))) TT.eX ?_)
 refine xm 5 (pI n0) ?_
 obtain ⟨oK,h⟩:=bq h
 refine xS 6 (UA n0 oK ?_)
 obtain ⟨x_2,nS,h⟩:=bO h
 refine xS 7 (az (wj v1 (0-n0) _ nS) ?_)
 refine xz 3 (.d (.val (.int .u32 (x_2.toNat:Int)))) ?_
 refine QW.ret zL ?_
 obtain rfl:=sO h
 exact eO
noncomputable def lR (x0:(BitVec 32)) (a1:Int) (b2:Int) (c3:Int) (B8:Bool):Option (BitVec 32):=
  (bif B8 then
  ((l7 a1 x0).bind fun (x_2:(BitVec 32))=>
  ((l7 b2 x0).bind fun (x_4:(BitVec 32))=>
  gO (0≤c3) (
  some ((x_2^^^x_4)^^^(qY x0 c3)))))
  else
  ((l7 a1 x0).bind fun (x_7:(BitVec 32))=>
  ((l7 b2 x0).bind fun (x_9:(BitVec 32))=>
  ((l7 c3 x0).bind fun (x_11:(BitVec 32))=>
  some ((x_7^^^x_9)^^^x_11)))))
theorem wk (x0:(BitVec 32)) (a1:Int) (b2:Int) (c3:Int) (B8:Bool) (r:(BitVec 32)) (h:lR x0 a1 b2 c3 B8=some r):cD Tryz.prog 105 [.val (.int .u32 (x0.toNat:Int)), .val (.int .i64 a1), .val (.int .i64 b2), .val (.int .i64 c3), .val (.bool B8)] (.val (.int .u32 (r.toNat:Int))):=by
 refine fQ Tryz.func105 Tryz.ntmps105 TT.S5 ?_
 unfold lR at h
 refine sR ?_
 refine XK.fz (some 5) rfl rfl (eE [.val (.int .u32 (x0.toNat:Int))] rfl rfl rfl rfl rfl ?_)
 refine xz 10 (.d (.val (.int .u32 ((0:BitVec 32).toNat:Int)))) ?_
 refine sR ?_
 refine xS 12 (Mg ?_)
 refine xz 11 (.d (.jT 112 [.cF ([.val (.int .u32 (x0.toNat:Int))])])) ?_
 refine QW.seq ?_
 refine sR ?_
 refine xm 13 (pB B8) ?_
 refine XK.nz ?_
 refine cT B8 (fun c8=>?_) (fun c8=>?_)
 ·replace h:=bT h c8
  refine QW.seq ?_
  refine QW.region zL (PW.nj (id:=3) dG (M:=_) rfl (by kernel_rfl) ?_)
  refine qS 14 (ax (.d (.jT 112 [.cF ([.val (.int .u32 (x0.toNat:Int))])])) (q2 ?_))
  refine qS 15 (ax (pI a1) (q2 ?_))
  obtain ⟨x_2,nS,h⟩:=bO h
  refine qS 16 (xW (qh a1 x0 _ nS) (q2 ?_))
  refine qS 17 (ax (.d (.jT 112 [.cF ([.val (.int .u32 (x0.toNat:Int))])])) (q2 ?_))
  refine qS 18 (ax (pI b2) (q2 ?_))
  obtain ⟨x_4,mQ,h⟩:=bO h
  refine qS 19 (xW (qh b2 x0 _ mQ) (q2 ?_))
  refine qS 20 (kF x_2 x_4 (q2 ?_))
  refine qS 21 (aA (.val (.int .u32 (x0.toNat:Int))) TT.eX (q2 ?_))
  refine qS 22 (ax (pI c3) (q2 ?_))
  obtain ⟨oM,h⟩:=bq h
  refine qS 23 (B3 x0 c3 (q2 ?_) (h:=by exact oM))
  refine qS 24 (kF (x_2^^^x_4) (qY x0 c3) (q2 ?_))
  refine qS 10 (cj (.d (.val (.int .u32 (((x_2^^^x_4)^^^(qY x0 c3)).toNat:Int)))) (q2 ?_))
  refine RQ.nil (cn ?_)
  refine QW.ret zL (dc ?_)
  obtain rfl:=sO h
  exact eO
 ·replace h:=bF h c8
  refine sk ?_
  refine sR ?_
  refine xm 25 (.d (.jT 112 [.cF ([.val (.int .u32 (x0.toNat:Int))])])) ?_
  refine xm 26 (pI a1) ?_
  obtain ⟨x_7,oA,h⟩:=bO h
  refine xS 27 (xW (qh a1 x0 _ oA) ?_)
  refine xm 28 (.d (.jT 112 [.cF ([.val (.int .u32 (x0.toNat:Int))])])) ?_
  refine xm 29 (pI b2) ?_
  obtain ⟨x_9,zI,h⟩:=bO h
  refine xS 30 (xW (qh b2 x0 _ zI) ?_)
  refine xS 31 (kF x_7 x_9 ?_)
  refine xm 32 (.d (.jT 112 [.cF ([.val (.int .u32 (x0.toNat:Int))])])) ?_
  refine xm 33 (pI c3) ?_
  obtain ⟨x_11,ta,h⟩:=bO h
  refine xS 34 (xW (qh c3 x0 _ ta) ?_)
  refine xS 35 (kF (x_7^^^x_9) x_11 ?_)
  refine xz 10 (.d (.val (.int .u32 (((x_7^^^x_9)^^^x_11).toNat:Int)))) ?_
  refine QW.ret zL ?_
  obtain rfl:=sO h
  exact eO
inductive Ei where
 | S
 | L1 (v6:Int) (v3:(aD 64 (BitVec 32)))
 | L2 (v5:Int) (fq:(aD 64 (BitVec 32)))
noncomputable def gq (s0:(List UInt8)):Ei→Option (Ei⊕(aD 64 (BitVec 32)))
 | .S=>
  some (.inl (.L1 (0) (aD.rep 64 (0:BitVec 32))))
 | .L1 v6 v3=>
  (bif (decide (v6<(16:Int))) then
  gO (bf ((4:Int)*v6)) (
  gO (0≤((4:Int)*v6)∧((4:Int)*v6)≤(s0.length:Int)∧(s0.length:Int)≤(s0.length:Int)) (
  ((va (sub s0 ((4:Int)*v6) (s0.length:Int))).bind fun (x_5:(BitVec 32))=>
  gO (0≤v6∧v6<((64:Nat):Int)) (
  gO (bf (v6+(1:Int))) (
  some (.inl (.L1 (v6+(1:Int)) (v3.put v6 x_5))))))))
  else
  some (.inl (.L2 (16) v3)))
 | .L2 v5 fq=>
  (bif (decide (v5<(64:Int))) then
  gO (bf (v5-(16:Int))) (
  gO (0≤(v5-(16:Int))∧(v5-(16:Int))<((64:Nat):Int)) (
  gO (bf (v5-(15:Int))) (
  gO (0≤(v5-(15:Int))∧(v5-(15:Int))<((64:Nat):Int)) (
  ((lR (idx fq.1 (v5-(15:Int))) (7) (18) (3) true).bind fun (x_15:(BitVec 32))=>
  gO (bf (v5-(7:Int))) (
  gO (0≤(v5-(7:Int))∧(v5-(7:Int))<((64:Nat):Int)) (
  gO (bf (v5-(2:Int))) (
  gO (0≤(v5-(2:Int))∧(v5-(2:Int))<((64:Nat):Int)) (
  ((lR (idx fq.1 (v5-(2:Int))) (17) (19) (10) true).bind fun (x_21:(BitVec 32))=>
  gO (0≤v5∧v5<((64:Nat):Int)) (
  gO (bf (v5+(1:Int))) (
  some (.inl (.L2 (v5+(1:Int)) (fq.put v5 ((((idx fq.1 (v5-(16:Int)))+x_15)+(idx fq.1 (v5-(7:Int))))+x_21))))))))))))))))
  else
  some (.inr fq))
noncomputable def zQ (s0:(List UInt8)):Option (aD 64 (BitVec 32)):=gJ (gq s0) .S
theorem H8 (s0:(List UInt8)) (r:(aD 64 (BitVec 32))) (h:zQ s0=some r):cD Tryz.prog 103 [.val (sV s0)] (.agg (r.1.map ic)):=by
 refine fQ Tryz.func103 Tryz.ntmps103 TT.S3 ?_
 obtain ⟨_,h⟩:=cP h
 obtain ⟨dm,e9,h⟩:=aQ h;rw [gq] at h
 refine sR ?_
 refine xT 2 (bl (((aD.rep 64 (0:BitVec 32)).1.map ic).map .d) TT.w6 ?_)
 refine sR ?_
 refine xT 3 (bl (((aD.rep 64 (0:BitVec 32)).1.map ic).map .d) TT.w6 ?_)
 refine QW.seq ?_
 refine sR ?_
 refine xm 6 (pI (0)) ?_
 refine XK.nz ?_
 refine QW.block ?_
 refine lp (fun k σ=>∃ v6:Int,∃ v3:(aD 64 (BitVec 32)),k≤dm∧run (gq s0) k (.L1 v6 v3)=some r∧σ=⟨bW [(0,pS s0),(2, .aR 0 0),(3, .aR 1 0),(6,pI v6)],aK [.var (((aD.rep 64 (0:BitVec 32)).1.map ic).map .d), .var ((v3.1.map ic).map .d)],2,[]⟩) dm ⟨0,(aD.rep 64 (0:BitVec 32)),Nat.le_refl _,jG h,rfl⟩ (vM 2 [0,1]) ?_
 rintro wP _ ⟨v6,v3,wQ,h,rfl⟩
 obtain ⟨k_1,e9,h⟩:=aQ h;rw [gq] at h
 refine sR ?_
 refine xT 7 (cM v6 (16:Int) ?_)
 refine QW.seq ?_
 refine cT (decide (v6<(16:Int))) (fun cQ=>?_) (fun cQ=>?_)
 ·replace h:=ej h cQ
  refine sk ?_
  refine QW.seq ?_
  refine QW.block ?_
  refine sR ?_
  refine xm 8 (pI v6) ?_
  refine xz 4 (pI v6) ?_
  refine rG ?_
  refine xm 9 (pI v6) ?_
  refine xm 10 (pS s0) ?_
  refine xm 11 (pI v6) ?_
  obtain ⟨eD,h⟩:=gG h
  refine xS 12 (zC (4:Int) v6 eD ?_)
  obtain ⟨rW,h⟩:=gG h
  refine xS 13 (p6 s0 ((4:Int)*v6) (s0.length:Int) TT.bh rW ?_)
  obtain ⟨x_5,vH,h⟩:=bG h
  refine xS 14 (az (Ji (sub s0 ((4:Int)*v6) (s0.length:Int)) _ vH) ?_)
  obtain ⟨pJ,h⟩:=gG h
  refine xS 15 (cZ v6 TT.sH ?_ (h:=by exact pJ))
  refine xN (aV (((v3.put v6 x_5).1.map ic).map .d) TT.eX ?_ (hf:=by exact uV pJ) (hl:=s7 pJ))
  refine XK.nil (iS (cn ?_))
  refine rG ?_
  obtain ⟨uq,h⟩:=gG h
  refine xS 16 (bE v6 (1:Int) uq ?_)
  refine xm 6 (pI (v6+(1:Int))) ?_
  refine XK.nz ?_
  exact lb k_1 ⟨(v6+(1:Int)),(v3.put v6 x_5),by omega,jG h,rfl⟩ (vM 2 [0,1])
 ·replace h:=ek h cQ
  refine QW.exit zL (eP (eP (kW (cn ?_))))
  refine QW.seq ?_
  refine sR ?_
  refine xz 5 (pI (16)) ?_
  refine QW.block ?_
  refine lp (fun k σ=>∃ v5:Int,∃ fq:(aD 64 (BitVec 32)),k≤k_1∧run (gq s0) k (.L2 v5 fq)=some r∧σ=⟨bW [(2, .aR 0 0),(3, .aR 1 0),(5,pI v5)],aK [.var (((aD.rep 64 (0:BitVec 32)).1.map ic).map .d), .var ((fq.1.map ic).map .d)],2,[]⟩) k_1 ⟨16,v3,Nat.le_refl _,jG h,rfl⟩ (vM 2 [0,1]) ?_
  rintro abP _ ⟨v5,fq,abQ,h,rfl⟩
  obtain ⟨k_9,e9,h⟩:=aQ h;rw [gq] at h
  refine QW.seq ?_
  refine sR ?_
  refine xm 17 (pI v5) ?_
  refine xT 18 (cM v5 (64:Int) ?_)
  refine cT (decide (v5<(64:Int))) (fun oN=>?_) (fun oN=>?_)
  ·replace h:=ej h oN
   refine sk ?_
   refine QW.seq ?_
   refine QW.block ?_
   refine QW.region zL (PW.qX (id:=10) dG (M:=_) rfl (by kernel_rfl) ?_)
   refine kS 21 (ax (pI v5) ?_)
   refine kS 22 (ax (pI v5) ?_)
   obtain ⟨td,h⟩:=gG h
   refine kS 23 (mZ v5 (16:Int) td ?_)
   obtain ⟨kP,h⟩:=gG h
   refine kS 24 (cZ (v5-(16:Int)) TT.sH ?_ (h:=by exact kP))
   refine kS 25 (aW (.d (.val (.int .u32 ((idx fq.1 (v5-(16:Int))).toNat:Int)))) TT.eX ?_ (h:=fR kP))
   refine kS 26 (ax (pI v5) ?_)
   obtain ⟨nU,h⟩:=gG h
   refine kS 27 (mZ v5 (15:Int) nU ?_)
   obtain ⟨tc,h⟩:=gG h
   refine kS 28 (cZ (v5-(15:Int)) TT.sH ?_ (h:=by exact tc))
   refine kS 29 (aW (.d (.val (.int .u32 ((idx fq.1 (v5-(15:Int))).toNat:Int)))) TT.eX ?_ (h:=fR tc))
   obtain ⟨x_15,r4,h⟩:=bG h
   refine kS 30 (az (wk (idx fq.1 (v5-(15:Int))) (7) (18) (3) true _ r4) ?_)
   refine kS 31 (ga (idx fq.1 (v5-(16:Int))) x_15 ?_)
   refine kS 32 (ax (pI v5) ?_)
   obtain ⟨oB,h⟩:=gG h
   refine kS 33 (mZ v5 (7:Int) oB ?_)
   obtain ⟨qI,h⟩:=gG h
   refine kS 34 (cZ (v5-(7:Int)) TT.sH ?_ (h:=by exact qI))
   refine kS 35 (aW (.d (.val (.int .u32 ((idx fq.1 (v5-(7:Int))).toNat:Int)))) TT.eX ?_ (h:=fR qI))
   refine kS 36 (ga ((idx fq.1 (v5-(16:Int)))+x_15) (idx fq.1 (v5-(7:Int))) ?_)
   refine kS 37 (ax (pI v5) ?_)
   obtain ⟨wY,h⟩:=gG h
   refine kS 38 (mZ v5 (2:Int) wY ?_)
   obtain ⟨qK,h⟩:=gG h
   refine kS 39 (cZ (v5-(2:Int)) TT.sH ?_ (h:=by exact qK))
   refine kS 40 (aW (.d (.val (.int .u32 ((idx fq.1 (v5-(2:Int))).toNat:Int)))) TT.eX ?_ (h:=fR qK))
   obtain ⟨x_21,H9,h⟩:=bG h
   refine kS 41 (az (wk (idx fq.1 (v5-(2:Int))) (17) (19) (10) true _ H9) ?_)
   refine kS 42 (ga (((idx fq.1 (v5-(16:Int)))+x_15)+(idx fq.1 (v5-(7:Int)))) x_21 ?_)
   obtain ⟨HQ,h⟩:=gG h
   refine kS 43 (cZ v5 TT.sH ?_ (h:=by exact HQ))
   refine RK.st none rfl rfl (aV (((fq.put v5 ((((idx fq.1 (v5-(16:Int)))+x_15)+(idx fq.1 (v5-(7:Int))))+x_21)).1.map ic).map .d) TT.eX ?_ (hf:=by exact uV HQ) (hl:=s7 HQ))
   refine RK.nil ⟨fH.comp (by rfl),(iS (cn ?_))⟩
   refine QW.view (s':=⟨bW [(2, .aR 0 0),(3, .aR 1 0),(5,pI v5)],aK [.var (((aD.rep 64 (0:BitVec 32)).1.map ic).map .d), .var (((fq.put v5 ((((idx fq.1 (v5-(16:Int)))+x_15)+(idx fq.1 (v5-(7:Int))))+x_21)).1.map ic).map .d)],2,[]⟩) (vM 2 [0,1]) zL ?_
   refine rG ?_
   refine xm 19 (pI v5) ?_
   obtain ⟨vI,h⟩:=gG h
   refine xS 20 (bE v5 (1:Int) vI ?_)
   refine xz 5 (pI (v5+(1:Int))) ?_
   exact lb k_9 ⟨(v5+(1:Int)),(fq.put v5 ((((idx fq.1 (v5-(16:Int)))+x_15)+(idx fq.1 (v5-(7:Int))))+x_21)),by omega,jG h,rfl⟩ (vM 2 [0,1])
  ·replace h:=ek h oN
   refine QW.exit zL (eP (eP (kW (cn ?_))))
   refine sR ?_
   refine xA 44 (aW (.agg ((fq.1.map ic).map .d)) TT.w4 ⟨.d (.agg (fq.1.map ic)),jk,?_⟩ (h:=by exact lq (by decide)))
   refine xN (aV ((fq.1.map ic).map .d) TT.w4 ?_ (hn:=by exact aj _) (hf:=by exact oZ _) (hl:=by exact cE ((aj _).trans (aj _).symm)))
   refine XK.nz ?_
   refine QW.ret zL ?_
   obtain rfl:=sG h
   exact Ends.one (.inr rfl) rfl (aN.cell rfl rfl TT.w4 (lq (by decide))) (jK bK) rfl
noncomputable def yx:Option (aD 64 (BitVec 32)):=
  some (⟨[(1116352408:BitVec 32),(1899447441:BitVec 32),(3049323471:BitVec 32),(3921009573:BitVec 32),(961987163:BitVec 32),(1508970993:BitVec 32),(2453635748:BitVec 32),(2870763221:BitVec 32),(3624381080:BitVec 32),(310598401:BitVec 32),(607225278:BitVec 32),(1426881987:BitVec 32),(1925078388:BitVec 32),(2162078206:BitVec 32),(2614888103:BitVec 32),(3248222580:BitVec 32),(3835390401:BitVec 32),(4022224774:BitVec 32),(264347078:BitVec 32),(604807628:BitVec 32),(770255983:BitVec 32),(1249150122:BitVec 32),(1555081692:BitVec 32),(1996064986:BitVec 32),(2554220882:BitVec 32),(2821834349:BitVec 32),(2952996808:BitVec 32),(3210313671:BitVec 32),(3336571891:BitVec 32),(3584528711:BitVec 32),(113926993:BitVec 32),(338241895:BitVec 32),(666307205:BitVec 32),(773529912:BitVec 32),(1294757372:BitVec 32),(1396182291:BitVec 32),(1695183700:BitVec 32),(1986661051:BitVec 32),(2177026350:BitVec 32),(2456956037:BitVec 32),(2730485921:BitVec 32),(2820302411:BitVec 32),(3259730800:BitVec 32),(3345764771:BitVec 32),(3516065817:BitVec 32),(3600352804:BitVec 32),(4094571909:BitVec 32),(275423344:BitVec 32),(430227734:BitVec 32),(506948616:BitVec 32),(659060556:BitVec 32),(883997877:BitVec 32),(958139571:BitVec 32),(1322822218:BitVec 32),(1537002063:BitVec 32),(1747873779:BitVec 32),(1955562222:BitVec 32),(2024104815:BitVec 32),(2227730452:BitVec 32),(2361852424:BitVec 32),(2428436474:BitVec 32),(2756734187:BitVec 32),(3204031479:BitVec 32),(3329325298:BitVec 32)],rfl⟩:(aD 64 (BitVec 32)))
theorem Gq (r:(aD 64 (BitVec 32))) (h:yx=some r):cD Tryz.prog 104 [] (.agg (r.1.map ic)):=by
 refine fQ Tryz.func104 Tryz.ntmps104 TT.S4 ?_
 unfold yx at h
 refine sR ?_
 refine xT 0 (bl (((aD.rep 64 (0:BitVec 32)).1.map ic).map .d) TT.w6 ?_)
 refine sR ?_
 refine xA 1 (wz (.agg [.d (.val (.int .u32 ((1116352408:BitVec 32).toNat:Int))), .d (.val (.int .u32 ((1899447441:BitVec 32).toNat:Int))), .d (.val (.int .u32 ((3049323471:BitVec 32).toNat:Int))), .d (.val (.int .u32 ((3921009573:BitVec 32).toNat:Int))), .d (.val (.int .u32 ((961987163:BitVec 32).toNat:Int))), .d (.val (.int .u32 ((1508970993:BitVec 32).toNat:Int))), .d (.val (.int .u32 ((2453635748:BitVec 32).toNat:Int))), .d (.val (.int .u32 ((2870763221:BitVec 32).toNat:Int))), .d (.val (.int .u32 ((3624381080:BitVec 32).toNat:Int))), .d (.val (.int .u32 ((310598401:BitVec 32).toNat:Int))), .d (.val (.int .u32 ((607225278:BitVec 32).toNat:Int))), .d (.val (.int .u32 ((1426881987:BitVec 32).toNat:Int))), .d (.val (.int .u32 ((1925078388:BitVec 32).toNat:Int))), .d (.val (.int .u32 ((2162078206:BitVec 32).toNat:Int))), .d (.val (.int .u32 ((2614888103:BitVec 32).toNat:Int))), .d (.val (.int .u32 ((3248222580:BitVec 32).toNat:Int))), .d (.val (.int .u32 ((3835390401:BitVec 32).toNat:Int))), .d (.val (.int .u32 ((4022224774:BitVec 32).toNat:Int))), .d (.val (.int .u32 ((264347078:BitVec 32).toNat:Int))), .d (.val (.int .u32 ((604807628:BitVec 32).toNat:Int))), .d (.val (.int .u32 ((770255983:BitVec 32).toNat:Int))), .d (.val (.int .u32 ((1249150122:BitVec 32).toNat:Int))), .d (.val (.int .u32 ((1555081692:BitVec 32).toNat:Int))), .d (.val (.int .u32 ((1996064986:BitVec 32).toNat:Int))), .d (.val (.int .u32 ((2554220882:BitVec 32).toNat:Int))), .d (.val (.int .u32 ((2821834349:BitVec 32).toNat:Int))), .d (.val (.int .u32 ((2952996808:BitVec 32).toNat:Int))), .d (.val (.int .u32 ((3210313671:BitVec 32).toNat:Int))), .d (.val (.int .u32 ((3336571891:BitVec 32).toNat:Int))), .d (.val (.int .u32 ((3584528711:BitVec 32).toNat:Int))), .d (.val (.int .u32 ((113926993:BitVec 32).toNat:Int))), .d (.val (.int .u32 ((338241895:BitVec 32).toNat:Int))), .d (.val (.int .u32 ((666307205:BitVec 32).toNat:Int))), .d (.val (.int .u32 ((773529912:BitVec 32).toNat:Int))), .d (.val (.int .u32 ((1294757372:BitVec 32).toNat:Int))), .d (.val (.int .u32 ((1396182291:BitVec 32).toNat:Int))), .d (.val (.int .u32 ((1695183700:BitVec 32).toNat:Int))), .d (.val (.int .u32 ((1986661051:BitVec 32).toNat:Int))), .d (.val (.int .u32 ((2177026350:BitVec 32).toNat:Int))), .d (.val (.int .u32 ((2456956037:BitVec 32).toNat:Int))), .d (.val (.int .u32 ((2730485921:BitVec 32).toNat:Int))), .d (.val (.int .u32 ((2820302411:BitVec 32).toNat:Int))), .d (.val (.int .u32 ((3259730800:BitVec 32).toNat:Int))), .d (.val (.int .u32 ((3345764771:BitVec 32).toNat:Int))), .d (.val (.int .u32 ((3516065817:BitVec 32).toNat:Int))), .d (.val (.int .u32 ((3600352804:BitVec 32).toNat:Int))), .d (.val (.int .u32 ((4094571909:BitVec 32).toNat:Int))), .d (.val (.int .u32 ((275423344:BitVec 32).toNat:Int))), .d (.val (.int .u32 ((430227734:BitVec 32).toNat:Int))), .d (.val (.int .u32 ((506948616:BitVec 32).toNat:Int))), .d (.val (.int .u32 ((659060556:BitVec 32).toNat:Int))), .d (.val (.int .u32 ((883997877:BitVec 32).toNat:Int))), .d (.val (.int .u32 ((958139571:BitVec 32).toNat:Int))), .d (.val (.int .u32 ((1322822218:BitVec 32).toNat:Int))), .d (.val (.int .u32 ((1537002063:BitVec 32).toNat:Int))), .d (.val (.int .u32 ((1747873779:BitVec 32).toNat:Int))), .d (.val (.int .u32 ((1955562222:BitVec 32).toNat:Int))), .d (.val (.int .u32 ((2024104815:BitVec 32).toNat:Int))), .d (.val (.int .u32 ((2227730452:BitVec 32).toNat:Int))), .d (.val (.int .u32 ((2361852424:BitVec 32).toNat:Int))), .d (.val (.int .u32 ((2428436474:BitVec 32).toNat:Int))), .d (.val (.int .u32 ((2756734187:BitVec 32).toNat:Int))), .d (.val (.int .u32 ((3204031479:BitVec 32).toNat:Int))), .d (.val (.int .u32 ((3329325298:BitVec 32).toNat:Int)))]) rfl (by rw [TT.J5];simp [lX,lW,placeOf,pN,aH,PV.ir,PV.iF,Value.oneCell',m4,oF,qP,List.all,p4,bW,AS,ym,fE,Gh]) (by rw [TT.J5];rfl) ⟨.d (.agg ((⟨[(1116352408:BitVec 32),(1899447441:BitVec 32),(3049323471:BitVec 32),(3921009573:BitVec 32),(961987163:BitVec 32),(1508970993:BitVec 32),(2453635748:BitVec 32),(2870763221:BitVec 32),(3624381080:BitVec 32),(310598401:BitVec 32),(607225278:BitVec 32),(1426881987:BitVec 32),(1925078388:BitVec 32),(2162078206:BitVec 32),(2614888103:BitVec 32),(3248222580:BitVec 32),(3835390401:BitVec 32),(4022224774:BitVec 32),(264347078:BitVec 32),(604807628:BitVec 32),(770255983:BitVec 32),(1249150122:BitVec 32),(1555081692:BitVec 32),(1996064986:BitVec 32),(2554220882:BitVec 32),(2821834349:BitVec 32),(2952996808:BitVec 32),(3210313671:BitVec 32),(3336571891:BitVec 32),(3584528711:BitVec 32),(113926993:BitVec 32),(338241895:BitVec 32),(666307205:BitVec 32),(773529912:BitVec 32),(1294757372:BitVec 32),(1396182291:BitVec 32),(1695183700:BitVec 32),(1986661051:BitVec 32),(2177026350:BitVec 32),(2456956037:BitVec 32),(2730485921:BitVec 32),(2820302411:BitVec 32),(3259730800:BitVec 32),(3345764771:BitVec 32),(3516065817:BitVec 32),(3600352804:BitVec 32),(4094571909:BitVec 32),(275423344:BitVec 32),(430227734:BitVec 32),(506948616:BitVec 32),(659060556:BitVec 32),(883997877:BitVec 32),(958139571:BitVec 32),(1322822218:BitVec 32),(1537002063:BitVec 32),(1747873779:BitVec 32),(1955562222:BitVec 32),(2024104815:BitVec 32),(2227730452:BitVec 32),(2361852424:BitVec 32),(2428436474:BitVec 32),(2756734187:BitVec 32),(3204031479:BitVec 32),(3329325298:BitVec 32)],rfl⟩:(aD 64 (BitVec 32))).1.map ic)),(fX.cN rfl),?_⟩)
 refine xN (aV (((⟨[(1116352408:BitVec 32),(1899447441:BitVec 32),(3049323471:BitVec 32),(3921009573:BitVec 32),(961987163:BitVec 32),(1508970993:BitVec 32),(2453635748:BitVec 32),(2870763221:BitVec 32),(3624381080:BitVec 32),(310598401:BitVec 32),(607225278:BitVec 32),(1426881987:BitVec 32),(1925078388:BitVec 32),(2162078206:BitVec 32),(2614888103:BitVec 32),(3248222580:BitVec 32),(3835390401:BitVec 32),(4022224774:BitVec 32),(264347078:BitVec 32),(604807628:BitVec 32),(770255983:BitVec 32),(1249150122:BitVec 32),(1555081692:BitVec 32),(1996064986:BitVec 32),(2554220882:BitVec 32),(2821834349:BitVec 32),(2952996808:BitVec 32),(3210313671:BitVec 32),(3336571891:BitVec 32),(3584528711:BitVec 32),(113926993:BitVec 32),(338241895:BitVec 32),(666307205:BitVec 32),(773529912:BitVec 32),(1294757372:BitVec 32),(1396182291:BitVec 32),(1695183700:BitVec 32),(1986661051:BitVec 32),(2177026350:BitVec 32),(2456956037:BitVec 32),(2730485921:BitVec 32),(2820302411:BitVec 32),(3259730800:BitVec 32),(3345764771:BitVec 32),(3516065817:BitVec 32),(3600352804:BitVec 32),(4094571909:BitVec 32),(275423344:BitVec 32),(430227734:BitVec 32),(506948616:BitVec 32),(659060556:BitVec 32),(883997877:BitVec 32),(958139571:BitVec 32),(1322822218:BitVec 32),(1537002063:BitVec 32),(1747873779:BitVec 32),(1955562222:BitVec 32),(2024104815:BitVec 32),(2227730452:BitVec 32),(2361852424:BitVec 32),(2428436474:BitVec 32),(2756734187:BitVec 32),(3204031479:BitVec 32),(3329325298:BitVec 32)],rfl⟩:(aD 64 (BitVec 32))).1.map ic).map .d) TT.w4 ?_ (hn:=by exact aj _) (hf:=by exact oZ _) (hl:=by exact cE ((aj _).trans (aj _).symm)))
 refine XK.nz ?_
 refine QW.ret zL ?_
 obtain rfl:=sO h
 exact Ends.one (.inr rfl) rfl (aN.cell rfl rfl TT.w4 (lq (by decide))) (jK bK) rfl
inductive F2 where
 | S
 | L1 (dV:Int) (cr:(aD 64 (BitVec 32))) (dB:(aD 64 (BitVec 32))) (v7:(aD 8 (BitVec 32)))
 | L2 (oO:Int) (v2:(aD 8 (BitVec 32))) (Ar:(aD 8 (BitVec 32)))
noncomputable def gv (h0:(aD 8 (BitVec 32))) (s1:(List UInt8)):F2→Option (F2⊕(aD 8 (BitVec 32)))
 | .S=>
  ((zQ s1).bind fun (x_1:(aD 64 (BitVec 32)))=>
  ((yx).bind fun (x_3:(aD 64 (BitVec 32)))=>
  some (.inl (.L1 (0) x_1 x_3 h0))))
 | .L1 dV cr dB v7=>
  (bif (decide (dV<(64:Int))) then
  ((lR (idx v7.1 (4:Int)) (6) (11) (25) false).bind fun (x_7:(BitVec 32))=>
  gO (0≤dV∧dV<((64:Nat):Int)) (
  gO (0≤dV∧dV<((64:Nat):Int)) (
  ((lR (idx v7.1 (0:Int)) (2) (13) (22) false).bind fun (x_11:(BitVec 32))=>
  gO (bf (dV+(1:Int))) (
  some (.inl (.L1 (dV+(1:Int)) cr dB (⟨[((((((idx v7.1 (7:Int))+x_7)+(((idx v7.1 (4:Int))&&& (idx v7.1 (5:Int)))^^^((~~~(idx v7.1 (4:Int)))&&& (idx v7.1 (6:Int)))))+(idx dB.1 dV))+(idx cr.1 dV))+(x_11+((((idx v7.1 (0:Int))&&& (idx v7.1 (1:Int)))^^^((idx v7.1 (0:Int))&&& (idx v7.1 (2:Int))))^^^((idx v7.1 (1:Int))&&& (idx v7.1 (2:Int)))))),(idx v7.1 (0:Int)),(idx v7.1 (1:Int)),(idx v7.1 (2:Int)),((idx v7.1 (3:Int))+(((((idx v7.1 (7:Int))+x_7)+(((idx v7.1 (4:Int))&&& (idx v7.1 (5:Int)))^^^((~~~(idx v7.1 (4:Int)))&&& (idx v7.1 (6:Int)))))+(idx dB.1 dV))+(idx cr.1 dV))),(idx v7.1 (4:Int)),(idx v7.1 (5:Int)),(idx v7.1 (6:Int))],rfl⟩:(aD 8 (BitVec 32))))))))))
  else
  some (.inl (.L2 (0) h0 v7)))
 | .L2 oO v2 Ar=>
  (bif (decide (oO<(8:Int))) then
  gO (0≤oO∧oO<((8:Nat):Int)) (
  gO (0≤oO∧oO<((8:Nat):Int)) (
  gO (0≤oO∧oO<((8:Nat):Int)) (
  gO (bf (oO+(1:Int))) (
  some (.inl (.L2 (oO+(1:Int)) (v2.put oO ((idx v2.1 oO)+(idx Ar.1 oO))) Ar))))))
  else
  some (.inr v2))
noncomputable def Bi (h0:(aD 8 (BitVec 32))) (s1:(List UInt8)):Option (aD 8 (BitVec 32)):=gJ (gv h0 s1) .S
theorem Jj (h0:(aD 8 (BitVec 32))) (s1:(List UInt8)) (r:(aD 8 (BitVec 32))) (h:Bi h0 s1=some r):cD Tryz.prog 89 [.agg (h0.1.map ic), .val (sV s1)] (.agg (r.1.map ic)):=by
 refine fQ Tryz.func89 Tryz.ntmps89 TT.Vt ?_
 obtain ⟨_,h⟩:=cP h
 obtain ⟨dm,e9,h⟩:=aQ h;rw [gv] at h
 refine sR ?_
 refine xS 2 (Ht ((h0.1.map ic).map .d) ?_)
 refine xT 4 (bl (((aD.rep 8 (0:BitVec 32)).1.map ic).map .d) TT.zO ?_)
 refine sR ?_
 refine xm 14 (pS s1) ?_
 obtain ⟨x_1,fk,h⟩:=bG h
 refine xS 15 (az (H8 s1 _ fk) ?_)
 obtain ⟨x_3,ri,h⟩:=bG h
 refine xS 16 (az (Gq _ ri) ?_)
 refine xS 5 (bl (((aD.rep 64 (0:BitVec 32)).1.map ic).map .d) TT.w6 ?_)
 refine xS 6 (bl (((aD.rep 64 (0:BitVec 32)).1.map ic).map .d) TT.w6 ?_)
 refine xN (aV ((x_1.1.map ic).map .d) TT.w4 ?_ (hn:=by exact aj _) (hf:=by exact oZ _) (hl:=by exact cE ((aj _).trans (aj _).symm)))
 refine xN (aV ((x_3.1.map ic).map .d) TT.w4 ?_ (hn:=by exact aj _) (hf:=by exact oZ _) (hl:=by exact cE ((aj _).trans (aj _).symm)))
 refine XK.nz ?_
 refine sR ?_
 refine xA 17 (aW (.agg ((h0.1.map ic).map .d)) TT.qf ⟨.d (.agg (h0.1.map ic)),jk,?_⟩ (h:=by exact lq (by decide)))
 refine xS 7 (bl (((aD.rep 8 (0:BitVec 32)).1.map ic).map .d) TT.zO ?_)
 refine xN (aV ((h0.1.map ic).map .d) TT.qf ?_ (hn:=by exact aj _) (hf:=by exact oZ _) (hl:=by exact cE ((aj _).trans (aj _).symm)))
 refine XK.nz ?_
 refine QW.seq ?_
 refine sR ?_
 refine xm 18 (pI (0)) ?_
 refine XK.nz ?_
 refine QW.block ?_
 refine lp (fun k σ=>∃ dV:Int,∃ cr:(aD 64 (BitVec 32)),∃ dB:(aD 64 (BitVec 32)),∃ v7:(aD 8 (BitVec 32)),k≤dm∧run (gv h0 s1) k (.L1 dV cr dB v7)=some r∧σ=⟨bW [(2, .aR 0 0),(4, .aR 1 0),(5, .aR 2 0),(6, .aR 3 0),(7, .aR 4 0),(18,pI dV)],aK [.var ((h0.1.map ic).map .d), .var (((aD.rep 8 (0:BitVec 32)).1.map ic).map .d), .var ((cr.1.map ic).map .d), .var ((dB.1.map ic).map .d), .var ((v7.1.map ic).map .d)],5,[]⟩) dm ⟨0,x_1,x_3,h0,Nat.le_refl _,jG h,rfl⟩ (vM 5 [0,1,2,3,4]) ?_
 rintro MI _ ⟨dV,cr,dB,v7,MJ,h,rfl⟩
 obtain ⟨Dj,e9,h⟩:=aQ h;rw [gv] at h
 refine sR ?_
 refine xT 19 (cM dV (64:Int) ?_)
 refine QW.seq ?_
 refine cT (decide (dV<(64:Int))) (fun j4=>?_) (fun j4=>?_)
 ·replace h:=ej h j4
  refine sk ?_
  refine QW.seq ?_
  refine QW.block ?_
  refine sR ?_
  refine xm 20 (pI dV) ?_
  refine xz 8 (pI dV) ?_
  refine sR ?_
  refine xS 21 (cZ (4:Int) TT.gf ?_ (h:=by exact show 0≤(4:Int)∧(4:Int)<((8:Nat):Int) by decide))
  refine xS 22 (aW (.d (.val (.int .u32 ((idx v7.1 (4:Int)).toNat:Int)))) TT.eX ?_ (h:=by exact fR (show 0≤(4:Int)∧(4:Int)<((8:Nat):Int) by decide)))
  refine xS 23 (cZ (5:Int) TT.gf ?_ (h:=by exact show 0≤(5:Int)∧(5:Int)<((8:Nat):Int) by decide))
  refine xS 24 (aW (.d (.val (.int .u32 ((idx v7.1 (5:Int)).toNat:Int)))) TT.eX ?_ (h:=by exact fR (show 0≤(5:Int)∧(5:Int)<((8:Nat):Int) by decide)))
  refine xS 25 (n9 (idx v7.1 (4:Int)) (idx v7.1 (5:Int)) ?_)
  refine xS 26 (cZ (4:Int) TT.gf ?_ (h:=by exact show 0≤(4:Int)∧(4:Int)<((8:Nat):Int) by decide))
  refine xS 27 (aW (.d (.val (.int .u32 ((idx v7.1 (4:Int)).toNat:Int)))) TT.eX ?_ (h:=by exact fR (show 0≤(4:Int)∧(4:Int)<((8:Nat):Int) by decide)))
  refine xS 28 (Qt (idx v7.1 (4:Int)) ?_)
  refine xS 29 (cZ (6:Int) TT.gf ?_ (h:=by exact show 0≤(6:Int)∧(6:Int)<((8:Nat):Int) by decide))
  refine xS 30 (aW (.d (.val (.int .u32 ((idx v7.1 (6:Int)).toNat:Int)))) TT.eX ?_ (h:=by exact fR (show 0≤(6:Int)∧(6:Int)<((8:Nat):Int) by decide)))
  refine xS 31 (n9 (~~~(idx v7.1 (4:Int))) (idx v7.1 (6:Int)) ?_)
  refine xS 32 (kF ((idx v7.1 (4:Int))&&& (idx v7.1 (5:Int))) ((~~~(idx v7.1 (4:Int)))&&& (idx v7.1 (6:Int))) ?_)
  refine xz 9 (.d (.val (.int .u32 ((((idx v7.1 (4:Int))&&& (idx v7.1 (5:Int)))^^^((~~~(idx v7.1 (4:Int)))&&& (idx v7.1 (6:Int)))).toNat:Int)))) ?_
  refine QW.seq ?_
  refine QW.view (s':=⟨bW [(2, .aR 0 0),(4, .aR 1 0),(5, .aR 2 0),(6, .aR 3 0),(7, .aR 4 0),(8,pI dV),(9, .d (.val (.int .u32 ((((idx v7.1 (4:Int))&&& (idx v7.1 (5:Int)))^^^((~~~(idx v7.1 (4:Int)))&&& (idx v7.1 (6:Int)))).toNat:Int)))),(18,pI dV)],aK [.var ((h0.1.map ic).map .d), .var (((aD.rep 8 (0:BitVec 32)).1.map ic).map .d), .var ((cr.1.map ic).map .d), .var ((dB.1.map ic).map .d), .var ((v7.1.map ic).map .d)],5,[]⟩) (vM 5 [0,1,2,3,4]) zL ?_
  refine rG ?_
  refine xS 33 (cZ (0:Int) TT.gf ?_ (h:=by exact show 0≤(0:Int)∧(0:Int)<((8:Nat):Int) by decide))
  refine xS 34 (aW (.d (.val (.int .u32 ((idx v7.1 (0:Int)).toNat:Int)))) TT.eX ?_ (h:=by exact fR (show 0≤(0:Int)∧(0:Int)<((8:Nat):Int) by decide)))
  refine xS 35 (cZ (1:Int) TT.gf ?_ (h:=by exact show 0≤(1:Int)∧(1:Int)<((8:Nat):Int) by decide))
  refine xS 36 (aW (.d (.val (.int .u32 ((idx v7.1 (1:Int)).toNat:Int)))) TT.eX ?_ (h:=by exact fR (show 0≤(1:Int)∧(1:Int)<((8:Nat):Int) by decide)))
  refine xS 37 (n9 (idx v7.1 (0:Int)) (idx v7.1 (1:Int)) ?_)
  refine xS 38 (cZ (0:Int) TT.gf ?_ (h:=by exact show 0≤(0:Int)∧(0:Int)<((8:Nat):Int) by decide))
  refine xS 39 (aW (.d (.val (.int .u32 ((idx v7.1 (0:Int)).toNat:Int)))) TT.eX ?_ (h:=by exact fR (show 0≤(0:Int)∧(0:Int)<((8:Nat):Int) by decide)))
  refine xS 40 (cZ (2:Int) TT.gf ?_ (h:=by exact show 0≤(2:Int)∧(2:Int)<((8:Nat):Int) by decide))
  refine xS 41 (aW (.d (.val (.int .u32 ((idx v7.1 (2:Int)).toNat:Int)))) TT.eX ?_ (h:=by exact fR (show 0≤(2:Int)∧(2:Int)<((8:Nat):Int) by decide)))
  refine xS 42 (n9 (idx v7.1 (0:Int)) (idx v7.1 (2:Int)) ?_)
  refine xS 43 (kF ((idx v7.1 (0:Int))&&& (idx v7.1 (1:Int))) ((idx v7.1 (0:Int))&&& (idx v7.1 (2:Int))) ?_)
  refine xS 44 (cZ (1:Int) TT.gf ?_ (h:=by exact show 0≤(1:Int)∧(1:Int)<((8:Nat):Int) by decide))
  refine xS 45 (aW (.d (.val (.int .u32 ((idx v7.1 (1:Int)).toNat:Int)))) TT.eX ?_ (h:=by exact fR (show 0≤(1:Int)∧(1:Int)<((8:Nat):Int) by decide)))
  refine xS 46 (cZ (2:Int) TT.gf ?_ (h:=by exact show 0≤(2:Int)∧(2:Int)<((8:Nat):Int) by decide))
  refine xS 47 (aW (.d (.val (.int .u32 ((idx v7.1 (2:Int)).toNat:Int)))) TT.eX ?_ (h:=by exact fR (show 0≤(2:Int)∧(2:Int)<((8:Nat):Int) by decide)))
  refine xS 48 (n9 (idx v7.1 (1:Int)) (idx v7.1 (2:Int)) ?_)
  refine xS 49 (kF (((idx v7.1 (0:Int))&&& (idx v7.1 (1:Int)))^^^((idx v7.1 (0:Int))&&& (idx v7.1 (2:Int)))) ((idx v7.1 (1:Int))&&& (idx v7.1 (2:Int))) ?_)
  refine xz 10 (.d (.val (.int .u32 (((((idx v7.1 (0:Int))&&& (idx v7.1 (1:Int)))^^^((idx v7.1 (0:Int))&&& (idx v7.1 (2:Int))))^^^((idx v7.1 (1:Int))&&& (idx v7.1 (2:Int)))).toNat:Int)))) ?_
  refine QW.seq ?_
  refine QW.view (s':=⟨bW [(2, .aR 0 0),(4, .aR 1 0),(5, .aR 2 0),(6, .aR 3 0),(7, .aR 4 0),(8,pI dV),(9, .d (.val (.int .u32 ((((idx v7.1 (4:Int))&&& (idx v7.1 (5:Int)))^^^((~~~(idx v7.1 (4:Int)))&&& (idx v7.1 (6:Int)))).toNat:Int)))),(10, .d (.val (.int .u32 (((((idx v7.1 (0:Int))&&& (idx v7.1 (1:Int)))^^^((idx v7.1 (0:Int))&&& (idx v7.1 (2:Int))))^^^((idx v7.1 (1:Int))&&& (idx v7.1 (2:Int)))).toNat:Int)))),(18,pI dV)],aK [.var ((h0.1.map ic).map .d), .var (((aD.rep 8 (0:BitVec 32)).1.map ic).map .d), .var ((cr.1.map ic).map .d), .var ((dB.1.map ic).map .d), .var ((v7.1.map ic).map .d)],5,[]⟩) (vM 5 [0,1,2,3,4]) zL ?_
  refine QW.region zL (PW.nj (id:=8) dG (M:=_) rfl (by kernel_rfl) ?_)
  refine qS 50 (cZ (7:Int) TT.gf (q2 ?_) (h:=by exact show 0≤(7:Int)∧(7:Int)<((8:Nat):Int) by decide))
  refine qS 51 (aW (.d (.val (.int .u32 ((idx v7.1 (7:Int)).toNat:Int)))) TT.eX (q2 ?_) (h:=by exact fR (show 0≤(7:Int)∧(7:Int)<((8:Nat):Int) by decide)))
  refine qS 52 (cZ (4:Int) TT.gf (q2 ?_) (h:=by exact show 0≤(4:Int)∧(4:Int)<((8:Nat):Int) by decide))
  refine qS 53 (aW (.d (.val (.int .u32 ((idx v7.1 (4:Int)).toNat:Int)))) TT.eX (q2 ?_) (h:=by exact fR (show 0≤(4:Int)∧(4:Int)<((8:Nat):Int) by decide)))
  obtain ⟨x_7,oA,h⟩:=bG h
  refine qS 54 (az (wk (idx v7.1 (4:Int)) (6) (11) (25) false _ oA) (q2 ?_))
  refine qS 55 (ga (idx v7.1 (7:Int)) x_7 (q2 ?_))
  refine qS 56 (ax (.d (.val (.int .u32 ((((idx v7.1 (4:Int))&&& (idx v7.1 (5:Int)))^^^((~~~(idx v7.1 (4:Int)))&&& (idx v7.1 (6:Int)))).toNat:Int)))) (q2 ?_))
  refine qS 57 (ga ((idx v7.1 (7:Int))+x_7) (((idx v7.1 (4:Int))&&& (idx v7.1 (5:Int)))^^^((~~~(idx v7.1 (4:Int)))&&& (idx v7.1 (6:Int)))) (q2 ?_))
  refine qS 58 (ax (pI dV) (q2 ?_))
  obtain ⟨r5,h⟩:=gG h
  refine qS 59 (cZ dV TT.sH (q2 ?_) (h:=by exact r5))
  refine qS 60 (aW (.d (.val (.int .u32 ((idx dB.1 dV).toNat:Int)))) TT.eX (q2 ?_) (h:=fR r5))
  refine qS 61 (ga (((idx v7.1 (7:Int))+x_7)+(((idx v7.1 (4:Int))&&& (idx v7.1 (5:Int)))^^^((~~~(idx v7.1 (4:Int)))&&& (idx v7.1 (6:Int))))) (idx dB.1 dV) (q2 ?_))
  refine qS 62 (ax (pI dV) (q2 ?_))
  obtain ⟨nT,h⟩:=gG h
  refine qS 63 (cZ dV TT.sH (q2 ?_) (h:=by exact nT))
  refine qS 64 (aW (.d (.val (.int .u32 ((idx cr.1 dV).toNat:Int)))) TT.eX (q2 ?_) (h:=fR nT))
  refine qS 65 (ga ((((idx v7.1 (7:Int))+x_7)+(((idx v7.1 (4:Int))&&& (idx v7.1 (5:Int)))^^^((~~~(idx v7.1 (4:Int)))&&& (idx v7.1 (6:Int)))))+(idx dB.1 dV)) (idx cr.1 dV) (q2 ?_))
  refine qS 11 (cj (.d (.val (.int .u32 ((((((idx v7.1 (7:Int))+x_7)+(((idx v7.1 (4:Int))&&& (idx v7.1 (5:Int)))^^^((~~~(idx v7.1 (4:Int)))&&& (idx v7.1 (6:Int)))))+(idx dB.1 dV))+(idx cr.1 dV)).toNat:Int)))) (q2 ?_))
  refine RQ.nil (cn ?_)
  refine QW.seq ?_
  refine QW.view (s':=⟨bW [(2, .aR 0 0),(4, .aR 1 0),(5, .aR 2 0),(6, .aR 3 0),(7, .aR 4 0),(10, .d (.val (.int .u32 (((((idx v7.1 (0:Int))&&& (idx v7.1 (1:Int)))^^^((idx v7.1 (0:Int))&&& (idx v7.1 (2:Int))))^^^((idx v7.1 (1:Int))&&& (idx v7.1 (2:Int)))).toNat:Int)))),(11, .d (.val (.int .u32 ((((((idx v7.1 (7:Int))+x_7)+(((idx v7.1 (4:Int))&&& (idx v7.1 (5:Int)))^^^((~~~(idx v7.1 (4:Int)))&&& (idx v7.1 (6:Int)))))+(idx dB.1 dV))+(idx cr.1 dV)).toNat:Int)))),(18,pI dV)],aK [.var ((h0.1.map ic).map .d), .var (((aD.rep 8 (0:BitVec 32)).1.map ic).map .d), .var ((cr.1.map ic).map .d), .var ((dB.1.map ic).map .d), .var ((v7.1.map ic).map .d)],5,[]⟩) (vM 5 [0,1,2,3,4]) zL ?_
  refine rG ?_
  refine xS 66 (cZ (0:Int) TT.gf ?_ (h:=by exact show 0≤(0:Int)∧(0:Int)<((8:Nat):Int) by decide))
  refine xS 67 (aW (.d (.val (.int .u32 ((idx v7.1 (0:Int)).toNat:Int)))) TT.eX ?_ (h:=by exact fR (show 0≤(0:Int)∧(0:Int)<((8:Nat):Int) by decide)))
  obtain ⟨x_11,ta,h⟩:=bG h
  refine xS 68 (az (wk (idx v7.1 (0:Int)) (2) (13) (22) false _ ta) ?_)
  refine xm 69 (.d (.val (.int .u32 (((((idx v7.1 (0:Int))&&& (idx v7.1 (1:Int)))^^^((idx v7.1 (0:Int))&&& (idx v7.1 (2:Int))))^^^((idx v7.1 (1:Int))&&& (idx v7.1 (2:Int)))).toNat:Int)))) ?_
  refine xS 70 (ga x_11 ((((idx v7.1 (0:Int))&&& (idx v7.1 (1:Int)))^^^((idx v7.1 (0:Int))&&& (idx v7.1 (2:Int))))^^^((idx v7.1 (1:Int))&&& (idx v7.1 (2:Int)))) ?_)
  refine xz 12 (.d (.val (.int .u32 ((x_11+((((idx v7.1 (0:Int))&&& (idx v7.1 (1:Int)))^^^((idx v7.1 (0:Int))&&& (idx v7.1 (2:Int))))^^^((idx v7.1 (1:Int))&&& (idx v7.1 (2:Int))))).toNat:Int)))) ?_
  refine rG ?_
  refine xm 71 (.d (.val (.int .u32 ((((((idx v7.1 (7:Int))+x_7)+(((idx v7.1 (4:Int))&&& (idx v7.1 (5:Int)))^^^((~~~(idx v7.1 (4:Int)))&&& (idx v7.1 (6:Int)))))+(idx dB.1 dV))+(idx cr.1 dV)).toNat:Int)))) ?_
  refine xm 72 (.d (.val (.int .u32 ((x_11+((((idx v7.1 (0:Int))&&& (idx v7.1 (1:Int)))^^^((idx v7.1 (0:Int))&&& (idx v7.1 (2:Int))))^^^((idx v7.1 (1:Int))&&& (idx v7.1 (2:Int))))).toNat:Int)))) ?_
  refine xS 73 (ga (((((idx v7.1 (7:Int))+x_7)+(((idx v7.1 (4:Int))&&& (idx v7.1 (5:Int)))^^^((~~~(idx v7.1 (4:Int)))&&& (idx v7.1 (6:Int)))))+(idx dB.1 dV))+(idx cr.1 dV)) (x_11+((((idx v7.1 (0:Int))&&& (idx v7.1 (1:Int)))^^^((idx v7.1 (0:Int))&&& (idx v7.1 (2:Int))))^^^((idx v7.1 (1:Int))&&& (idx v7.1 (2:Int))))) ?_)
  refine xS 74 (cZ (0:Int) TT.gf ?_ (h:=by exact show 0≤(0:Int)∧(0:Int)<((8:Nat):Int) by decide))
  refine xS 75 (aW (.d (.val (.int .u32 ((idx v7.1 (0:Int)).toNat:Int)))) TT.eX ?_ (h:=by exact fR (show 0≤(0:Int)∧(0:Int)<((8:Nat):Int) by decide)))
  refine xS 76 (cZ (1:Int) TT.gf ?_ (h:=by exact show 0≤(1:Int)∧(1:Int)<((8:Nat):Int) by decide))
  refine xS 77 (aW (.d (.val (.int .u32 ((idx v7.1 (1:Int)).toNat:Int)))) TT.eX ?_ (h:=by exact fR (show 0≤(1:Int)∧(1:Int)<((8:Nat):Int) by decide)))
  refine xS 78 (cZ (2:Int) TT.gf ?_ (h:=by exact show 0≤(2:Int)∧(2:Int)<((8:Nat):Int) by decide))
  refine xS 79 (aW (.d (.val (.int .u32 ((idx v7.1 (2:Int)).toNat:Int)))) TT.eX ?_ (h:=by exact fR (show 0≤(2:Int)∧(2:Int)<((8:Nat):Int) by decide)))
  refine xS 80 (cZ (3:Int) TT.gf ?_ (h:=by exact show 0≤(3:Int)∧(3:Int)<((8:Nat):Int) by decide))
  refine xS 81 (aW (.d (.val (.int .u32 ((idx v7.1 (3:Int)).toNat:Int)))) TT.eX ?_ (h:=by exact fR (show 0≤(3:Int)∧(3:Int)<((8:Nat):Int) by decide)))
  refine xm 82 (.d (.val (.int .u32 ((((((idx v7.1 (7:Int))+x_7)+(((idx v7.1 (4:Int))&&& (idx v7.1 (5:Int)))^^^((~~~(idx v7.1 (4:Int)))&&& (idx v7.1 (6:Int)))))+(idx dB.1 dV))+(idx cr.1 dV)).toNat:Int)))) ?_
  refine xS 83 (ga (idx v7.1 (3:Int)) (((((idx v7.1 (7:Int))+x_7)+(((idx v7.1 (4:Int))&&& (idx v7.1 (5:Int)))^^^((~~~(idx v7.1 (4:Int)))&&& (idx v7.1 (6:Int)))))+(idx dB.1 dV))+(idx cr.1 dV)) ?_)
  refine xS 84 (cZ (4:Int) TT.gf ?_ (h:=by exact show 0≤(4:Int)∧(4:Int)<((8:Nat):Int) by decide))
  refine xS 85 (aW (.d (.val (.int .u32 ((idx v7.1 (4:Int)).toNat:Int)))) TT.eX ?_ (h:=by exact fR (show 0≤(4:Int)∧(4:Int)<((8:Nat):Int) by decide)))
  refine xS 86 (cZ (5:Int) TT.gf ?_ (h:=by exact show 0≤(5:Int)∧(5:Int)<((8:Nat):Int) by decide))
  refine xS 87 (aW (.d (.val (.int .u32 ((idx v7.1 (5:Int)).toNat:Int)))) TT.eX ?_ (h:=by exact fR (show 0≤(5:Int)∧(5:Int)<((8:Nat):Int) by decide)))
  refine xS 88 (cZ (6:Int) TT.gf ?_ (h:=by exact show 0≤(6:Int)∧(6:Int)<((8:Nat):Int) by decide))
  refine xS 89 (aW (.d (.val (.int .u32 ((idx v7.1 (6:Int)).toNat:Int)))) TT.eX ?_ (h:=by exact fR (show 0≤(6:Int)∧(6:Int)<((8:Nat):Int) by decide)))
  refine xA 90 (wz (.agg [.d (.val (.int .u32 (((((((idx v7.1 (7:Int))+x_7)+(((idx v7.1 (4:Int))&&& (idx v7.1 (5:Int)))^^^((~~~(idx v7.1 (4:Int)))&&& (idx v7.1 (6:Int)))))+(idx dB.1 dV))+(idx cr.1 dV))+(x_11+((((idx v7.1 (0:Int))&&& (idx v7.1 (1:Int)))^^^((idx v7.1 (0:Int))&&& (idx v7.1 (2:Int))))^^^((idx v7.1 (1:Int))&&& (idx v7.1 (2:Int)))))).toNat:Int))), .d (.val (.int .u32 ((idx v7.1 (0:Int)).toNat:Int))), .d (.val (.int .u32 ((idx v7.1 (1:Int)).toNat:Int))), .d (.val (.int .u32 ((idx v7.1 (2:Int)).toNat:Int))), .d (.val (.int .u32 (((idx v7.1 (3:Int))+(((((idx v7.1 (7:Int))+x_7)+(((idx v7.1 (4:Int))&&& (idx v7.1 (5:Int)))^^^((~~~(idx v7.1 (4:Int)))&&& (idx v7.1 (6:Int)))))+(idx dB.1 dV))+(idx cr.1 dV))).toNat:Int))), .d (.val (.int .u32 ((idx v7.1 (4:Int)).toNat:Int))), .d (.val (.int .u32 ((idx v7.1 (5:Int)).toNat:Int))), .d (.val (.int .u32 ((idx v7.1 (6:Int)).toNat:Int)))]) rfl (by rw [TT.B7];simp [lX,lW,placeOf,pN,aH,PV.ir,PV.iF,Value.oneCell',m4,oF,qP,List.all,p4,bW,AS,ym,fE,Gh]) (by rw [TT.B7];rfl) ⟨.d (.agg ((⟨[((((((idx v7.1 (7:Int))+x_7)+(((idx v7.1 (4:Int))&&& (idx v7.1 (5:Int)))^^^((~~~(idx v7.1 (4:Int)))&&& (idx v7.1 (6:Int)))))+(idx dB.1 dV))+(idx cr.1 dV))+(x_11+((((idx v7.1 (0:Int))&&& (idx v7.1 (1:Int)))^^^((idx v7.1 (0:Int))&&& (idx v7.1 (2:Int))))^^^((idx v7.1 (1:Int))&&& (idx v7.1 (2:Int)))))),(idx v7.1 (0:Int)),(idx v7.1 (1:Int)),(idx v7.1 (2:Int)),((idx v7.1 (3:Int))+(((((idx v7.1 (7:Int))+x_7)+(((idx v7.1 (4:Int))&&& (idx v7.1 (5:Int)))^^^((~~~(idx v7.1 (4:Int)))&&& (idx v7.1 (6:Int)))))+(idx dB.1 dV))+(idx cr.1 dV))),(idx v7.1 (4:Int)),(idx v7.1 (5:Int)),(idx v7.1 (6:Int))],rfl⟩:(aD 8 (BitVec 32))).1.map ic)),(fX.cN rfl),?_⟩)
  refine xN (aV (((⟨[((((((idx v7.1 (7:Int))+x_7)+(((idx v7.1 (4:Int))&&& (idx v7.1 (5:Int)))^^^((~~~(idx v7.1 (4:Int)))&&& (idx v7.1 (6:Int)))))+(idx dB.1 dV))+(idx cr.1 dV))+(x_11+((((idx v7.1 (0:Int))&&& (idx v7.1 (1:Int)))^^^((idx v7.1 (0:Int))&&& (idx v7.1 (2:Int))))^^^((idx v7.1 (1:Int))&&& (idx v7.1 (2:Int)))))),(idx v7.1 (0:Int)),(idx v7.1 (1:Int)),(idx v7.1 (2:Int)),((idx v7.1 (3:Int))+(((((idx v7.1 (7:Int))+x_7)+(((idx v7.1 (4:Int))&&& (idx v7.1 (5:Int)))^^^((~~~(idx v7.1 (4:Int)))&&& (idx v7.1 (6:Int)))))+(idx dB.1 dV))+(idx cr.1 dV))),(idx v7.1 (4:Int)),(idx v7.1 (5:Int)),(idx v7.1 (6:Int))],rfl⟩:(aD 8 (BitVec 32))).1.map ic).map .d) TT.qf ?_ (hn:=by exact aj _) (hf:=by exact oZ _) (hl:=by exact cE ((aj _).trans (aj _).symm)))
  refine XK.nil (iS (cn ?_))
  refine QW.view (s':=⟨bW [(2, .aR 0 0),(4, .aR 1 0),(5, .aR 2 0),(6, .aR 3 0),(7, .aR 4 0),(18,pI dV)],aK [.var ((h0.1.map ic).map .d), .var (((aD.rep 8 (0:BitVec 32)).1.map ic).map .d), .var ((cr.1.map ic).map .d), .var ((dB.1.map ic).map .d), .var (((⟨[((((((idx v7.1 (7:Int))+x_7)+(((idx v7.1 (4:Int))&&& (idx v7.1 (5:Int)))^^^((~~~(idx v7.1 (4:Int)))&&& (idx v7.1 (6:Int)))))+(idx dB.1 dV))+(idx cr.1 dV))+(x_11+((((idx v7.1 (0:Int))&&& (idx v7.1 (1:Int)))^^^((idx v7.1 (0:Int))&&& (idx v7.1 (2:Int))))^^^((idx v7.1 (1:Int))&&& (idx v7.1 (2:Int)))))),(idx v7.1 (0:Int)),(idx v7.1 (1:Int)),(idx v7.1 (2:Int)),((idx v7.1 (3:Int))+(((((idx v7.1 (7:Int))+x_7)+(((idx v7.1 (4:Int))&&& (idx v7.1 (5:Int)))^^^((~~~(idx v7.1 (4:Int)))&&& (idx v7.1 (6:Int)))))+(idx dB.1 dV))+(idx cr.1 dV))),(idx v7.1 (4:Int)),(idx v7.1 (5:Int)),(idx v7.1 (6:Int))],rfl⟩:(aD 8 (BitVec 32))).1.map ic).map .d)],5,[]⟩) (vM 5 [0,1,2,3,4]) zL ?_
  refine rG ?_
  obtain ⟨nU,h⟩:=gG h
  refine xS 91 (bE dV (1:Int) nU ?_)
  refine xm 18 (pI (dV+(1:Int))) ?_
  refine XK.nz ?_
  exact lb Dj ⟨(dV+(1:Int)),cr,dB,(⟨[((((((idx v7.1 (7:Int))+x_7)+(((idx v7.1 (4:Int))&&& (idx v7.1 (5:Int)))^^^((~~~(idx v7.1 (4:Int)))&&& (idx v7.1 (6:Int)))))+(idx dB.1 dV))+(idx cr.1 dV))+(x_11+((((idx v7.1 (0:Int))&&& (idx v7.1 (1:Int)))^^^((idx v7.1 (0:Int))&&& (idx v7.1 (2:Int))))^^^((idx v7.1 (1:Int))&&& (idx v7.1 (2:Int)))))),(idx v7.1 (0:Int)),(idx v7.1 (1:Int)),(idx v7.1 (2:Int)),((idx v7.1 (3:Int))+(((((idx v7.1 (7:Int))+x_7)+(((idx v7.1 (4:Int))&&& (idx v7.1 (5:Int)))^^^((~~~(idx v7.1 (4:Int)))&&& (idx v7.1 (6:Int)))))+(idx dB.1 dV))+(idx cr.1 dV))),(idx v7.1 (4:Int)),(idx v7.1 (5:Int)),(idx v7.1 (6:Int))],rfl⟩:(aD 8 (BitVec 32))),by omega,jG h,rfl⟩ (vM 5 [0,1,2,3,4])
 ·replace h:=ek h j4
  refine QW.exit zL (eP (eP (kW (cn ?_))))
  refine QW.seq ?_
  refine sR ?_
  refine xm 92 (pI (0)) ?_
  refine XK.nz ?_
  refine QW.block ?_
  refine lp (fun k σ=>∃ oO:Int,∃ v2:(aD 8 (BitVec 32)),∃ Ar:(aD 8 (BitVec 32)),k≤Dj∧run (gv h0 s1) k (.L2 oO v2 Ar)=some r∧σ=⟨bW [(2, .aR 0 0),(4, .aR 1 0),(7, .aR 2 0),(92,pI oO)],aK [.var ((v2.1.map ic).map .d), .var (((aD.rep 8 (0:BitVec 32)).1.map ic).map .d), .var ((Ar.1.map ic).map .d)],3,[]⟩) Dj ⟨0,h0,v7,Nat.le_refl _,jG h,rfl⟩ (vM 3 [0,1,4]) ?_
  rintro S9 _ ⟨oO,v2,Ar,Ta,h,rfl⟩
  obtain ⟨Ia,e9,h⟩:=aQ h;rw [gv] at h
  refine sR ?_
  refine xT 93 (cM oO (8:Int) ?_)
  refine QW.seq ?_
  refine cT (decide (oO<(8:Int))) (fun r9=>?_) (fun r9=>?_)
  ·replace h:=ej h r9
   refine sk ?_
   refine QW.seq ?_
   refine QW.block ?_
   refine sR ?_
   refine xm 94 (pI oO) ?_
   refine xz 13 (pI oO) ?_
   refine QW.region zL (PW.qX (id:=15) dG (M:=_) rfl (by kernel_rfl) ?_)
   refine kS 95 (ax (pI oO) ?_)
   obtain ⟨q8,h⟩:=gG h
   refine kS 96 (cZ oO TT.gf ?_ (h:=by exact q8))
   refine kS 97 (aW (.d (.val (.int .u32 ((idx v2.1 oO).toNat:Int)))) TT.eX ?_ (h:=fR q8))
   refine kS 98 (ax (pI oO) ?_)
   obtain ⟨oB,h⟩:=gG h
   refine kS 99 (cZ oO TT.gf ?_ (h:=by exact oB))
   refine kS 100 (aW (.d (.val (.int .u32 ((idx Ar.1 oO).toNat:Int)))) TT.eX ?_ (h:=fR oB))
   refine kS 101 (ga (idx v2.1 oO) (idx Ar.1 oO) ?_)
   obtain ⟨qI,h⟩:=gG h
   refine kS 102 (cZ oO TT.gf ?_ (h:=by exact qI))
   refine RK.st none rfl rfl (aV (((v2.put oO ((idx v2.1 oO)+(idx Ar.1 oO))).1.map ic).map .d) TT.eX ?_ (hf:=by exact uV qI) (hl:=s7 qI))
   refine RK.nil ⟨fH.comp (by rfl),(iS (cn ?_))⟩
   refine rG ?_
   obtain ⟨wY,h⟩:=gG h
   refine xS 103 (bE oO (1:Int) wY ?_)
   refine xm 92 (pI (oO+(1:Int))) ?_
   refine XK.nz ?_
   exact lb Ia ⟨(oO+(1:Int)),(v2.put oO ((idx v2.1 oO)+(idx Ar.1 oO))),Ar,by omega,jG h,rfl⟩ (vM 3 [0,1,2])
  ·replace h:=ek h r9
   refine QW.exit zL (eP (eP (kW (cn ?_))))
   refine sR ?_
   refine xA 104 (aW (.agg ((v2.1.map ic).map .d)) TT.qf ⟨.d (.agg (v2.1.map ic)),jk,?_⟩ (h:=by exact lq (by decide)))
   refine xN (aV ((v2.1.map ic).map .d) TT.qf ?_ (hn:=by exact aj _) (hf:=by exact oZ _) (hl:=by exact cE ((aj _).trans (aj _).symm)))
   refine XK.nz ?_
   refine QW.ret zL ?_
   obtain rfl:=sG h
   exact Ends.one (.inr rfl) rfl (aN.cell rfl rfl TT.qf (lq (by decide))) (jK bK) rfl
inductive J6 where
 | S
 | L1 (dR:(List UInt8)) (lM:(aD 8 (BitVec 32)))
 | L2 (dV:Int) (sI:(aD 8 (BitVec 32))) (v5:(aD 32 UInt8))
noncomputable def iy (s0:(List UInt8)):J6→Option (J6⊕(aD 32 UInt8))
 | .S=>
  ((zP).bind fun (x_1:(aD 8 (BitVec 32)))=>
  ((yw s0).bind fun (x_3:(List UInt8))=>
  some (.inl (.L1 x_3 x_1))))
 | .L1 dR lM=>
  (bif (!(dR==([]:List UInt8))) then
  gO (0≤(0:Int)∧(0:Int)≤(64:Int)∧(64:Int)≤(dR.length:Int)) (
  ((Bi lM (sub dR (0:Int) (64:Int))).bind fun (x_8:(aD 8 (BitVec 32)))=>
  gO (0≤(64:Int)∧(64:Int)≤(dR.length:Int)∧(dR.length:Int)≤(dR.length:Int)) (
  some (.inl (.L1 (sub dR (64:Int) (dR.length:Int)) x_8)))))
  else
  some (.inl (.L2 (0) lM (aD.rep 32 (0:UInt8)))))
 | .L2 dV sI v5=>
  (bif (decide (dV<(32:Int))) then
  gO ((4:Int)≠0∧bf (dV.tdiv (4:Int))) (
  gO (0≤(dV.tdiv (4:Int))∧(dV.tdiv (4:Int))<((8:Nat):Int)) (
  gO (bf ((8:Int)*(dV.tmod (4:Int)))) (
  gO (bf ((24:Int)-((8:Int)*(dV.tmod (4:Int))))) (
  gO (0≤((24:Int)-((8:Int)*(dV.tmod (4:Int))))) (
  gO (0≤dV∧dV<((32:Nat):Int)) (
  gO (bf (dV+(1:Int))) (
  some (.inl (.L2 (dV+(1:Int)) sI (v5.put dV (g7 ((qY (idx sI.1 (dV.tdiv (4:Int))) ((24:Int)-((8:Int)*(dV.tmod (4:Int))))).toNat:Int))))))))))))
  else
  some (.inr v5))
noncomputable def E9 (s0:(List UInt8)):Option (aD 32 UInt8):=gJ (iy s0) .S
theorem ML (s0:(List UInt8)) (r:(aD 32 UInt8)) (h:E9 s0=some r):cD Tryz.prog 64 [.val (sV s0)] (.agg (r.1.map aa)):=by
 refine fQ Tryz.func64 Tryz.ntmps64 TT.Vp ?_
 obtain ⟨_,h⟩:=cP h
 obtain ⟨dm,e9,h⟩:=aQ h;rw [iy] at h
 refine sR ?_
 refine xT 2 (bl (((aD.rep 32 (0:UInt8)).1.map aa).map .d) TT.H6 ?_)
 refine sR ?_
 obtain ⟨x_1,fk,h⟩:=bG h
 refine xS 7 (az (H7 _ fk) ?_)
 refine xS 3 (bl (((aD.rep 8 (0:BitVec 32)).1.map ic).map .d) TT.zO ?_)
 refine xN (aV ((x_1.1.map ic).map .d) TT.qf ?_ (hn:=by exact aj _) (hf:=by exact oZ _) (hl:=by exact cE ((aj _).trans (aj _).symm)))
 refine XK.nz ?_
 refine QW.seq ?_
 refine sR ?_
 refine xm 8 (pS s0) ?_
 obtain ⟨x_3,ri,h⟩:=bG h
 refine xS 9 (az (Gp s0 _ ri) ?_)
 refine xz 4 (pS x_3) ?_
 refine QW.block ?_
 refine lp (fun k σ=>∃ dR:(List UInt8),∃ lM:(aD 8 (BitVec 32)),k≤dm∧run (iy s0) k (.L1 dR lM)=some r∧σ=⟨bW [(2, .aR 0 0),(3, .aR 1 0),(4,pS dR)],aK [.var (((aD.rep 32 (0:UInt8)).1.map aa).map .d), .var ((lM.1.map ic).map .d)],2,[]⟩) dm ⟨x_3,x_1,Nat.le_refl _,jG h,rfl⟩ (vM 2 [0,1]) ?_
 rintro MI _ ⟨dR,lM,MJ,h,rfl⟩
 obtain ⟨Dj,e9,h⟩:=aQ h;rw [iy] at h
 refine QW.seq ?_
 refine sR ?_
 refine xm 10 (pS dR) ?_
 refine xT 11 (qq dR ([]:List UInt8) ?_)
 refine cT (!(dR==([]:List UInt8))) (fun j4=>?_) (fun j4=>?_)
 ·replace h:=ej h j4
  refine sk ?_
  refine QW.seq ?_
  refine QW.block ?_
  refine QW.region zL (PW.qX (id:=5) dG (M:=_) rfl (by kernel_rfl) ?_)
  refine RK.U (some 14) rfl rfl (aW (.agg ((lM.1.map ic).map .d)) TT.qf ⟨.d (.agg (lM.1.map ic)),jk,?_⟩ (h:=by exact lq (by decide)))
  refine kS 15 (ax (pS dR) ?_)
  obtain ⟨pJ,h⟩:=gG h
  refine kS 16 (p6 dR (0:Int) (64:Int) TT.bh pJ ?_)
  obtain ⟨x_8,Eh,h⟩:=bG h
  refine kS 17 (az (Jj lM (sub dR (0:Int) (64:Int)) _ Eh) ?_)
  refine RK.st none rfl rfl (aV ((x_8.1.map ic).map .d) TT.qf ?_ (hn:=by exact aj _) (hf:=by exact oZ _) (hl:=by exact cE ((aj _).trans (aj _).symm)))
  refine RK.nil ⟨fH.comp (by rfl),(iS (cn ?_))⟩
  refine rG ?_
  refine xm 12 (pS dR) ?_
  obtain ⟨nT,h⟩:=gG h
  refine xS 13 (p6 dR (64:Int) (dR.length:Int) TT.bh nT ?_)
  refine xz 4 (pS (sub dR (64:Int) (dR.length:Int))) ?_
  exact lb Dj ⟨(sub dR (64:Int) (dR.length:Int)),x_8,by omega,jG h,rfl⟩ (vM 2 [0,1])
 ·replace h:=ek h j4
  refine QW.exit zL (eP (eP (kW (cn ?_))))
  refine sR ?_
  refine xT 5 (bl (((aD.rep 32 (0:UInt8)).1.map aa).map .d) TT.H6 ?_)
  refine QW.seq ?_
  refine sR ?_
  refine xm 18 (pI (0)) ?_
  refine XK.nz ?_
  refine QW.block ?_
  refine lp (fun k σ=>∃ dV:Int,∃ sI:(aD 8 (BitVec 32)),∃ v5:(aD 32 UInt8),k≤Dj∧run (iy s0) k (.L2 dV sI v5)=some r∧σ=⟨bW [(2, .aR 0 0),(3, .aR 1 0),(5, .aR 2 0),(18,pI dV)],aK [.var (((aD.rep 32 (0:UInt8)).1.map aa).map .d), .var ((sI.1.map ic).map .d), .var ((v5.1.map aa).map .d)],3,[]⟩) Dj ⟨0,lM,(aD.rep 32 (0:UInt8)),Nat.le_refl _,jG h,rfl⟩ (vM 3 [0,1,2]) ?_
  rintro aa0 _ ⟨dV,sI,v5,aa1,h,rfl⟩
  obtain ⟨Zk,e9,h⟩:=aQ h;rw [iy] at h
  refine sR ?_
  refine xT 19 (cM dV (32:Int) ?_)
  refine QW.seq ?_
  refine cT (decide (dV<(32:Int))) (fun OB=>?_) (fun OB=>?_)
  ·replace h:=ej h OB
   refine sk ?_
   refine QW.seq ?_
   refine QW.block ?_
   refine sR ?_
   refine xm 20 (pI dV) ?_
   refine xz 6 (pI dV) ?_
   refine rG ?_
   refine xm 21 (pI dV) ?_
   refine xm 22 (pI dV) ?_
   obtain ⟨nU,h⟩:=gG h
   refine xS 23 (K7 dV (4:Int) nU ?_)
   obtain ⟨tc,h⟩:=gG h
   refine xS 24 (cZ (dV.tdiv (4:Int)) TT.gf ?_ (h:=by exact tc))
   refine xS 25 (aW (.d (.val (.int .u32 ((idx sI.1 (dV.tdiv (4:Int))).toNat:Int)))) TT.eX ?_ (h:=fR tc))
   refine xm 26 (pI dV) ?_
   refine xS 27 (uH dV (4:Int) ?_)
   obtain ⟨uY,h⟩:=gG h
   refine xS 28 (zC (8:Int) (dV.tmod (4:Int)) uY ?_)
   obtain ⟨q8,h⟩:=gG h
   refine xS 29 (mZ (24:Int) ((8:Int)*(dV.tmod (4:Int))) q8 ?_)
   obtain ⟨oB,h⟩:=gG h
   refine xS 30 (B3 (idx sI.1 (dV.tdiv (4:Int))) ((24:Int)-((8:Int)*(dV.tmod (4:Int)))) ?_ (h:=by exact oB))
   refine xS 31 (oY ((qY (idx sI.1 (dV.tdiv (4:Int))) ((24:Int)-((8:Int)*(dV.tmod (4:Int))))).toNat:Int) TT.w5 TT.dw ?_)
   obtain ⟨qI,h⟩:=gG h
   refine xS 32 (cZ dV TT.J0 ?_ (h:=by exact qI))
   refine xN (aV (((v5.put dV (g7 ((qY (idx sI.1 (dV.tdiv (4:Int))) ((24:Int)-((8:Int)*(dV.tmod (4:Int))))).toNat:Int))).1.map aa).map .d) TT.l6 ?_ (hf:=by exact uV qI) (hl:=s7 qI))
   refine XK.nil (iS (cn ?_))
   refine QW.view (s':=⟨bW [(2, .aR 0 0),(3, .aR 1 0),(5, .aR 2 0),(18,pI dV)],aK [.var (((aD.rep 32 (0:UInt8)).1.map aa).map .d), .var ((sI.1.map ic).map .d), .var (((v5.put dV (g7 ((qY (idx sI.1 (dV.tdiv (4:Int))) ((24:Int)-((8:Int)*(dV.tmod (4:Int))))).toNat:Int))).1.map aa).map .d)],3,[]⟩) (vM 3 [0,1,2]) zL ?_
   refine rG ?_
   obtain ⟨wY,h⟩:=gG h
   refine xS 33 (bE dV (1:Int) wY ?_)
   refine xm 18 (pI (dV+(1:Int))) ?_
   refine XK.nz ?_
   exact lb Zk ⟨(dV+(1:Int)),sI,(v5.put dV (g7 ((qY (idx sI.1 (dV.tdiv (4:Int))) ((24:Int)-((8:Int)*(dV.tmod (4:Int))))).toNat:Int))),by omega,jG h,rfl⟩ (vM 3 [0,1,2])
  ·replace h:=ek h OB
   refine QW.exit zL (eP (eP (kW (cn ?_))))
   refine sR ?_
   refine xA 34 (aW (.agg ((v5.1.map aa).map .d)) TT.HZ ⟨.d (.agg (v5.1.map aa)),jk,?_⟩ (h:=by exact lq (by decide)))
   refine xN (aV ((v5.1.map aa).map .d) TT.HZ ?_ (hn:=by exact aj _) (hf:=by exact oZ _) (hl:=by exact cE ((aj _).trans (aj _).symm)))
   refine XK.nz ?_
   refine QW.ret zL ?_
   obtain rfl:=sG h
   exact Ends.one (.inr rfl) rfl (aN.cell rfl rfl TT.HZ (lq (by decide))) (jK bK) rfl
noncomputable def Bj (x0:(aD 32 UInt8)):Option (List UInt8):=
  some (x0.1)
theorem Jk (x0:(aD 32 UInt8)) (r:(List UInt8)) (h:Bj x0=some r):cD Tryz.prog 63 [.agg (x0.1.map aa)] (.val (sV r)):=by
 refine fQ Tryz.func63 Tryz.ntmps63 TT.Vo ?_
 unfold Bj at h
 refine sR ?_
 refine XK.fz (some 1) rfl rfl (eE (x0.1.map aa) rfl rfl rfl rfl bK ?_)
 refine xz 2 (pS ([]:List UInt8)) ?_
 refine sR ?_
 refine xS 3 (EZ x0 (en:=aa) TT.Oy TT.J0 (Pre.all _) ?_ (hf:=by exact JN _ (fun _=>rfl)))
 refine xS 4 (nk x0.1 TT.bt TT.dw TT.bh ?_)
 refine xz 2 (pS (x0.1)) ?_
 refine QW.ret zL ?_
 obtain rfl:=sO h
 exact eO
noncomputable def w7 (nA:(List UInt8)):Option (List UInt8):=
  (bif (decide ((nA.length:Int)<(32:Int))) then
  some nA
  else
  ((E9 nA).bind fun (x_2:(aD 32 UInt8))=>
  ((Bj x_2).bind fun (x_4:(List UInt8))=>
  some x_4)))
theorem Lj (nA:(List UInt8)) (r:(List UInt8)) (h:w7 nA=some r):cD Tryz.prog 35 [.val (sV nA)] (.val (sV r)):=by
 refine fQ Tryz.func35 Tryz.ntmps35 TT.Vn ?_
 unfold w7 at h
 refine sR ?_
 refine xz 2 (pS ([]:List UInt8)) ?_
 refine QW.seq ?_
 refine sR ?_
 refine xm 3 (pS nA) ?_
 refine xS 4 (eU nA TT.bh ?_)
 refine xT 5 (cM (nA.length:Int) (32:Int) ?_)
 refine cT (decide ((nA.length:Int)<(32:Int))) (fun c8=>?_) (fun c8=>?_)
 ·replace h:=bT h c8
  refine sR ?_
  refine xm 6 (pS nA) ?_
  refine xz 2 (pS nA) ?_
  refine QW.ret zL (dc ?_)
  obtain rfl:=sO h
  exact eO
 ·replace h:=bF h c8
  refine sk ?_
  refine sR ?_
  refine xm 7 (pS nA) ?_
  obtain ⟨x_2,nS,h⟩:=bO h
  refine xS 8 (az (ML nA _ nS) ?_)
  obtain ⟨x_4,mQ,h⟩:=bO h
  refine xS 9 (az (Jk x_2 _ mQ) ?_)
  refine xz 2 (pS x_4) ?_
  refine QW.ret zL ?_
  obtain rfl:=sO h
  exact eO
end Go.Proofs.YtlfjfoknbjcncaaGreat.K
