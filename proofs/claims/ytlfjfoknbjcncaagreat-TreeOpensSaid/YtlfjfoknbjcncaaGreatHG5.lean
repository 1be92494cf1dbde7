/- Package tree: what it reckons. -/
import Derived.Test.YtlfjfoknbjcncaaGreatHG4
import Derived.KernelRfl
namespace Go.Proofs.YtlfjfoknbjcncaaGreat.K
open Go Go.RowKit
set_option linter.unusedSimpArgs false
set_option linter.unusedVariables false
set_option maxRecDepth 20000
set_option maxHeartbeats 4000000
namespace TT
theorem kE:nR Tryz.prog 73=some (16,1,false):=by kernel_rfl
theorem ru:sv Tryz.prog 25=some ([Value.pointer none], .inl [(0,1)]):=by kernel_rfl
theorem MM:sv Tryz.prog 73=some ([Value.pointer none,Value.pointer none,Value.pointer none,Value.pointer none,Value.pointer none,Value.pointer none,Value.pointer none,Value.pointer none,Value.pointer none,Value.pointer none,Value.pointer none,Value.pointer none,Value.pointer none,Value.pointer none,Value.pointer none,Value.pointer none], .inr 1):=by kernel_rfl
theorem Bk:sv Tryz.prog 75=some ([Value.int IntKind.i64 0,Value.slice none 0 0,Value.string ⟨#[]⟩,Value.pointer none,Value.pointer none,Value.pointer none,Value.pointer none,Value.pointer none,Value.pointer none,Value.pointer none,Value.pointer none,Value.pointer none,Value.pointer none,Value.pointer none,Value.pointer none,Value.pointer none,Value.pointer none,Value.pointer none,Value.pointer none,Value.string ⟨#[]⟩], .inl [(0,1),(1,1),(2,1),(3,16),(19,1)]):=by kernel_rfl
theorem Ib:sv Tryz.prog 94=some ([], .inl []):=by kernel_rfl
theorem Dp:e8 Tryz.prog 25=true:=by kernel_rfl
theorem iK:n5 Tryz.prog 25 0=some (0,1,false):=by kernel_rfl
theorem Dq:n5 Tryz.prog 43 0=some (0,32,true):=by kernel_rfl
theorem zR:n5 Tryz.prog 43 1=some (32,1,false):=by kernel_rfl
theorem kK:n5 Tryz.prog 75 0=some (0,1,false):=by kernel_rfl
theorem j8:n5 Tryz.prog 75 1=some (1,1,false):=by kernel_rfl
theorem zS:n5 Tryz.prog 75 2=some (2,1,false):=by kernel_rfl
theorem iX:n5 Tryz.prog 75 3=some (3,16,true):=by kernel_rfl
theorem OC:n5 Tryz.prog 75 4=some (19,1,false):=by kernel_rfl
theorem Vv:Tryz.f11.results.toList=[.tmp 4, .cell 5 34]:=rfl
theorem Vw:Tryz.f12.results.toList=[.cell 6 25, .cell 7 34]:=rfl
theorem Vx:Tryz.f14.results.toList=[.tmp 2]:=rfl
theorem Vy:Tryz.f18.results.toList=[.cell 2 25]:=rfl
theorem Vz:Tryz.f19.results.toList=[.tmp 2]:=rfl
theorem VA:Tryz.f21.results.toList=[.cell 2 58, .tmp 3]:=rfl
theorem VB:Tryz.f23.results.toList=[.cell 4 25, .tmp 5]:=rfl
theorem VC:Tryz.f25.results.toList=[]:=rfl
theorem VD:Tryz.f26.results.toList=[.tmp 4]:=rfl
theorem VE:Tryz.f28.results.toList=[.tmp 4, .tmp 5]:=rfl
theorem VF:Tryz.f29.results.toList=[.tmp 6]:=rfl
theorem VG:Tryz.f31.results.toList=[.cell 2 58]:=rfl
theorem VH:Tryz.f44.results.toList=[.tmp 4]:=rfl
theorem VI:Tryz.f45.results.toList=[.tmp 2]:=rfl
theorem VJ:Tryz.f46.results.toList=[.tmp 4]:=rfl
theorem VK:Tryz.f48.results.toList=[.tmp 4]:=rfl
theorem VL:Tryz.f49.results.toList=[.tmp 8]:=rfl
theorem VM:Tryz.f50.results.toList=[.tmp 4]:=rfl
theorem XM:Tryz.f8.results.toList=[.cell 4 25, .cell 5 34]:=rfl
theorem XN:Tryz.f9.results.toList=[.tmp 2]:=rfl
theorem MN:qH Tryz.prog 59=some (1,8):=by kernel_rfl
theorem MO:qG Tryz.prog 26=some (33,48,true):=by kernel_rfl
theorem Ic:qG Tryz.prog 59=some (1,8,true):=by kernel_rfl
theorem gF:jU Tryz.prog 23=some (false,1):=by kernel_rfl
theorem eI:jU Tryz.prog 25=some (true,1):=by kernel_rfl
theorem zT:jU Tryz.prog 43=some (true,33):=by kernel_rfl
theorem zU:jU Tryz.prog 73=some (true,16):=by kernel_rfl
theorem PD:jU Tryz.prog 75=some (true,20):=by kernel_rfl
theorem sJ:Program.underlying Tryz.prog 23=some (.pointer 75):=by kernel_rfl
theorem Fa:Program.underlying Tryz.prog 26=some (.slice 43):=by kernel_rfl
theorem uw:Program.underlying Tryz.prog 59=some (.slice 25):=by kernel_rfl
theorem nc:m7 Tryz.prog 25=some [Value.pointer none]:=by kernel_rfl
theorem J7:m7 Tryz.prog 43=some [Value.int IntKind.u8 0,Value.int IntKind.u8 0,Value.int IntKind.u8 0,Value.int IntKind.u8 0,Value.int IntKind.u8 0,Value.int IntKind.u8 0,Value.int IntKind.u8 0,Value.int IntKind.u8 0,Value.int IntKind.u8 0,Value.int IntKind.u8 0,Value.int IntKind.u8 0,Value.int IntKind.u8 0,Value.int IntKind.u8 0,Value.int IntKind.u8 0,Value.int IntKind.u8 0,Value.int IntKind.u8 0,Value.int IntKind.u8 0,Value.int IntKind.u8 0,Value.int IntKind.u8 0,Value.int IntKind.u8 0,Value.int IntKind.u8 0,Value.int IntKind.u8 0,Value.int IntKind.u8 0,Value.int IntKind.u8 0,Value.int IntKind.u8 0,Value.int IntKind.u8 0,Value.int IntKind.u8 0,Value.int IntKind.u8 0,Value.int IntKind.u8 0,Value.int IntKind.u8 0,Value.int IntKind.u8 0,Value.int IntKind.u8 0,Value.string ⟨#[]⟩]:=by kernel_rfl
theorem QJ:m7 Tryz.prog 73=some [Value.pointer none,Value.pointer none,Value.pointer none,Value.pointer none,Value.pointer none,Value.pointer none,Value.pointer none,Value.pointer none,Value.pointer none,Value.pointer none,Value.pointer none,Value.pointer none,Value.pointer none,Value.pointer none,Value.pointer none,Value.pointer none]:=by kernel_rfl
theorem QK:m7 Tryz.prog 75=some [Value.int IntKind.i64 0,Value.slice none 0 0,Value.string ⟨#[]⟩,Value.pointer none,Value.pointer none,Value.pointer none,Value.pointer none,Value.pointer none,Value.pointer none,Value.pointer none,Value.pointer none,Value.pointer none,Value.pointer none,Value.pointer none,Value.pointer none,Value.pointer none,Value.pointer none,Value.pointer none,Value.pointer none,Value.string ⟨#[]⟩]:=by kernel_rfl
end TT
set_option maxRecDepth 20000 in
theorem kZ (e0:Int):yQ Tryz.prog 25 [.aR 0 0] [.var [pI e0]] none [.var [pI e0]]:=by
 refine yQ.QB (r:= .tuple []) none Tryz.func25 rfl rfl rfl rfl rfl (by simp [Tryz.ntmps25]) (by simp [Tryz.ntmps25]) ?_
 rw [Tryz.ntmps25,TT.VC]
 refine QW.view (s':=⟨bW [(0, .aR 0 0),(2, .d (.val .nilIface))],aK [.var [pI e0]],1,[]⟩) (vM 1 [0]) bL ?_
 refine QW.block ?_
 refine mK ?_
 refine XK.pr (v:=pB true) (some 5) rfl rfl (HD rfl TT.E4 rfl) ?_
 refine XK.nz ?_
 refine QW.Hl rfl ?_
 refine QW.skip bL (iS ?_)
 exact Dd.none (s':=⟨bW [],aK [.var [pI e0]],1,[]⟩) (.inl rfl) (vM 1 [0]) rfl rfl rfl
noncomputable def l8 (fB:(List UInt8)) (jr:(List UInt8)):Option af:=
  ((cA fB).bind fun (x_1:(List UInt8))=>
  some (af.of (⟨1,x_1,jr,(aD.rep 16 af.nil),([]:List UInt8)⟩:part)))
theorem qi (fB:(List UInt8)) (jr:(List UInt8)) (r:af) (h:l8 fB jr=some r):cD Tryz.prog 48 [.slice (fB.map aa), .val (sV jr)] (ai r):=by
 refine fQ Tryz.func48 Tryz.ntmps48 TT.VK ?_
 unfold l8 at h
 refine sR ?_
 refine xz 4 (.d (ai (af.nil))) ?_
 refine sR ?_
 refine xm 5 (.d (.slice (fB.map aa))) ?_
 obtain ⟨x_1,fk,h⟩:=bO h
 refine xS 6 (az (gb fB _ fk) ?_)
 refine xm 7 (pS jr) ?_
 refine xS 8 (dX (.agg (([pI (1), .d (.slice (x_1.map aa)),pS jr])++((((aD.rep 16 af.nil).1.map ai).map PV.d)++([pS ([]:List UInt8)])))) rfl TT.Bk (cI rfl (bY (p:=pI (1)) (cells:=(([pI (0), .full (([]:(List UInt8)).map aa),pS ([]:List UInt8)])++((((aD.rep 16 af.nil).1.map ai).map PV.d)++([pS ([]:List UInt8)])))) (cells':=(([pI (1), .full (([]:(List UInt8)).map aa),pS ([]:List UInt8)])++((((aD.rep 16 af.nil).1.map ai).map PV.d)++([pS ([]:List UInt8)])))) rfl rfl rfl (bz (ay (A:=[pI (0), .full (([]:(List UInt8)).map aa),pS ([]:List UInt8)]) (b:=17) rfl (ay (A:=((aD.rep 16 af.nil).1.map ai).map PV.d) (b:=1) (aj _) rfl rfl) rfl) bL) (eJ 0 (by first | exact Nat.le_of_ble_eq_true rfl | simp) rfl) (bY (p:= .d (.slice (x_1.map aa))) (cells:=(([pI (1), .full (([]:(List UInt8)).map aa),pS ([]:List UInt8)])++((((aD.rep 16 af.nil).1.map ai).map PV.d)++([pS ([]:List UInt8)])))) (cells':=(([pI (1), .d (.slice (x_1.map aa)),pS ([]:List UInt8)])++((((aD.rep 16 af.nil).1.map ai).map PV.d)++([pS ([]:List UInt8)])))) rfl rfl rfl (bz (ay (A:=[pI (1), .full (([]:(List UInt8)).map aa),pS ([]:List UInt8)]) (b:=17) rfl (ay (A:=((aD.rep 16 af.nil).1.map ai).map PV.d) (b:=1) (aj _) rfl rfl) rfl) bL) (eJ 1 (by first | exact Nat.le_of_ble_eq_true rfl | simp) rfl) (bY (p:=pS jr) (cells:=(([pI (1), .d (.slice (x_1.map aa)),pS ([]:List UInt8)])++((((aD.rep 16 af.nil).1.map ai).map PV.d)++([pS ([]:List UInt8)])))) (cells':=(([pI (1), .d (.slice (x_1.map aa)),pS jr])++((((aD.rep 16 af.nil).1.map ai).map PV.d)++([pS ([]:List UInt8)])))) rfl rfl rfl (bz (ay (A:=[pI (1), .d (.slice (x_1.map aa)),pS ([]:List UInt8)]) (b:=17) rfl (ay (A:=((aD.rep 16 af.nil).1.map ai).map PV.d) (b:=1) (aj _) rfl rfl) rfl) bL) (eJ 2 (by first | exact Nat.le_of_ble_eq_true rfl | simp) rfl) cH)))) ?_)
 refine XK.fx (some 9) rfl rfl (eE (gU (⟨1,x_1,jr,(aD.rep 16 af.nil),([]:List UInt8)⟩:part)) rfl rfl rfl rfl (ia rfl (ia bK rfl)) ⟨_,fX.m5 (sA (⟨1,x_1,jr,(aD.rep 16 af.nil),([]:List UInt8)⟩:part)) rfl,?_⟩)
 refine xz 4 (.d (ai (af.of (⟨1,x_1,jr,(aD.rep 16 af.nil),([]:List UInt8)⟩:part)))) ?_
 refine QW.ret zL ?_
 obtain rfl:=sO h
 exact eO
noncomputable def mq (fB:(List UInt8)) (p1:af):Option af:=
  (bif (decide ((fB.length:Int)=(0:Int))) then
  some p1
  else
  ((cA fB).bind fun (x_2:(List UInt8))=>
  some (af.of (⟨2,x_2,([]:List UInt8),(⟨[p1,af.nil,af.nil,af.nil,af.nil,af.nil,af.nil,af.nil,af.nil,af.nil,af.nil,af.nil,af.nil,af.nil,af.nil,af.nil],rfl⟩:(aD 16 af)),([]:List UInt8)⟩:part))))
theorem ry (fB:(List UInt8)) (p1:af) (r:af) (h:mq fB p1=some r):cD Tryz.prog 50 [.slice (fB.map aa),ai p1] (ai r):=by
 refine fQ Tryz.func50 Tryz.ntmps50 TT.VM ?_
 unfold mq at h
 refine sR ?_
 refine xz 4 (.d (ai (af.nil))) ?_
 refine QW.seq ?_
 refine sR ?_
 refine xm 5 (.d (.slice (fB.map aa))) ?_
 refine xS 6 (cX aa fB TT.bt ?_)
 refine xT 7 (dj (fB.length:Int) (0:Int) ?_)
 refine cT (decide ((fB.length:Int)=(0:Int))) (fun c8=>?_) (fun c8=>?_)
 ·replace h:=bT h c8
  refine sR ?_
  refine xm 8 (.d (ai p1)) ?_
  refine xz 4 (.d (ai p1)) ?_
  refine QW.ret zL (dc ?_)
  obtain rfl:=sO h
  exact eO
 ·replace h:=bF h c8
  refine sk ?_
  refine sR ?_
  refine xm 9 (.d (.slice (fB.map aa))) ?_
  obtain ⟨x_2,nS,h⟩:=bO h
  refine xS 10 (az (gb fB _ nS) ?_)
  refine xm 11 (.d (ai p1)) ?_
  refine xA 12 (wz (.agg [.d (ai p1), .d (ai (af.nil)), .d (ai (af.nil)), .d (ai (af.nil)), .d (ai (af.nil)), .d (ai (af.nil)), .d (ai (af.nil)), .d (ai (af.nil)), .d (ai (af.nil)), .d (ai (af.nil)), .d (ai (af.nil)), .d (ai (af.nil)), .d (ai (af.nil)), .d (ai (af.nil)), .d (ai (af.nil)), .d (ai (af.nil))]) rfl (by rw [TT.MM];simp [lX,lW,placeOf,pN,aH,PV.ir,PV.iF,Value.oneCell',m4,oF,qP,List.all,p4,bW,AS,ym,fE,Gh,ai]) (by rw [TT.MM];rfl) ⟨.d (.agg ((⟨[p1,af.nil,af.nil,af.nil,af.nil,af.nil,af.nil,af.nil,af.nil,af.nil,af.nil,af.nil,af.nil,af.nil,af.nil,af.nil],rfl⟩:(aD 16 af)).1.map ai)),(fX.cN rfl),?_⟩)
  refine xS 13 (dX (.agg (([pI (2), .d (.slice (x_2.map aa)),pS ([]:List UInt8)])++((((⟨[p1,af.nil,af.nil,af.nil,af.nil,af.nil,af.nil,af.nil,af.nil,af.nil,af.nil,af.nil,af.nil,af.nil,af.nil,af.nil],rfl⟩:(aD 16 af)).1.map ai).map PV.d)++([pS ([]:List UInt8)])))) rfl TT.Bk (cI rfl (bY (p:=pI (2)) (cells:=(([pI (0), .full (([]:(List UInt8)).map aa),pS ([]:List UInt8)])++((((aD.rep 16 af.nil).1.map ai).map PV.d)++([pS ([]:List UInt8)])))) (cells':=(([pI (2), .full (([]:(List UInt8)).map aa),pS ([]:List UInt8)])++((((aD.rep 16 af.nil).1.map ai).map PV.d)++([pS ([]:List UInt8)])))) rfl rfl rfl (bz (ay (A:=[pI (0), .full (([]:(List UInt8)).map aa),pS ([]:List UInt8)]) (b:=17) rfl (ay (A:=((aD.rep 16 af.nil).1.map ai).map PV.d) (b:=1) (aj _) rfl rfl) rfl) bL) (eJ 0 (by first | exact Nat.le_of_ble_eq_true rfl | simp) rfl) (bY (p:= .d (.slice (x_2.map aa))) (cells:=(([pI (2), .full (([]:(List UInt8)).map aa),pS ([]:List UInt8)])++((((aD.rep 16 af.nil).1.map ai).map PV.d)++([pS ([]:List UInt8)])))) (cells':=(([pI (2), .d (.slice (x_2.map aa)),pS ([]:List UInt8)])++((((aD.rep 16 af.nil).1.map ai).map PV.d)++([pS ([]:List UInt8)])))) rfl rfl rfl (bz (ay (A:=[pI (2), .full (([]:(List UInt8)).map aa),pS ([]:List UInt8)]) (b:=17) rfl (ay (A:=((aD.rep 16 af.nil).1.map ai).map PV.d) (b:=1) (aj _) rfl rfl) rfl) bL) (eJ 1 (by first | exact Nat.le_of_ble_eq_true rfl | simp) rfl) (bY (p:= .d (.agg ((⟨[p1,af.nil,af.nil,af.nil,af.nil,af.nil,af.nil,af.nil,af.nil,af.nil,af.nil,af.nil,af.nil,af.nil,af.nil,af.nil],rfl⟩:(aD 16 af)).1.map ai))) (cells:=(([pI (2), .d (.slice (x_2.map aa)),pS ([]:List UInt8)])++((((aD.rep 16 af.nil).1.map ai).map PV.d)++([pS ([]:List UInt8)])))) (cells':=(([pI (2), .d (.slice (x_2.map aa)),pS ([]:List UInt8)])++((((⟨[p1,af.nil,af.nil,af.nil,af.nil,af.nil,af.nil,af.nil,af.nil,af.nil,af.nil,af.nil,af.nil,af.nil,af.nil,af.nil],rfl⟩:(aD 16 af)).1.map ai).map PV.d)++([pS ([]:List UInt8)])))) rfl rfl (show (((⟨[p1,af.nil,af.nil,af.nil,af.nil,af.nil,af.nil,af.nil,af.nil,af.nil,af.nil,af.nil,af.nil,af.nil,af.nil,af.nil],rfl⟩:(aD 16 af)).1.map ai).map PV.d).length=_ from aj _) (bz (ay (A:=[pI (2), .d (.slice (x_2.map aa)),pS ([]:List UInt8)]) (b:=17) rfl (ay (A:=((aD.rep 16 af.nil).1.map ai).map PV.d) (b:=1) (aj _) rfl rfl) rfl) bL) (qt 3 0 rfl (HF (aj _) (aj _))) cH)))) ?_)
  refine XK.fx (some 14) rfl rfl (eE (gU (⟨2,x_2,([]:List UInt8),(⟨[p1,af.nil,af.nil,af.nil,af.nil,af.nil,af.nil,af.nil,af.nil,af.nil,af.nil,af.nil,af.nil,af.nil,af.nil,af.nil],rfl⟩:(aD 16 af)),([]:List UInt8)⟩:part)) rfl rfl rfl rfl (ia rfl (ia bK rfl)) ⟨_,fX.m5 (sA (⟨2,x_2,([]:List UInt8),(⟨[p1,af.nil,af.nil,af.nil,af.nil,af.nil,af.nil,af.nil,af.nil,af.nil,af.nil,af.nil,af.nil,af.nil,af.nil,af.nil],rfl⟩:(aD 16 af)),([]:List UInt8)⟩:part)) rfl,?_⟩)
  refine xz 4 (.d (ai (af.of (⟨2,x_2,([]:List UInt8),(⟨[p1,af.nil,af.nil,af.nil,af.nil,af.nil,af.nil,af.nil,af.nil,af.nil,af.nil,af.nil,af.nil,af.nil,af.nil,af.nil],rfl⟩:(aD 16 af)),([]:List UInt8)⟩:part)))) ?_
  refine QW.ret zL ?_
  obtain rfl:=sO h
  exact eO
noncomputable def nB (p0:af) (aP:(List UInt8)) (js:(List UInt8)) (n3:Int):Option af:=
  gO (0≤n3∧n3<(aP.length:Int)) (
  gO (bf (n3+(1:Int))) (
  gO (0≤(n3+(1:Int))∧(n3+(1:Int))≤(aP.length:Int)∧(aP.length:Int)≤(aP.length:Int)) (
  ((l8 (sub aP (n3+(1:Int)) (aP.length:Int)) js).bind fun (x_4:af)=>
  gO (0≤((idx aP n3).toNat:Int)∧((idx aP n3).toNat:Int)<((16:Nat):Int)) (
  gO (p0.isNil=false) (
  gO (0≤n3∧n3<(((p0.at).bA).length:Int)) (
  ((gO (p0.isNil=false) (
  (bif (decide (((p0.at).aX)=(1:Int))) then
  gO (p0.isNil=false) (
  gO (bf (n3+(1:Int))) (
  gO (0≤(n3+(1:Int))∧(n3+(1:Int))≤(((p0.at).bA).length:Int)∧(((p0.at).bA).length:Int)≤(((p0.at).bA).length:Int)) (
  gO (p0.isNil=false) (
  ((l8 (sub ((p0.at).bA) (n3+(1:Int)) (((p0.at).bA).length:Int)) ((p0.at).dU)).bind fun (x_15:af)=>
  gO (0≤((idx ((p0.at).bA) n3).toNat:Int)∧((idx ((p0.at).bA) n3).toNat:Int)<((16:Nat):Int)) (
  some (((aD.rep 16 af.nil).put ((idx aP n3).toNat:Int) x_4).put ((idx ((p0.at).bA) n3).toNat:Int) x_15)))))))
  else
  gO (p0.isNil=false) (
  gO (bf (n3+(1:Int))) (
  gO (0≤(n3+(1:Int))∧(n3+(1:Int))≤(((p0.at).bA).length:Int)∧(((p0.at).bA).length:Int)≤(((p0.at).bA).length:Int)) (
  gO (p0.isNil=false) (
  ((mq (sub ((p0.at).bA) (n3+(1:Int)) (((p0.at).bA).length:Int)) (idx ((p0.at).cg).1 (0:Int))).bind fun (x_22:af)=>
  gO (0≤((idx ((p0.at).bA) n3).toNat:Int)∧((idx ((p0.at).bA) n3).toNat:Int)<((16:Nat):Int)) (
  some (((aD.rep 16 af.nil).put ((idx aP n3).toNat:Int) x_4).put ((idx ((p0.at).bA) n3).toNat:Int) x_22))))))))):Option (aD 16 af)).bind fun (F3:(aD 16 af))=>
  gO (0≤(0:Int)∧(0:Int)≤n3∧n3≤(aP.length:Int)) (
  ((mq (sub aP (0:Int) n3) (af.of (⟨3,([]:(List UInt8)),([]:List UInt8),F3,([]:List UInt8)⟩:part))).bind fun (sK:af)=>
  some sK))))))))))
theorem Ct (p0:af) (aP:(List UInt8)) (js:(List UInt8)) (n3:Int) (r:af) (h:nB p0 aP js n3=some r):cD Tryz.prog 49 [ai p0, .slice (aP.map aa), .val (sV js), .val (.int .i64 n3)] (ai r):=by
 refine fQ Tryz.func49 Tryz.ntmps49 TT.VL ?_
 unfold nB at h
 refine sR ?_
 refine xz 8 (.d (ai (af.nil))) ?_
 refine sR ?_
 refine xS 11 (dX (.agg (([pI (3), .full (([]:(List UInt8)).map aa),pS ([]:List UInt8)])++((((aD.rep 16 af.nil).1.map ai).map PV.d)++([pS ([]:List UInt8)])))) rfl TT.Bk (cI rfl (bY (p:=pI (3)) (cells:=(([pI (0), .full (([]:(List UInt8)).map aa),pS ([]:List UInt8)])++((((aD.rep 16 af.nil).1.map ai).map PV.d)++([pS ([]:List UInt8)])))) (cells':=(([pI (3), .full (([]:(List UInt8)).map aa),pS ([]:List UInt8)])++((((aD.rep 16 af.nil).1.map ai).map PV.d)++([pS ([]:List UInt8)])))) rfl rfl rfl (bz (ay (A:=[pI (0), .full (([]:(List UInt8)).map aa),pS ([]:List UInt8)]) (b:=17) rfl (ay (A:=((aD.rep 16 af.nil).1.map ai).map PV.d) (b:=1) (aj _) rfl rfl) rfl) bL) (eJ 0 (by first | exact Nat.le_of_ble_eq_true rfl | simp) rfl) cH)) ?_)
 refine xS 12 (Ht (([pI (3), .full (([]:(List UInt8)).map aa),pS ([]:List UInt8)])++((((aD.rep 16 af.nil).1.map ai).map PV.d)++([pS ([]:List UInt8)]))) ?_)
 refine xz 9 (.aR 0 0) ?_
 refine QW.seq ?_
 refine QW.region zL (PW.qX (id:=2) dG (M:=_) rfl (by kernel_rfl) ?_)
 refine kS 13 (ax (.aR 0 0) ?_)
 refine kS 14 (ax (.d (.slice (aP.map aa))) ?_)
 refine kS 15 (ax (pI n3) ?_)
 obtain ⟨oK,h⟩:=bq h
 refine kS 16 (bX aP n3 TT.fy fl oK ?_)
 refine kS 17 (aA (.val (.int .u8 ((idx aP n3).toNat:Int))) TT.l6 ?_)
 refine kS 18 (ax (.d (.slice (aP.map aa))) ?_)
 refine kS 19 (ax (pI n3) ?_)
 obtain ⟨yp,h⟩:=bq h
 refine kS 20 (bE n3 (1:Int) yp ?_)
 obtain ⟨eD,h⟩:=bq h
 refine kS 21 (p7 aP (n3+(1:Int)) (aP.length:Int) TT.bt TT.fy eD ?_)
 refine kS 22 (ax (pS js) ?_)
 obtain ⟨x_4,mQ,h⟩:=bO h
 refine kS 23 (az (qi (sub aP (n3+(1:Int)) (aP.length:Int)) js _ mQ) ?_)
 refine kS 24 (lY (.aR 0 0) ?_)
 refine kS 25 (dF TT.iX ?_)
 obtain ⟨oM,h⟩:=bq h
 refine kS 26 (cZ ((idx aP n3).toNat:Int) TT.kE ?_ (h:=by exact oM))
 refine RK.st none rfl rfl (aV (([pI (3), .full (([]:(List UInt8)).map aa),pS ([]:List UInt8)])++(((((aD.rep 16 af.nil).put ((idx aP n3).toNat:Int) x_4).1.map ai).map PV.d)++([pS ([]:List UInt8)]))) TT.gF ?_ (hf:=by exact xY (n:=16) oM (ay (A:=[pI (3), .full (([]:(List UInt8)).map aa),pS ([]:List UInt8)]) (b:=17) rfl (ay (A:=((aD.rep 16 af.nil).1.map ai).map PV.d) (b:=1) (aj _) rfl rfl) rfl) bL) (hl:=by exact qt 3 _ rfl (eJ _ (AZ oM) (sy oM))))
 refine RK.nil ⟨fH.last 14 (by simp) (by simp) (by rfl),(cn ?_)⟩
 refine QW.seq ?_
 refine QW.view (s':=⟨bW [(0, .d (ai p0)),(1, .d (.slice (aP.map aa))),(3,pI n3),(9, .aR 0 0)],aK [.var (([pI (3), .full (([]:(List UInt8)).map aa),pS ([]:List UInt8)])++(((((aD.rep 16 af.nil).put ((idx aP n3).toNat:Int) x_4).1.map ai).map PV.d)++([pS ([]:List UInt8)])))],1,[]⟩) (vM 1 [0]) zL ?_
 refine rG ?_
 refine xm 27 (.d (ai p0)) ?_
 obtain ⟨pJ,h⟩:=bq h
 refine xS 28 (dg ?_ (hx:=by exact dh pJ))
 refine xS 29 (aL TT.j8 ?_)
 refine xS 30 (aA (.slice (((p0.at).bA).map aa)) TT.fJ ?_ (h:=iZ _))
 refine xm 31 (pI n3) ?_
 obtain ⟨uq,h⟩:=bq h
 refine xS 32 (bX ((p0.at).bA) n3 TT.fy fl uq ?_)
 refine xS 33 (aA (.val (.int .u8 ((idx ((p0.at).bA) n3).toNat:Int))) TT.l6 ?_)
 refine xz 10 (.d (.val (.int .u8 ((idx ((p0.at).bA) n3).toNat:Int)))) ?_
 obtain ⟨F3,hq,h⟩:=bO h
 refine QW.s6 (fun s'=>s'=⟨bW [(1, .d (.slice (aP.map aa))),(3,pI n3),(9, .aR 0 0)],aK [.var (([pI (3), .full (([]:(List UInt8)).map aa),pS ([]:List UInt8)])++(((F3.1.map ai).map PV.d)++([pS ([]:List UInt8)])))],1,[]⟩) ?_ ?_
 ·replace h:=hq;clear hq
  refine sR ?_
  refine xm 34 (.d (ai p0)) ?_
  obtain ⟨r5,h⟩:=bq h
  refine xS 35 (dg ?_ (hx:=by exact dh r5))
  refine xS 36 (aL TT.kK ?_)
  refine xS 37 (aA (.val (.int .i64 ((p0.at).aX))) TT.jl ?_ (h:=jM _))
  refine xT 38 (dj ((p0.at).aX) (1:Int) ?_)
  refine cT (decide (((p0.at).aX)=(1:Int))) (fun oN=>?_) (fun oN=>?_)
  ·replace h:=bT h oN
   refine QW.region zL (PW.qX (id:=5) dG (M:=_) rfl (by kernel_rfl) ?_)
   refine kS 39 (ax (.aR 0 0) ?_)
   refine kS 40 (ax (.d (.val (.int .u8 ((idx ((p0.at).bA) n3).toNat:Int)))) ?_)
   refine kS 41 (ax (.d (ai p0)) ?_)
   obtain ⟨td,h⟩:=bq h
   refine kS 42 (dg ?_ (hx:=by exact dh td))
   refine kS 43 (aL TT.j8 ?_)
   refine kS 44 (aA (.slice (((p0.at).bA).map aa)) TT.fJ ?_ (h:=iZ _))
   refine kS 45 (ax (pI n3) ?_)
   obtain ⟨kP,h⟩:=bq h
   refine kS 46 (bE n3 (1:Int) kP ?_)
   obtain ⟨nU,h⟩:=bq h
   refine kS 47 (p7 ((p0.at).bA) (n3+(1:Int)) (((p0.at).bA).length:Int) TT.bt TT.fy nU ?_)
   refine kS 48 (ax (.d (ai p0)) ?_)
   obtain ⟨tc,h⟩:=bq h
   refine kS 49 (dg ?_ (hx:=by exact dh tc))
   refine kS 50 (aL TT.zS ?_)
   refine kS 51 (aA (.val (sV ((p0.at).dU))) TT.eG ?_ (h:=x3 _))
   obtain ⟨x_15,r4,h⟩:=bO h
   refine kS 52 (az (qi (sub ((p0.at).bA) (n3+(1:Int)) (((p0.at).bA).length:Int)) ((p0.at).dU) _ r4) ?_)
   refine kS 53 (lY (.aR 0 0) ?_)
   refine kS 54 (dF TT.iX ?_)
   obtain ⟨oB,h⟩:=bq h
   refine kS 55 (cZ ((idx ((p0.at).bA) n3).toNat:Int) TT.kE ?_ (h:=by exact oB))
   refine RK.st none rfl rfl (aV (([pI (3), .full (([]:(List UInt8)).map aa),pS ([]:List UInt8)])++((((((aD.rep 16 af.nil).put ((idx aP n3).toNat:Int) x_4).put ((idx ((p0.at).bA) n3).toNat:Int) x_15).1.map ai).map PV.d)++([pS ([]:List UInt8)]))) TT.gF ?_ (hf:=by exact xY (n:=16) oB (ay (A:=[pI (3), .full (([]:(List UInt8)).map aa),pS ([]:List UInt8)]) (b:=17) rfl (ay (A:=(((aD.rep 16 af.nil).put ((idx aP n3).toNat:Int) x_4).1.map ai).map PV.d) (b:=1) (aj _) rfl rfl) rfl) bL) (hl:=by exact qt 3 _ rfl (eJ _ (AZ oB) (sy oB))))
   refine RK.nil ⟨fH.last 17 (by simp) (by simp) (by rfl),(cn ?_)⟩
   obtain rfl:=sO h
   exact jb rfl (vM 1 [0])
  ·replace h:=bF h oN
   refine QW.region zL (PW.qX (id:=6) dG (M:=_) rfl (by kernel_rfl) ?_)
   refine kS 56 (ax (.aR 0 0) ?_)
   refine kS 57 (ax (.d (.val (.int .u8 ((idx ((p0.at).bA) n3).toNat:Int)))) ?_)
   refine kS 58 (ax (.d (ai p0)) ?_)
   obtain ⟨qI,h⟩:=bq h
   refine kS 59 (dg ?_ (hx:=by exact dh qI))
   refine kS 60 (aL TT.j8 ?_)
   refine kS 61 (aA (.slice (((p0.at).bA).map aa)) TT.fJ ?_ (h:=iZ _))
   refine kS 62 (ax (pI n3) ?_)
   obtain ⟨wY,h⟩:=bq h
   refine kS 63 (bE n3 (1:Int) wY ?_)
   obtain ⟨qK,h⟩:=bq h
   refine kS 64 (p7 ((p0.at).bA) (n3+(1:Int)) (((p0.at).bA).length:Int) TT.bt TT.fy qK ?_)
   refine kS 65 (ax (.d (ai p0)) ?_)
   obtain ⟨F4,h⟩:=bq h
   refine kS 66 (dg ?_ (hx:=by exact dh F4))
   refine kS 67 (aL TT.iX ?_)
   refine kS 68 (lg (0:Int) TT.kE ?_)
   refine kS 69 (aA (ai (idx ((p0.at).cg).1 (0:Int))) TT.gF ?_ (h:=by exact nq (oz _) (by decide)))
   obtain ⟨x_22,zJ,h⟩:=bO h
   refine kS 70 (az (ry (sub ((p0.at).bA) (n3+(1:Int)) (((p0.at).bA).length:Int)) (idx ((p0.at).cg).1 (0:Int)) _ zJ) ?_)
   refine kS 71 (lY (.aR 0 0) ?_)
   refine kS 72 (dF TT.iX ?_)
   obtain ⟨vI,h⟩:=bq h
   refine kS 73 (cZ ((idx ((p0.at).bA) n3).toNat:Int) TT.kE ?_ (h:=by exact vI))
   refine RK.st none rfl rfl (aV (([pI (3), .full (([]:(List UInt8)).map aa),pS ([]:List UInt8)])++((((((aD.rep 16 af.nil).put ((idx aP n3).toNat:Int) x_4).put ((idx ((p0.at).bA) n3).toNat:Int) x_22).1.map ai).map PV.d)++([pS ([]:List UInt8)]))) TT.gF ?_ (hf:=by exact xY (n:=16) vI (ay (A:=[pI (3), .full (([]:(List UInt8)).map aa),pS ([]:List UInt8)]) (b:=17) rfl (ay (A:=(((aD.rep 16 af.nil).put ((idx aP n3).toNat:Int) x_4).1.map ai).map PV.d) (b:=1) (aj _) rfl rfl) rfl) bL) (hl:=by exact qt 3 _ rfl (eJ _ (AZ vI) (sy vI))))
   refine RK.nil ⟨fH.last 18 (by simp) (by simp) (by rfl),(cn ?_)⟩
   obtain rfl:=sO h
   exact jb rfl (vM 1 [0])
 ·rintro _ rfl
  refine QW.seq ?_
  refine QW.view (s':=⟨bW [(1, .d (.slice (aP.map aa))),(3,pI n3),(9, .d (ai (af.of (⟨3,([]:(List UInt8)),([]:List UInt8),F3,([]:List UInt8)⟩:part))))],aK [],0,[]⟩) (View.trans (View.Sk 0 1 rfl (JS rfl) rfl (JT bL rfl) zL) (View.trans (View.HH (ds:=gU (⟨3,([]:(List UInt8)),([]:List UInt8),F3,([]:List UInt8)⟩:part)) 0 9 rfl (show (gU (⟨3,([]:(List UInt8)),([]:List UInt8),F3,([]:List UInt8)⟩:part)).map PV.d=_ by simp only [gU,List.map_append];rfl) (sA _) rfl rfl zL) (vM 0 []))) zL ?_
  refine rG ?_
  refine xm 74 (.d (.slice (aP.map aa))) ?_
  refine xm 75 (pI n3) ?_
  obtain ⟨HR,h⟩:=bq h
  refine xS 76 (p7 aP (0:Int) n3 TT.bt TT.fy HR ?_)
  refine xm 77 (.d (ai (af.of (⟨3,([]:(List UInt8)),([]:List UInt8),F3,([]:List UInt8)⟩:part)))) ?_
  obtain ⟨sK,Ie,h⟩:=bO h
  refine xS 78 (az (ry (sub aP (0:Int) n3) (af.of (⟨3,([]:(List UInt8)),([]:List UInt8),F3,([]:List UInt8)⟩:part)) _ Ie) ?_)
  refine xz 8 (.d (ai sK)) ?_
  refine QW.ret zL ?_
  obtain rfl:=sO h
  exact eO
noncomputable def gH (self:af→(List UInt8)→(List UInt8)→Option af) (p0:af) (aP:(List UInt8)) (js:(List UInt8)):Option af:=
  (bif p0.isNil then
  ((l8 aP js).bind fun (x_2:af)=>
  some x_2)
  else
  gO (p0.isNil=false) (
  ((uJ ((p0.at).bA) aP).bind fun (x_5:Int)=>
  gO (p0.isNil=false) (
  (bif (decide (((p0.at).aX)=(-1:Int))) then
  none
  else
  gO (p0.isNil=false) (
  (bif (decide (x_5<(((p0.at).bA).length:Int))) then
  ((nB p0 aP js x_5).bind fun (x_11:af)=>
  some x_11)
  else
  gO (p0.isNil=false) (
  (bif (decide (((p0.at).aX)=(1:Int))) then
  ((l8 aP js).bind fun (x_15:af)=>
  some x_15)
  else
  gO (p0.isNil=false) (
  (bif (decide (((p0.at).aX)=(2:Int))) then
  gO (p0.isNil=false) (
  gO (p0.isNil=false) (
  gO (0≤x_5∧x_5≤(aP.length:Int)∧(aP.length:Int)≤(aP.length:Int)) (
  ((self (idx ((p0.at).cg).1 (0:Int)) (sub aP x_5 (aP.length:Int)) js).bind fun (x_22:af)=>
  ((mq ((p0.at).bA) x_22).bind fun (x_24:af)=>
  some x_24)))))
  else
  gO (p0.isNil=false) (
  gO (0≤(0:Int)∧(0:Int)<(aP.length:Int)) (
  gO (0≤(0:Int)∧(0:Int)<(aP.length:Int)) (
  gO (p0.isNil=false) (
  gO (0≤((idx aP (0:Int)).toNat:Int)∧((idx aP (0:Int)).toNat:Int)<((16:Nat):Int)) (
  gO (0≤(1:Int)∧(1:Int)≤(aP.length:Int)∧(aP.length:Int)≤(aP.length:Int)) (
  ((self (idx ((p0.at).cg).1 ((idx aP (0:Int)).toNat:Int)) (sub aP (1:Int) (aP.length:Int)) js).bind fun (oD:af)=>
  gO (0≤((idx aP (0:Int)).toNat:Int)∧((idx aP (0:Int)).toNat:Int)<((16:Nat):Int)) (
  some (af.of (⟨(p0.at).aX,(p0.at).bA,(p0.at).dU,(((p0.at).cg).put ((idx aP (0:Int)).toNat:Int) oD),(p0.at).wO⟩:part)))))))))))))))))))))
theorem Cu (self:af→(List UInt8)→(List UInt8)→Option af) (dZ:∀ (y0:af) (y1:(List UInt8)) (y2:(List UInt8)) (rr:af),self y0 y1 y2=some rr→cD Tryz.prog 29 [ai y0, .slice (y1.map aa), .val (sV y2)] (ai rr)) (p0:af) (aP:(List UInt8)) (js:(List UInt8)) (r:af) (h:gH self p0 aP js=some r):cD Tryz.prog 29 [ai p0, .slice (aP.map aa), .val (sV js)] (ai r):=by
 refine fQ Tryz.func29 Tryz.ntmps29 TT.VF ?_
 unfold gH at h
 refine sR ?_
 refine xz 6 (.d (ai (af.nil))) ?_
 refine QW.seq ?_
 refine sR ?_
 refine xm 9 (.d (ai p0)) ?_
 refine xT 10 (AY TT.sJ ?_)
 refine cT p0.isNil (fun c8=>?_) (fun c8=>?_)
 ·replace h:=bT h c8
  refine sR ?_
  refine xm 11 (.d (.slice (aP.map aa))) ?_
  refine xm 12 (pS js) ?_
  obtain ⟨x_2,nS,h⟩:=bO h
  refine xS 13 (az (qi aP js _ nS) ?_)
  refine xz 6 (.d (ai x_2)) ?_
  refine QW.ret zL (dc ?_)
  obtain rfl:=sO h
  exact eO
 ·replace h:=bF h c8
  refine sk ?_
  refine sR ?_
  refine xm 14 (.d (ai p0)) ?_
  obtain ⟨rW,h⟩:=bq h
  refine xS 15 (dg ?_ (hx:=by exact dh rW))
  refine xS 16 (aL TT.j8 ?_)
  refine xS 17 (aA (.slice (((p0.at).bA).map aa)) TT.fJ ?_ (h:=iZ _))
  refine xm 18 (.d (.slice (aP.map aa))) ?_
  obtain ⟨x_5,vH,h⟩:=bO h
  refine xS 19 (az (An ((p0.at).bA) aP _ vH) ?_)
  refine xz 7 (pI x_5) ?_
  refine QW.seq ?_
  refine QW.block ?_
  refine sR ?_
  refine xm 21 (.d (ai p0)) ?_
  obtain ⟨pJ,h⟩:=bq h
  refine xS 22 (dg ?_ (hx:=by exact dh pJ))
  refine xS 23 (aL TT.kK ?_)
  refine xS 24 (aA (.val (.int .i64 ((p0.at).aX))) TT.jl ?_ (h:=jM _))
  refine xS 25 (dj ((p0.at).aX) (-1:Int) ?_)
  refine xz 20 (pB (decide (((p0.at).aX)=(-1:Int)))) ?_
  refine cT (decide (((p0.at).aX)=(-1:Int))) (fun og=>?_) (fun og=>?_)
  ·replace h:=bT h og
   refine rG ?_
   refine xS 26 (dX (.agg []) rfl TT.Ib (cI rfl cH) ?_)
   refine xS 27 (BY (.agg []) ?_)
   refine XK.panic rfl rfl rfl (K8 (tR ?_))
   cases h
  ·replace h:=bF h og
   refine sR ?_
   refine xm 29 (pI x_5) ?_
   refine xm 30 (.d (ai p0)) ?_
   obtain ⟨r5,h⟩:=bq h
   refine xS 31 (dg ?_ (hx:=by exact dh r5))
   refine xS 32 (aL TT.j8 ?_)
   refine xS 33 (aA (.slice (((p0.at).bA).map aa)) TT.fJ ?_ (h:=iZ _))
   refine xS 34 (cX aa ((p0.at).bA) TT.bt ?_)
   refine xS 35 (cM x_5 (((p0.at).bA).length:Int) ?_)
   refine xz 28 (pB (decide (x_5<(((p0.at).bA).length:Int)))) ?_
   refine cT (decide (x_5<(((p0.at).bA).length:Int))) (fun oN=>?_) (fun oN=>?_)
   ·replace h:=bT h oN
    refine sR ?_
    refine xm 36 (.d (ai p0)) ?_
    refine xm 37 (.d (.slice (aP.map aa))) ?_
    refine xm 38 (pS js) ?_
    refine xm 39 (pI x_5) ?_
    obtain ⟨x_11,ta,h⟩:=bO h
    refine xS 40 (az (Ct p0 aP js x_5 _ ta) ?_)
    refine xz 6 (.d (ai x_11)) ?_
    refine QW.ret zL (nK (dc ?_))
    obtain rfl:=sO h
    exact eO
   ·replace h:=bF h oN
    refine sR ?_
    refine xm 42 (.d (ai p0)) ?_
    obtain ⟨nU,h⟩:=bq h
    refine xS 43 (dg ?_ (hx:=by exact dh nU))
    refine xS 44 (aL TT.kK ?_)
    refine xS 45 (aA (.val (.int .i64 ((p0.at).aX))) TT.jl ?_ (h:=jM _))
    refine xS 46 (dj ((p0.at).aX) (1:Int) ?_)
    refine xz 41 (pB (decide (((p0.at).aX)=(1:Int)))) ?_
    refine cT (decide (((p0.at).aX)=(1:Int))) (fun r6=>?_) (fun r6=>?_)
    ·replace h:=bT h r6
     refine sR ?_
     refine xm 47 (.d (.slice (aP.map aa))) ?_
     refine xm 48 (pS js) ?_
     obtain ⟨x_15,r4,h⟩:=bO h
     refine xS 49 (az (qi aP js _ r4) ?_)
     refine xz 6 (.d (ai x_15)) ?_
     refine QW.ret zL (nK (dc ?_))
     obtain rfl:=sO h
     exact eO
    ·replace h:=bF h r6
     refine sR ?_
     refine xm 51 (.d (ai p0)) ?_
     obtain ⟨oB,h⟩:=bq h
     refine xS 52 (dg ?_ (hx:=by exact dh oB))
     refine xS 53 (aL TT.kK ?_)
     refine xS 54 (aA (.val (.int .i64 ((p0.at).aX))) TT.jl ?_ (h:=jM _))
     refine xS 55 (dj ((p0.at).aX) (2:Int) ?_)
     refine xz 50 (pB (decide (((p0.at).aX)=(2:Int)))) ?_
     refine cT (decide (((p0.at).aX)=(2:Int))) (fun Dh=>?_) (fun Dh=>?_)
     ·replace h:=bT h Dh
      refine QW.seq ?_
      refine QW.region zL (PW.nj (id:=11) dG (M:=_) rfl (by kernel_rfl) ?_)
      refine qS 56 (ax (.d (ai p0)) (q2 ?_))
      obtain ⟨wY,h⟩:=bq h
      refine qS 57 (dg (q2 ?_) (hx:=by exact dh wY))
      refine qS 58 (aL TT.j8 (q2 ?_))
      refine qS 59 (aA (.slice (((p0.at).bA).map aa)) TT.fJ (q2 ?_) (h:=iZ _))
      refine qS 60 (ax (.d (ai p0)) (q2 ?_))
      obtain ⟨qK,h⟩:=bq h
      refine qS 61 (dg (q2 ?_) (hx:=by exact dh qK))
      refine qS 62 (aL TT.iX (q2 ?_))
      refine qS 63 (lg (0:Int) TT.kE (q2 ?_))
      refine qS 64 (aA (ai (idx ((p0.at).cg).1 (0:Int))) TT.gF (q2 ?_) (h:=by exact nq (oz _) (by decide)))
      refine qS 65 (ax (.d (.slice (aP.map aa))) (q2 ?_))
      refine qS 66 (ax (pI x_5) (q2 ?_))
      obtain ⟨F4,h⟩:=bq h
      refine qS 67 (p7 aP x_5 (aP.length:Int) TT.bt TT.fy F4 (q2 ?_))
      refine qS 68 (ax (pS js) (q2 ?_))
      obtain ⟨x_22,zJ,h⟩:=bO h
      refine qS 69 (az (dZ (idx ((p0.at).cg).1 (0:Int)) (sub aP x_5 (aP.length:Int)) js _ zJ) (q2 ?_))
      obtain ⟨x_24,Ig,h⟩:=bO h
      refine qS 70 (az (ry ((p0.at).bA) x_22 _ Ig) (q2 ?_))
      refine qS 6 (cj (.d (ai x_24)) (q2 ?_))
      refine RQ.nil (cn ?_)
      refine QW.ret zL (nK (dc ?_))
      obtain rfl:=sO h
      exact eO
     ·replace h:=bF h Dh
      refine QW.skip zL (iS (cn ?_))
      refine sR ?_
      refine xm 71 (.d (ai p0)) ?_
      obtain ⟨Ee,h⟩:=bq h
      refine xS 72 (dg ?_ (hx:=by exact dh Ee))
      refine xS 73 (aA (.agg (gU (p0.at))) TT.PD ?_ (h:=by exact ⟨by rw [JX.len];decide,congrArg D.agg (List.take_of_length_le (by rw [JX.len];decide))⟩))
      refine xS 8 (bl (([pI (0), .full (([]:(List UInt8)).map aa),pS ([]:List UInt8)])++((((aD.rep 16 af.nil).1.map ai).map PV.d)++([pS ([]:List UInt8)]))) TT.QK ?_)
      refine xN (aV (([pI ((p0.at).aX), .d (.slice (((p0.at).bA).map aa)),pS ((p0.at).dU)])++(((((p0.at).cg).1.map ai).map PV.d)++([pS ((p0.at).wO)]))) (c:=(([pI ((p0.at).aX), .d (.slice (((p0.at).bA).map aa)),pS ((p0.at).dU)])++(((((p0.at).cg).1.map ai).map PV.d)++([pS ((p0.at).wO)])))) TT.PD ?_ (hc:=by exact show (gU (p0.at)).map PV.d=_ by simp only [gU,List.map_append];rfl) (hn:=by exact ay (A:=[pI ((p0.at).aX), .d (.slice (((p0.at).bA).map aa)),pS ((p0.at).dU)]) (b:=17) rfl (ay (A:=(((p0.at).cg).1.map ai).map PV.d) (b:=1) (aj _) rfl rfl) rfl) (hf:=by exact bz (ay (A:=[pI (0), .full (([]:(List UInt8)).map aa),pS ([]:List UInt8)]) (b:=17) rfl (ay (A:=((aD.rep 16 af.nil).1.map ai).map PV.d) (b:=1) (aj _) rfl rfl) rfl) bL) (hl:=by exact cE ((ay (A:=[pI (0), .full (([]:(List UInt8)).map aa),pS ([]:List UInt8)]) (b:=17) rfl (ay (A:=((aD.rep 16 af.nil).1.map ai).map PV.d) (b:=1) (aj _) rfl rfl) rfl).trans (ay (A:=[pI ((p0.at).aX), .d (.slice (((p0.at).bA).map aa)),pS ((p0.at).dU)]) (b:=17) rfl (ay (A:=(((p0.at).cg).1.map ai).map PV.d) (b:=1) (aj _) rfl rfl) rfl).symm)))
      refine XK.nz ?_
      refine QW.seq ?_
      refine QW.region zL (PW.qX (id:=13) dG (M:=_) rfl (by kernel_rfl) ?_)
      refine kS 74 (ax (.d (.slice (aP.map aa))) ?_)
      obtain ⟨Tb,h⟩:=bq h
      refine kS 75 (bX aP (0:Int) TT.fy fl Tb ?_)
      refine kS 76 (aA (.val (.int .u8 ((idx aP (0:Int)).toNat:Int))) TT.l6 ?_)
      refine kS 77 (ax (.d (ai p0)) ?_)
      refine kS 78 (ax (.d (.slice (aP.map aa))) ?_)
      obtain ⟨Ih,h⟩:=bq h
      refine kS 79 (bX aP (0:Int) TT.fy fl Ih ?_)
      refine kS 80 (aA (.val (.int .u8 ((idx aP (0:Int)).toNat:Int))) TT.l6 ?_)
      obtain ⟨q7,h⟩:=bq h
      refine kS 81 (dg ?_ (hx:=by exact dh q7))
      refine kS 82 (aL TT.iX ?_)
      obtain ⟨FW,h⟩:=bq h
      refine kS 83 (lg ((idx aP (0:Int)).toNat:Int) TT.kE ?_ (h:=FW))
      refine kS 84 (aA (ai (idx ((p0.at).cg).1 ((idx aP (0:Int)).toNat:Int))) TT.gF ?_ (h:=nq (oz _) FW))
      refine kS 85 (ax (.d (.slice (aP.map aa))) ?_)
      obtain ⟨HS,h⟩:=bq h
      refine kS 86 (p7 aP (1:Int) (aP.length:Int) TT.bt TT.fy HS ?_)
      refine kS 87 (ax (pS js) ?_)
      obtain ⟨oD,Ii,h⟩:=bO h
      refine kS 88 (az (dZ (idx ((p0.at).cg).1 ((idx aP (0:Int)).toNat:Int)) (sub aP (1:Int) (aP.length:Int)) js _ Ii) ?_)
      refine kS 89 (dF TT.iX ?_)
      obtain ⟨CL,h⟩:=bq h
      refine kS 90 (cZ ((idx aP (0:Int)).toNat:Int) TT.kE ?_ (h:=by exact CL))
      refine RK.st none rfl rfl (aV (([pI ((p0.at).aX), .d (.slice (((p0.at).bA).map aa)),pS ((p0.at).dU)])++((((((p0.at).cg).put ((idx aP (0:Int)).toNat:Int) oD).1.map ai).map PV.d)++([pS ((p0.at).wO)]))) TT.gF ?_ (hf:=by exact xY (n:=16) CL (ay (A:=[pI ((p0.at).aX), .d (.slice (((p0.at).bA).map aa)),pS ((p0.at).dU)]) (b:=17) rfl (ay (A:=(((p0.at).cg).1.map ai).map PV.d) (b:=1) (aj _) rfl rfl) rfl) bL) (hl:=by exact qt 3 _ rfl (eJ _ (AZ CL) (sy CL))))
      refine RK.nil ⟨fH.last 17 (by simp) (by simp) (by rfl),(cn ?_)⟩
      refine QW.seq ?_
      refine QW.view (s':=⟨bW [(8, .aR 0 0)],aK [.var (([pI ((p0.at).aX), .d (.slice (((p0.at).bA).map aa)),pS ((p0.at).dU)])++((((((p0.at).cg).put ((idx aP (0:Int)).toNat:Int) oD).1.map ai).map PV.d)++([pS ((p0.at).wO)])))],1,[]⟩) (vM 1 [0]) zL ?_
      refine QW.view (s':=⟨bW [(8, .d (ai (af.of (⟨(p0.at).aX,(p0.at).bA,(p0.at).dU,(((p0.at).cg).put ((idx aP (0:Int)).toNat:Int) oD),(p0.at).wO⟩:part))))],aK [],0,[]⟩) (View.trans (View.HH (ds:=gU (⟨(p0.at).aX,(p0.at).bA,(p0.at).dU,(((p0.at).cg).put ((idx aP (0:Int)).toNat:Int) oD),(p0.at).wO⟩:part)) 0 8 rfl (show (gU (⟨(p0.at).aX,(p0.at).bA,(p0.at).dU,(((p0.at).cg).put ((idx aP (0:Int)).toNat:Int) oD),(p0.at).wO⟩:part)).map PV.d=_ by simp only [gU,List.map_append];rfl) (sA _) rfl rfl zL) (vM 0 [])) zL ?_
      refine rG ?_
      refine xz 6 (.d (ai (af.of (⟨(p0.at).aX,(p0.at).bA,(p0.at).dU,(((p0.at).cg).put ((idx aP (0:Int)).toNat:Int) oD),(p0.at).wO⟩:part)))) ?_
      refine QW.ret zL ?_
      obtain rfl:=sO h
      exact eO
noncomputable def jA:Nat→af→(List UInt8)→(List UInt8)→Option af
 | 0=>fun _ _ _=>none
 | n+1=>fun y0 y1 y2=>gH (jA n) y0 y1 y2
theorem vO:∀ (n:Nat) (y0:af) (y1:(List UInt8)) (y2:(List UInt8)) (rr:af),jA n y0 y1 y2=some rr→cD Tryz.prog 29 [ai y0, .slice (y1.map aa), .val (sV y2)] (ai rr)
 | 0,_,_,_,_,h=>by cases h
 | n+1,y0,y1,y2,rr,h=>Cu (jA n) (vO n) y0 y1 y2 rr h
noncomputable def ux (y0:af) (y1:(List UInt8)) (y2:(List UInt8)):Option af:=vG (fun n=>jA n y0 y1 y2)
theorem Dr (y0:af) (y1:(List UInt8)) (y2:(List UInt8)) (rr:af) (h:ux y0 y1 y2=some rr):cD Tryz.prog 29 [ai y0, .slice (y1.map aa), .val (sV y2)] (ai rr):=by
 obtain ⟨n,hn⟩:=n8 h
 exact vO n y0 y1 y2 rr hn
noncomputable def oh (t0:Tree) (k1:(aD 32 UInt8)) (v2:(List UInt8)):Option (Tree×Int):=
  (bif ((v2==([]:List UInt8))||(decide ((65552:Int)<(v2.length:Int)))) then
  some ((⟨af.nil⟩:Tree),2)
  else
  ((sB k1).bind fun (x_2:(List UInt8))=>
  ((ux (t0.fp) x_2 v2).bind fun (x_4:af)=>
  some ((⟨x_4⟩:Tree),0))))
theorem Ds (t0:Tree) (k1:(aD 32 UInt8)) (v2:(List UInt8)) (r:(Tree×Int)) (h:oh t0 k1 v2=some r):cD Tryz.prog 12 [.agg (dQ t0), .agg (k1.1.map aa), .val (sV v2)] (.tuple [.agg (dQ (r.1)), .val (.int .i64 (r.2))]):=by
 refine cD.yS Tryz.func12 rfl (by simp [Tryz.ntmps12]) TT.Dp ?_
 rw [Tryz.ntmps12,TT.Vw]
 refine QW.view (s':=⟨bW [(0, .d (.agg (dQ t0))),(1, .d (.agg (k1.1.map aa))),(2,pS v2)],aK [],0,[]⟩) (View.init (by rfl)) zL ?_
 unfold oh at h
 refine sR ?_
 refine XK.fz (some 3) rfl rfl (eE (dQ t0) rfl rfl rfl rfl rfl ?_)
 refine XK.fz (some 4) rfl rfl (eE (k1.1.map aa) rfl rfl rfl rfl bK ?_)
 refine xS 6 (bl [.d (ai (af.nil))] TT.nc ?_)
 refine xT 7 (bl [pI (0)] TT.yT ?_)
 refine QW.seq ?_
 refine sR ?_
 refine xm 9 (pS v2) ?_
 refine xS 10 (jW v2 ([]:List UInt8) ?_)
 refine xm 11 (pB (v2==([]:List UInt8))) ?_
 refine xg 12 (pS v2) rfl rfl (fun hg=>ax (pS v2) g3) ?_
 refine xg 13 (pI (v2.length:Int)) rfl rfl (fun hg=>eU v2 TT.bh g3) ?_
 refine xg 14 (pB (decide ((65552:Int)<(v2.length:Int)))) rfl rfl (fun hg=>kU (v2.length:Int) (65552:Int) g3) ?_
 refine xT 15 (fh ?_)
 refine cT ((v2==([]:List UInt8))||(decide ((65552:Int)<(v2.length:Int)))) (fun c8=>?_) (fun c8=>?_)
 ·replace h:=bT h c8
  refine sR ?_
  refine xS 16 (dX (.agg [.d (ai (af.nil))]) rfl TT.ru (cI rfl cH) ?_)
  refine xN (aV [.d (ai (af.nil))] TT.eI ?_)
  refine xN (aV [pI (2)] TT.kX ?_)
  refine XK.nz ?_
  refine QW.ret zL (dc ?_)
  obtain rfl:=sO h
  exact .inr (Ends.more (.inr rfl) rfl (ps:=[.agg [.d (ai (af.nil))],pI (2)]) (And.intro (aN.cell rfl rfl TT.eI ⟨⟨by simp,by simp⟩,rfl⟩) (And.intro (aN.cell rfl rfl TT.kX ⟨⟨by simp,by simp⟩,rfl⟩) trivial)) rfl rfl)
 ·replace h:=bF h c8
  refine sk ?_
  refine sR ?_
  refine XK.df (L:=[.aR 1 0]) none rfl rfl rfl rfl rfl ?_
  refine XK.nz ?_
  refine QW.seq ?_
  refine QW.region zL (PW.nj (id:=4) dG (M:=_) rfl (by kernel_rfl) ?_)
  refine qS 17 (aL TT.iK (q2 ?_))
  refine qS 18 (aA (ai (t0.fp)) TT.gF (q2 ?_))
  refine qS 19 (aA (.agg (k1.1.map aa)) TT.qu (q2 ?_) (h:=by exact s9 (by rw [List.length_map,k1.2])))
  obtain ⟨x_2,nS,h⟩:=bO h
  refine qS 20 (az (yo k1 _ nS) (q2 ?_))
  refine qS 21 (ax (pS v2) (q2 ?_))
  obtain ⟨x_4,mQ,h⟩:=bO h
  refine qS 22 (az (Dr (t0.fp) x_2 v2 _ mQ) (q2 ?_))
  refine qS 8 (cj (.d (ai x_4)) (q2 ?_))
  refine RQ.nil (cn ?_)
  refine sR ?_
  refine xm 23 (.d (ai x_4)) ?_
  refine xS 24 (dX (.agg [.d (ai x_4)]) rfl TT.ru (cI rfl (bY (cells':=[.d (ai x_4)]) rfl rfl rfl bL rfl cH)) ?_)
  refine xN (aV [.d (ai x_4)] TT.eI ?_)
  refine xN (aV [pI (0)] TT.kX ?_)
  refine XK.nz ?_
  refine QW.ret zL ?_
  obtain rfl:=sO h
  exact .inl (wL.more [.agg [.d (ai x_4)],pI (0)] 1 (pI (0)) (pI (0)) none rfl rfl (kZ 0) rfl rfl rfl (And.intro (aN.cell rfl rfl TT.eI ⟨⟨by simp,by simp⟩,rfl⟩) (And.intro (aN.cell rfl rfl TT.kX ⟨⟨by simp,by simp⟩,rfl⟩) trivial)) rfl)
inductive Ij where
 | S
 | L1 (v10:Int) (uL:af) (nY:af)
noncomputable def mu (l0:(List b8)):Ij→Option (Ij⊕Tree)
 | .S=>
  some (.inl (.L1 (0) (af.nil) (af.nil)))
 | .L1 v10 uL nY=>
  (bif (decide (v10<(l0.length:Int))) then
  gO (0≤v10∧v10<(l0.length:Int)) (
  ((oh (⟨nY⟩:Tree) ((idx l0 v10).fG) ((idx l0 v10).aq)).bind fun (x_4:(Tree×Int))=>
  (bif (decide ((x_4.2)=(0:Int))) then
  gO (bf (v10+(1:Int))) (
  some (.inl (.L1 (v10+(1:Int)) uL ((x_4.1).fp))))
  else
  gO (bf (v10+(1:Int))) (
  some (.inl (.L1 (v10+(1:Int)) uL nY))))))
  else
  some (.inr (⟨nY⟩:Tree)))
noncomputable def sg (l0:(List b8)):Option Tree:=gJ (mu l0) .S
theorem zV (l0:(List b8)) (r:Tree) (h:sg l0=some r):cD Tryz.prog 18 [.slice (l0.map iD)] (.agg (dQ r)):=by
 refine fQ Tryz.func18 Tryz.ntmps18 TT.Vy ?_
 obtain ⟨_,h⟩:=cP h
 obtain ⟨dm,e9,h⟩:=aQ h;rw [mu] at h
 refine sR ?_
 refine xT 2 (bl [.d (ai (af.nil))] TT.nc ?_)
 refine sR ?_
 refine xT 3 (bl [.d (ai (af.nil))] TT.nc ?_)
 refine QW.seq ?_
 refine sR ?_
 refine xm 8 (.d (.slice (l0.map iD))) ?_
 refine xS 9 (cX iD l0 TT.Fa ?_)
 refine xm 10 (pI (0)) ?_
 refine XK.nz ?_
 refine QW.block ?_
 refine lp (fun k σ=>∃ v10:Int,∃ uL:af,∃ nY:af,k≤dm∧run (mu l0) k (.L1 v10 uL nY)=some r∧σ=⟨bW [(2, .aR 0 0),(3, .aR 1 0),(8, .d (.slice (l0.map iD))),(9,pI (l0.length:Int)),(10,pI v10)],aK [.var [.d (ai uL)], .var [.d (ai nY)]],2,[]⟩) dm ⟨0,af.nil,af.nil,Nat.le_refl _,jG h,rfl⟩ (vM 2 [0,1]) ?_
 rintro wP _ ⟨v10,uL,nY,wQ,h,rfl⟩
 obtain ⟨k_1,e9,h⟩:=aQ h;rw [mu] at h
 refine sR ?_
 refine xT 11 (cM v10 (l0.length:Int) ?_)
 refine QW.seq ?_
 refine cT (decide (v10<(l0.length:Int))) (fun cQ=>?_) (fun cQ=>?_)
 ·replace h:=ej h cQ
  refine sk ?_
  refine QW.seq ?_
  refine QW.block ?_
  refine sR ?_
  obtain ⟨eD,h⟩:=gG h
  refine xS 12 (bX l0 v10 TT.MO dD eD ?_)
  refine xS 13 (aA (.agg (g9 (idx l0 v10))) TT.zT ?_ (h:=by exact ⟨by rw [dD.len];decide,congrArg D.agg (List.take_of_length_le (by rw [dD.len];decide))⟩))
  refine xS 5 (bl ((g9 (⟨(aD.rep 32 (0:UInt8)),([]:(List UInt8))⟩:b8)).map .d) TT.J7 ?_)
  refine xN (aV ((g9 (idx l0 v10)).map .d) TT.zT ?_ (hn:=by exact GF (dD.len _)) (hf:=by exact K9 (dD.len _)) (hl:=by exact GD ((dD.len _).trans (dD.len _).symm)))
  refine XK.nz ?_
  refine sR ?_
  refine xA 15 (aW (.agg [.d (ai nY)]) TT.eI ⟨.d (.agg (dQ (⟨nY⟩:Tree))),(fX.cN rfl),?_⟩)
  refine xS 16 (dF TT.Dq ?_)
  refine xA 17 (aW _ TT.qu ⟨.d (.agg (((idx l0 v10).fG).1.map aa)),jk,?_⟩ (h:=by exact E0 (A6 _) (by rw [dD.len];decide) (by decide)))
  refine xS 18 (dF TT.zR ?_)
  refine xS 19 (aW (pS ((idx l0 v10).aq)) TT.eG ?_ (h:=by exact D8 (x4 _) (by rw [dD.len];decide) (by decide)))
  obtain ⟨x_4,mQ,h⟩:=bG h
  refine xS 20 (az (Ds (⟨nY⟩:Tree) ((idx l0 v10).fG) ((idx l0 v10).aq) _ mQ) ?_)
  refine xm 14 (.d (.tuple [.agg (dQ (x_4.1)), .val (.int .i64 (x_4.2))])) ?_
  refine xS 21 (aY ?_)
  refine xS 22 (aY ?_)
  refine xS 6 (bl [.d (ai (af.nil))] TT.nc ?_)
  refine xN (aV [.d (ai ((x_4.1).fp))] TT.eI ?_)
  refine xz 7 (pI (x_4.2)) ?_
  refine QW.seq ?_
  refine QW.view (s':=⟨bW [(2, .aR 0 0),(3, .aR 1 0),(6, .aR 2 0),(7,pI (x_4.2)),(8, .d (.slice (l0.map iD))),(9,pI (l0.length:Int)),(10,pI v10)],aK [.var [.d (ai uL)], .var [.d (ai nY)], .var [.d (ai ((x_4.1).fp))]],3,[]⟩) (vM 3 [0,1,3]) zL ?_
  refine rG ?_
  refine xm 23 (pI (x_4.2)) ?_
  refine xT 24 (dj (x_4.2) (0:Int) ?_)
  refine cT (decide ((x_4.2)=(0:Int))) (fun j4=>?_) (fun j4=>?_)
  ·replace h:=ej h j4
   refine rG ?_
   refine xA 25 (aW (.agg [.d (ai ((x_4.1).fp))]) TT.eI ⟨.d (.agg (dQ (x_4.1))),(fX.cN rfl),?_⟩)
   refine xN (aV [.d (ai ((x_4.1).fp))] TT.eI ?_)
   refine XK.nil (iS (cn ?_))
   refine rG ?_
   obtain ⟨pJ,h⟩:=gG h
   refine xS 26 (bE v10 (1:Int) pJ ?_)
   refine xm 10 (pI (v10+(1:Int))) ?_
   refine XK.nz ?_
   exact lb k_1 ⟨(v10+(1:Int)),uL,(x_4.1).fp,by omega,jG h,rfl⟩ (vM 2 [0,1])
  ·replace h:=ek h j4
   refine QW.skip zL (iS (cn ?_))
   refine rG ?_
   obtain ⟨uq,h⟩:=gG h
   refine xS 26 (bE v10 (1:Int) uq ?_)
   refine xm 10 (pI (v10+(1:Int))) ?_
   refine XK.nz ?_
   exact lb k_1 ⟨(v10+(1:Int)),uL,nY,by omega,jG h,rfl⟩ (vM 2 [0,1])
 ·replace h:=ek h cQ
  refine QW.exit zL (eP (eP (kW (cn ?_))))
  refine sR ?_
  refine xA 27 (aW (.agg [.d (ai nY)]) TT.eI ⟨.d (.agg (dQ (⟨nY⟩:Tree))),(fX.cN rfl),?_⟩)
  refine xN (aV [.d (ai nY)] TT.eI ?_)
  refine XK.nz ?_
  refine QW.ret zL ?_
  obtain rfl:=sG h
  exact Ends.one (.inr rfl) rfl (aN.cell rfl rfl TT.eI ⟨⟨by simp,by simp⟩,rfl⟩) rfl rfl
inductive qL where
 | S
 | L1 (si:Int)
noncomputable def cW (v0:(List UInt8)) (v1:(List UInt8)):qL→Option (qL⊕Bool)
 | .S=>
  (bif (!decide ((v0.length:Int)=(v1.length:Int))) then
  some (.inr false)
  else
  some (.inl (.L1 (0))))
 | .L1 si=>
  (bif (decide (si<(v0.length:Int))) then
  gO (0≤si∧si<(v0.length:Int)) (
  gO (0≤si∧si<(v1.length:Int)) (
  (bif (!decide (((idx v0 si).toNat:Int)=((idx v1 si).toNat:Int))) then
  some (.inr false)
  else
  gO (bf (si+(1:Int))) (
  some (.inl (.L1 (si+(1:Int))))))))
  else
  some (.inr true))
noncomputable def m8 (v0:(List UInt8)) (v1:(List UInt8)):Option Bool:=gJ (cW v0 v1) .S
theorem wm (v0:(List UInt8)) (v1:(List UInt8)) (r:Bool) (h:m8 v0 v1=some r):cD Tryz.prog 46 [.slice (v0.map aa), .slice (v1.map aa)] (.val (.bool r)):=by
 refine fQ Tryz.func46 Tryz.ntmps46 TT.VJ ?_
 obtain ⟨_,h⟩:=cP h
 obtain ⟨dm,e9,h⟩:=aQ h;rw [cW] at h
 refine sR ?_
 refine xz 4 (pB false) ?_
 refine QW.seq ?_
 refine sR ?_
 refine xm 6 (.d (.slice (v0.map aa))) ?_
 refine xS 7 (cX aa v0 TT.bt ?_)
 refine xm 8 (.d (.slice (v1.map aa))) ?_
 refine xS 9 (cX aa v1 TT.bt ?_)
 refine xT 10 (mI (v0.length:Int) (v1.length:Int) ?_)
 refine cT (!decide ((v0.length:Int)=(v1.length:Int))) (fun c8=>?_) (fun c8=>?_)
 ·replace h:=ej h c8
  refine sR ?_
  refine xz 4 (pB false) ?_
  refine QW.ret zL (dc ?_)
  obtain rfl:=sG h
  exact eO
 ·replace h:=ek h c8
  refine sk ?_
  refine QW.seq ?_
  refine sR ?_
  refine xm 11 (.d (.slice (v0.map aa))) ?_
  refine xS 12 (cX aa v0 TT.bt ?_)
  refine xm 13 (pI (0)) ?_
  refine XK.nz ?_
  refine QW.block ?_
  refine lp (fun k σ=>∃ si:Int,k≤dm∧run (cW v0 v1) k (.L1 si)=some r∧σ=⟨bW [(0, .d (.slice (v0.map aa))),(1, .d (.slice (v1.map aa))),(12,pI (v0.length:Int)),(13,pI si)],aK [],0,[]⟩) dm ⟨0,Nat.le_refl _,jG h,rfl⟩ (vM 0 []) ?_
  rintro WT _ ⟨si,WU,h,rfl⟩
  obtain ⟨k_2,e9,h⟩:=aQ h;rw [cW] at h
  refine sR ?_
  refine xT 14 (cM si (v0.length:Int) ?_)
  refine QW.seq ?_
  refine cT (decide (si<(v0.length:Int))) (fun dY=>?_) (fun dY=>?_)
  ·replace h:=ej h dY
   refine sk ?_
   refine QW.seq ?_
   refine QW.block ?_
   refine sR ?_
   refine xm 15 (pI si) ?_
   refine xz 5 (pI si) ?_
   refine QW.seq ?_
   refine QW.region zL (PW.nj (id:=6) dG (M:=_) rfl (by kernel_rfl) ?_)
   refine qS 16 (ax (.d (.slice (v0.map aa))) (q2 ?_))
   refine qS 17 (ax (pI si) (q2 ?_))
   obtain ⟨rW,h⟩:=gG h
   refine qS 18 (bX v0 si TT.fy fl rW (q2 ?_))
   refine qS 19 (aA (.val (.int .u8 ((idx v0 si).toNat:Int))) TT.l6 (q2 ?_))
   refine qS 20 (ax (.d (.slice (v1.map aa))) (q2 ?_))
   refine qS 21 (ax (pI si) (q2 ?_))
   obtain ⟨nM,h⟩:=gG h
   refine qS 22 (bX v1 si TT.fy fl nM (q2 ?_))
   refine qS 23 (aA (.val (.int .u8 ((idx v1 si).toNat:Int))) TT.l6 (q2 ?_))
   refine qS 24 (mI ((idx v0 si).toNat:Int) ((idx v1 si).toNat:Int) (q2 ?_))
   refine RQ.nil (cn ?_)
   refine cT (!decide (((idx v0 si).toNat:Int)=((idx v1 si).toNat:Int))) (fun j4=>?_) (fun j4=>?_)
   ·replace h:=ej h j4
    refine sR ?_
    refine xz 4 (pB false) ?_
    refine QW.ret zL (nK (dc (dc (nK (dc ?_)))))
    obtain rfl:=sG h
    exact eO
   ·replace h:=ek h j4
    refine QW.skip zL (iS (cn ?_))
    refine rG ?_
    obtain ⟨pJ,h⟩:=gG h
    refine xS 25 (bE si (1:Int) pJ ?_)
    refine xm 13 (pI (si+(1:Int))) ?_
    refine XK.nz ?_
    exact lb k_2 ⟨(si+(1:Int)),by omega,jG h,rfl⟩ (vM 0 [])
  ·replace h:=ek h dY
   refine QW.exit zL (eP (eP (kW (cn ?_))))
   refine sR ?_
   refine xz 4 (pB true) ?_
   refine QW.ret zL ?_
   obtain rfl:=sG h
   exact eO
noncomputable def iz (self:af→(List UInt8)→Option ((List UInt8)×Bool)) (p0:af) (aP:(List UInt8)):Option ((List UInt8)×Bool):=
  (bif p0.isNil then
  some (([]:List UInt8),false)
  else
  gO (p0.isNil=false) (
  (bif (decide (((p0.at).aX)=(-1:Int))) then
  none
  else
  (bif (decide (((p0.at).aX)=(1:Int))) then
  gO (p0.isNil=false) (
  gO (p0.isNil=false) (
  ((m8 ((p0.at).bA) aP).bind fun (x_7:Bool)=>
  some ((p0.at).dU,x_7))))
  else
  (bif (decide (((p0.at).aX)=(2:Int))) then
  gO (p0.isNil=false) (
  gO (p0.isNil=false) (
  ((uJ ((p0.at).bA) aP).bind fun (x_12:Int)=>
  (bif (decide (x_12<(((p0.at).bA).length:Int))) then
  some (([]:List UInt8),false)
  else
  gO (p0.isNil=false) (
  gO (0≤(((p0.at).bA).length:Int)∧(((p0.at).bA).length:Int)≤(aP.length:Int)∧(aP.length:Int)≤(aP.length:Int)) (
  ((self (idx ((p0.at).cg).1 (0:Int)) (sub aP (((p0.at).bA).length:Int) (aP.length:Int))).bind fun (x_17:((List UInt8)×Bool))=>
  some (x_17.1,x_17.2))))))))
  else
  gO (0≤(0:Int)∧(0:Int)<(aP.length:Int)) (
  gO (p0.isNil=false) (
  gO (0≤((idx aP (0:Int)).toNat:Int)∧((idx aP (0:Int)).toNat:Int)<((16:Nat):Int)) (
  gO (0≤(1:Int)∧(1:Int)≤(aP.length:Int)∧(aP.length:Int)≤(aP.length:Int)) (
  ((self (idx ((p0.at).cg).1 ((idx aP (0:Int)).toNat:Int)) (sub aP (1:Int) (aP.length:Int))).bind fun (x_23:((List UInt8)×Bool))=>
  some (x_23.1,x_23.2)))))))))))
theorem Cv (self:af→(List UInt8)→Option ((List UInt8)×Bool)) (dZ:∀ (y0:af) (y1:(List UInt8)) (rr:((List UInt8)×Bool)),self y0 y1=some rr→cD Tryz.prog 28 [ai y0, .slice (y1.map aa)] (.tuple [.val (sV (rr.1)), .val (.bool (rr.2))])) (p0:af) (aP:(List UInt8)) (r:((List UInt8)×Bool)) (h:iz self p0 aP=some r):cD Tryz.prog 28 [ai p0, .slice (aP.map aa)] (.tuple [.val (sV (r.1)), .val (.bool (r.2))]):=by
 refine fQ Tryz.func28 Tryz.ntmps28 TT.VE ?_
 unfold iz at h
 refine sR ?_
 refine xa 4 (pS ([]:List UInt8)) ?_
 refine xz 5 (pB false) ?_
 refine QW.seq ?_
 refine sR ?_
 refine xm 7 (.d (ai p0)) ?_
 refine xT 8 (AY TT.sJ ?_)
 refine cT p0.isNil (fun c8=>?_) (fun c8=>?_)
 ·replace h:=bT h c8
  refine sR ?_
  refine xa 4 (pS ([]:List UInt8)) ?_
  refine xz 5 (pB false) ?_
  refine QW.ret zL (dc ?_)
  obtain rfl:=sO h
  exact Ends.more (.inr rfl) rfl (ps:=[pS ([]:List UInt8),pB false]) (And.intro (aN.tmp rfl) (And.intro (aN.tmp rfl) trivial)) rfl rfl
 ·replace h:=bF h c8
  refine sk ?_
  refine QW.seq ?_
  refine sR ?_
  refine xm 9 (.d (ai p0)) ?_
  obtain ⟨yp,h⟩:=bq h
  refine xS 10 (dg ?_ (hx:=by exact dh yp))
  refine xS 11 (aL TT.kK ?_)
  refine xT 12 (aA (.val (.int .i64 ((p0.at).aX))) TT.jl ?_ (h:=jM _))
  refine QW.block ?_
  refine sR ?_
  refine xS 14 (dj ((p0.at).aX) (-1:Int) ?_)
  refine xz 13 (pB (decide (((p0.at).aX)=(-1:Int)))) ?_
  refine cT (decide (((p0.at).aX)=(-1:Int))) (fun dY=>?_) (fun dY=>?_)
  ·replace h:=bT h dY
   refine rG ?_
   refine xS 15 (dX (.agg []) rfl TT.Ib (cI rfl cH) ?_)
   refine xS 16 (BY (.agg []) ?_)
   refine XK.panic rfl rfl rfl (K8 (tR ?_))
   cases h
  ·replace h:=bF h dY
   refine sR ?_
   refine xS 18 (dj ((p0.at).aX) (1:Int) ?_)
   refine xz 17 (pB (decide (((p0.at).aX)=(1:Int)))) ?_
   refine cT (decide (((p0.at).aX)=(1:Int))) (fun fA=>?_) (fun fA=>?_)
   ·replace h:=bT h fA
    refine QW.seq ?_
    refine QW.region zL (PW.nj (id:=7) dG (M:=_) rfl (by kernel_rfl) ?_)
    refine qS 19 (ax (.d (ai p0)) (q2 ?_))
    obtain ⟨nM,h⟩:=bq h
    refine qS 20 (dg (q2 ?_) (hx:=by exact dh nM))
    refine qS 21 (aL TT.zS (q2 ?_))
    refine qS 22 (aA (.val (sV ((p0.at).dU))) TT.eG (q2 ?_) (h:=x3 _))
    refine qS 23 (ax (.d (ai p0)) (q2 ?_))
    obtain ⟨oM,h⟩:=bq h
    refine qS 24 (dg (q2 ?_) (hx:=by exact dh oM))
    refine qS 25 (aL TT.j8 (q2 ?_))
    refine qS 26 (aA (.slice (((p0.at).bA).map aa)) TT.fJ (q2 ?_) (h:=iZ _))
    refine qS 27 (ax (.d (.slice (aP.map aa))) (q2 ?_))
    obtain ⟨x_7,oA,h⟩:=bO h
    refine qS 28 (az (wm ((p0.at).bA) aP _ oA) (q2 ?_))
    refine qS 4 (cj (pS ((p0.at).dU)) (q2 ?_))
    refine qS 5 (cj (pB x_7) (q2 ?_))
    refine RQ.nil (cn ?_)
    refine QW.ret zL (nK (dc ?_))
    obtain rfl:=sO h
    exact Ends.more (.inr rfl) rfl (ps:=[pS ((p0.at).dU),pB x_7]) (And.intro (aN.tmp rfl) (And.intro (aN.tmp rfl) trivial)) rfl rfl
   ·replace h:=bF h fA
    refine sR ?_
    refine xS 30 (dj ((p0.at).aX) (2:Int) ?_)
    refine xz 29 (pB (decide (((p0.at).aX)=(2:Int)))) ?_
    refine cT (decide (((p0.at).aX)=(2:Int))) (fun oe=>?_) (fun oe=>?_)
    ·replace h:=bT h oe
     refine sR ?_
     refine xm 31 (.d (ai p0)) ?_
     obtain ⟨nT,h⟩:=bq h
     refine xS 32 (dg ?_ (hx:=by exact dh nT))
     refine xS 33 (aL TT.j8 ?_)
     refine xS 34 (aA (.slice (((p0.at).bA).map aa)) TT.fJ ?_ (h:=iZ _))
     refine xS 35 (cX aa ((p0.at).bA) TT.bt ?_)
     refine xz 6 (pI (((p0.at).bA).length:Int)) ?_
     refine QW.seq ?_
     refine sR ?_
     refine xm 36 (.d (ai p0)) ?_
     obtain ⟨td,h⟩:=bq h
     refine xS 37 (dg ?_ (hx:=by exact dh td))
     refine xS 38 (aL TT.j8 ?_)
     refine xS 39 (aA (.slice (((p0.at).bA).map aa)) TT.fJ ?_ (h:=iZ _))
     refine xm 40 (.d (.slice (aP.map aa))) ?_
     obtain ⟨x_12,tg,h⟩:=bO h
     refine xS 41 (az (An ((p0.at).bA) aP _ tg) ?_)
     refine xm 42 (pI (((p0.at).bA).length:Int)) ?_
     refine xT 43 (cM x_12 (((p0.at).bA).length:Int) ?_)
     refine cT (decide (x_12<(((p0.at).bA).length:Int))) (fun r6=>?_) (fun r6=>?_)
     ·replace h:=bT h r6
      refine sR ?_
      refine xa 4 (pS ([]:List UInt8)) ?_
      refine xz 5 (pB false) ?_
      refine QW.ret zL (dc (nK (dc ?_)))
      obtain rfl:=sO h
      exact Ends.more (.inr rfl) rfl (ps:=[pS ([]:List UInt8),pB false]) (And.intro (aN.tmp rfl) (And.intro (aN.tmp rfl) trivial)) rfl rfl
     ·replace h:=bF h r6
      refine sk ?_
      refine QW.seq ?_
      refine QW.region zL (PW.nj (id:=12) dG (M:=_) rfl (by kernel_rfl) ?_)
      refine qS 44 (ax (.d (ai p0)) (q2 ?_))
      obtain ⟨uY,h⟩:=bq h
      refine qS 45 (dg (q2 ?_) (hx:=by exact dh uY))
      refine qS 46 (aL TT.iX (q2 ?_))
      refine qS 47 (lg (0:Int) TT.kE (q2 ?_))
      refine qS 48 (aA (ai (idx ((p0.at).cg).1 (0:Int))) TT.gF (q2 ?_) (h:=by exact nq (oz _) (by decide)))
      refine qS 49 (ax (.d (.slice (aP.map aa))) (q2 ?_))
      refine qS 50 (ax (pI (((p0.at).bA).length:Int)) (q2 ?_))
      obtain ⟨q8,h⟩:=bq h
      refine qS 51 (p7 aP (((p0.at).bA).length:Int) (aP.length:Int) TT.bt TT.fy q8 (q2 ?_))
      obtain ⟨x_17,zN,h⟩:=bO h
      refine qS 52 (az (dZ (idx ((p0.at).cg).1 (0:Int)) (sub aP (((p0.at).bA).length:Int) (aP.length:Int)) _ zN) (q2 ?_))
      refine qS 53 (aY (q2 ?_))
      refine qS 54 (aY (q2 ?_))
      refine qS 4 (cj (pS (x_17.1)) (q2 ?_))
      refine qS 5 (cj (pB (x_17.2)) (q2 ?_))
      refine RQ.nil (cn ?_)
      refine QW.ret zL (nK (dc ?_))
      obtain rfl:=sO h
      exact Ends.more (.inr rfl) rfl (ps:=[pS (x_17.1),pB (x_17.2)]) (And.intro (aN.tmp rfl) (And.intro (aN.tmp rfl) trivial)) rfl rfl
    ·replace h:=bF h oe
     refine QW.skip zL (iS (cn ?_))
     refine QW.seq ?_
     refine QW.region zL (PW.nj (id:=13) dG (M:=_) rfl (by kernel_rfl) ?_)
     refine qS 55 (ax (.d (ai p0)) (q2 ?_))
     refine qS 56 (ax (.d (.slice (aP.map aa))) (q2 ?_))
     obtain ⟨wY,h⟩:=bq h
     refine qS 57 (bX aP (0:Int) TT.fy fl wY (q2 ?_))
     refine qS 58 (aA (.val (.int .u8 ((idx aP (0:Int)).toNat:Int))) TT.l6 (q2 ?_))
     obtain ⟨qK,h⟩:=bq h
     refine qS 59 (dg (q2 ?_) (hx:=by exact dh qK))
     refine qS 60 (aL TT.iX (q2 ?_))
     obtain ⟨F4,h⟩:=bq h
     refine qS 61 (lg ((idx aP (0:Int)).toNat:Int) TT.kE (q2 ?_) (h:=F4))
     refine qS 62 (aA (ai (idx ((p0.at).cg).1 ((idx aP (0:Int)).toNat:Int))) TT.gF (q2 ?_) (h:=nq (oz _) F4))
     refine qS 63 (ax (.d (.slice (aP.map aa))) (q2 ?_))
     obtain ⟨MF,h⟩:=bq h
     refine qS 64 (p7 aP (1:Int) (aP.length:Int) TT.bt TT.fy MF (q2 ?_))
     obtain ⟨x_23,XO,h⟩:=bO h
     refine qS 65 (az (dZ (idx ((p0.at).cg).1 ((idx aP (0:Int)).toNat:Int)) (sub aP (1:Int) (aP.length:Int)) _ XO) (q2 ?_))
     refine qS 66 (aY (q2 ?_))
     refine qS 67 (aY (q2 ?_))
     refine qS 4 (cj (pS (x_23.1)) (q2 ?_))
     refine qS 5 (cj (pB (x_23.2)) (q2 ?_))
     refine RQ.nil (cn ?_)
     refine QW.ret zL ?_
     obtain rfl:=sO h
     exact Ends.more (.inr rfl) rfl (ps:=[pS (x_23.1),pB (x_23.2)]) (And.intro (aN.tmp rfl) (And.intro (aN.tmp rfl) trivial)) rfl rfl
noncomputable def jB:Nat→af→(List UInt8)→Option ((List UInt8)×Bool)
 | 0=>fun _ _=>none
 | n+1=>fun y0 y1=>iz (jB n) y0 y1
theorem vP:∀ (n:Nat) (y0:af) (y1:(List UInt8)) (rr:((List UInt8)×Bool)),jB n y0 y1=some rr→cD Tryz.prog 28 [ai y0, .slice (y1.map aa)] (.tuple [.val (sV (rr.1)), .val (.bool (rr.2))])
 | 0,_,_,_,h=>by cases h
 | n+1,y0,y1,rr,h=>Cv (jB n) (vP n) y0 y1 rr h
noncomputable def uy (y0:af) (y1:(List UInt8)):Option ((List UInt8)×Bool):=vG (fun n=>jB n y0 y1)
theorem Dt (y0:af) (y1:(List UInt8)) (rr:((List UInt8)×Bool)) (h:uy y0 y1=some rr):cD Tryz.prog 28 [ai y0, .slice (y1.map aa)] (.tuple [.val (sV (rr.1)), .val (.bool (rr.2))]):=by
 obtain ⟨n,hn⟩:=n8 h
 exact vP n y0 y1 rr hn
noncomputable def kL (t0:Tree) (k1:(aD 32 UInt8)):Option ((List UInt8)×Int):=
  ((sB k1).bind fun (x_1:(List UInt8))=>
  ((uy (t0.fp) x_1).bind fun (x_3:((List UInt8)×Bool))=>
  (bif (!(x_3).2) then
  some (([]:List UInt8),7)
  else
  some (x_3.1,0))))
theorem w8 (t0:Tree) (k1:(aD 32 UInt8)) (r:((List UInt8)×Int)) (h:kL t0 k1=some r):cD Tryz.prog 11 [.agg (dQ t0), .agg (k1.1.map aa)] (.tuple [.val (sV (r.1)), .val (.int .i64 (r.2))]):=by
 refine cD.yS Tryz.func11 rfl (by simp [Tryz.ntmps11]) TT.Dp ?_
 rw [Tryz.ntmps11,TT.Vv]
 refine QW.view (s':=⟨bW [(0, .d (.agg (dQ t0))),(1, .d (.agg (k1.1.map aa)))],aK [],0,[]⟩) (View.init (by rfl)) zL ?_
 unfold kL at h
 refine sR ?_
 refine XK.fz (some 2) rfl rfl (eE (dQ t0) rfl rfl rfl rfl rfl ?_)
 refine XK.fz (some 3) rfl rfl (eE (k1.1.map aa) rfl rfl rfl rfl bK ?_)
 refine xa 4 (pS ([]:List UInt8)) ?_
 refine xT 5 (bl [pI (0)] TT.yT ?_)
 refine sR ?_
 refine XK.df (L:=[.aR 0 0]) none rfl rfl rfl rfl rfl ?_
 refine XK.nz ?_
 refine QW.seq ?_
 refine QW.region zL (PW.nj (id:=2) dG (M:=_) rfl (by kernel_rfl) ?_)
 refine qS 8 (aL TT.iK (q2 ?_))
 refine qS 9 (aA (ai (t0.fp)) TT.gF (q2 ?_))
 refine qS 10 (aA (.agg (k1.1.map aa)) TT.qu (q2 ?_) (h:=by exact s9 (by rw [List.length_map,k1.2])))
 obtain ⟨x_1,fk,h⟩:=bO h
 refine qS 11 (az (yo k1 _ fk) (q2 ?_))
 obtain ⟨x_3,ri,h⟩:=bO h
 refine qS 12 (az (Dt (t0.fp) x_1 _ ri) (q2 ?_))
 refine qS 7 (ax (.d (.tuple [.val (sV (x_3.1)), .val (.bool (x_3.2))])) (q2 ?_))
 refine qS 13 (aY (q2 ?_))
 refine qS 14 (aY (q2 ?_))
 refine qS 4 (cj (pS (x_3.1)) (q2 ?_))
 refine qS 6 (cj (pB (x_3.2)) (q2 ?_))
 refine RQ.nil (cn ?_)
 refine QW.seq ?_
 refine QW.seq ?_
 refine QW.view (s':=⟨bW [(4,pS (x_3.1)),(5, .aR 0 0),(6,pB (x_3.2))],aK [.var [pI (0)]],1,[(25,[.aR 0 0])]⟩) (vM 1 [0]) zL ?_
 refine rG ?_
 refine xm 15 (pB (x_3.2)) ?_
 refine xT 16 (kV ?_)
 refine cT (!(x_3).2) (fun mO=>?_) (fun mO=>?_)
 ·replace h:=bT h mO
  refine sR ?_
  refine xa 4 (pS ([]:List UInt8)) ?_
  refine xN (aV [pI (7)] TT.kX ?_)
  refine XK.nz ?_
  refine QW.ret zL (dc ?_)
  obtain rfl:=sO h
  exact .inl (wL.more [pS ([]:List UInt8),pI (7)] 0 (pI (7)) (pI (7)) none rfl rfl (kZ 7) rfl rfl rfl (And.intro (aN.tmp rfl) (And.intro (aN.cell rfl rfl TT.kX ⟨⟨by simp,by simp⟩,rfl⟩) trivial)) rfl)
 ·replace h:=bF h mO
  refine sk ?_
  refine sR ?_
  refine xm 17 (pS (x_3.1)) ?_
  refine xa 4 (pS (x_3.1)) ?_
  refine xN (aV [pI (0)] TT.kX ?_)
  refine XK.nz ?_
  refine QW.ret zL ?_
  obtain rfl:=sO h
  exact .inl (wL.more [pS (x_3.1),pI (0)] 0 (pI (0)) (pI (0)) none rfl rfl (kZ 0) rfl rfl rfl (And.intro (aN.tmp rfl) (And.intro (aN.cell rfl rfl TT.kX ⟨⟨by simp,by simp⟩,rfl⟩) trivial)) rfl)
noncomputable def mw (fB:(List UInt8)) (p1:af):Option af:=
  gO (p1.isNil=false) (
  (bif (decide (((p1.at).aX)=(-1:Int))) then
  none
  else
  (bif (decide (((p1.at).aX)=(1:Int))) then
  gO (p1.isNil=false) (
  ((sC ([fB,(p1.at).bA]:List (List UInt8))).bind fun (x_5:(List UInt8))=>
  gO (p1.isNil=false) (
  ((l8 x_5 ((p1.at).dU)).bind fun (x_8:af)=>
  some x_8))))
  else
  (bif (decide (((p1.at).aX)=(2:Int))) then
  gO (p1.isNil=false) (
  ((sC ([fB,(p1.at).bA]:List (List UInt8))).bind fun (x_12:(List UInt8))=>
  gO (p1.isNil=false) (
  ((mq x_12 (idx ((p1.at).cg).1 (0:Int))).bind fun (x_15:af)=>
  some x_15))))
  else
  ((mq fB p1).bind fun (x_17:af)=>
  some x_17)))))
theorem As (fB:(List UInt8)) (p1:af) (r:af) (h:mw fB p1=some r):cD Tryz.prog 44 [.slice (fB.map aa),ai p1] (ai r):=by
 refine fQ Tryz.func44 Tryz.ntmps44 TT.VH ?_
 unfold mw at h
 refine sR ?_
 refine xz 4 (.d (ai (af.nil))) ?_
 refine QW.seq ?_
 refine sR ?_
 refine xm 5 (.d (ai p1)) ?_
 obtain ⟨oK,h⟩:=bq h
 refine xS 6 (dg ?_ (hx:=by exact dh oK))
 refine xS 7 (aL TT.kK ?_)
 refine xT 8 (aA (.val (.int .i64 ((p1.at).aX))) TT.jl ?_ (h:=jM _))
 refine QW.block ?_
 refine sR ?_
 refine xS 10 (dj ((p1.at).aX) (-1:Int) ?_)
 refine xz 9 (pB (decide (((p1.at).aX)=(-1:Int)))) ?_
 refine cT (decide (((p1.at).aX)=(-1:Int))) (fun cQ=>?_) (fun cQ=>?_)
 ·replace h:=bT h cQ
  refine rG ?_
  refine xS 11 (dX (.agg []) rfl TT.Ib (cI rfl cH) ?_)
  refine xS 12 (BY (.agg []) ?_)
  refine XK.panic rfl rfl rfl (K8 (tR ?_))
  cases h
 ·replace h:=bF h cQ
  refine sR ?_
  refine xS 14 (dj ((p1.at).aX) (1:Int) ?_)
  refine xz 13 (pB (decide (((p1.at).aX)=(1:Int)))) ?_
  refine cT (decide (((p1.at).aX)=(1:Int))) (fun dY=>?_) (fun dY=>?_)
  ·replace h:=bT h dY
   refine QW.seq ?_
   refine QW.region zL (PW.nj (id:=5) dG (M:=_) rfl (by kernel_rfl) ?_)
   refine qS 15 (ax (.d (.slice (fB.map aa))) (q2 ?_))
   refine qS 16 (ax (.d (ai p1)) (q2 ?_))
   obtain ⟨rW,h⟩:=bq h
   refine qS 17 (dg (q2 ?_) (hx:=by exact dh rW))
   refine qS 18 (aL TT.j8 (q2 ?_))
   refine qS 19 (aA (.slice (((p1.at).bA).map aa)) TT.fJ (q2 ?_) (h:=iZ _))
   refine qS 20 (eA (eL aa) ([fB,(p1.at).bA]:List (List UInt8)) TT.B4 (q2 ?_) (hl:=Hr))
   obtain ⟨x_5,vH,h⟩:=bO h
   refine qS 21 (az (uK ([fB,(p1.at).bA]:List (List UInt8)) _ vH) (q2 ?_))
   refine qS 22 (ax (.d (ai p1)) (q2 ?_))
   obtain ⟨pJ,h⟩:=bq h
   refine qS 23 (dg (q2 ?_) (hx:=by exact dh pJ))
   refine qS 24 (aL TT.zS (q2 ?_))
   refine qS 25 (aA (.val (sV ((p1.at).dU))) TT.eG (q2 ?_) (h:=x3 _))
   obtain ⟨x_8,Eh,h⟩:=bO h
   refine qS 26 (az (qi x_5 ((p1.at).dU) _ Eh) (q2 ?_))
   refine qS 4 (cj (.d (ai x_8)) (q2 ?_))
   refine RQ.nil (cn ?_)
   refine QW.ret zL (nK (dc ?_))
   obtain rfl:=sO h
   exact eO
  ·replace h:=bF h dY
   refine sR ?_
   refine xS 28 (dj ((p1.at).aX) (2:Int) ?_)
   refine xz 27 (pB (decide (((p1.at).aX)=(2:Int)))) ?_
   refine cT (decide (((p1.at).aX)=(2:Int))) (fun oN=>?_) (fun oN=>?_)
   ·replace h:=bT h oN
    refine QW.seq ?_
    refine QW.region zL (PW.nj (id:=7) dG (M:=_) rfl (by kernel_rfl) ?_)
    refine qS 29 (ax (.d (.slice (fB.map aa))) (q2 ?_))
    refine qS 30 (ax (.d (ai p1)) (q2 ?_))
    obtain ⟨td,h⟩:=bq h
    refine qS 31 (dg (q2 ?_) (hx:=by exact dh td))
    refine qS 32 (aL TT.j8 (q2 ?_))
    refine qS 33 (aA (.slice (((p1.at).bA).map aa)) TT.fJ (q2 ?_) (h:=iZ _))
    refine qS 34 (eA (eL aa) ([fB,(p1.at).bA]:List (List UInt8)) TT.B4 (q2 ?_) (hl:=Hr))
    obtain ⟨x_12,tg,h⟩:=bO h
    refine qS 35 (az (uK ([fB,(p1.at).bA]:List (List UInt8)) _ tg) (q2 ?_))
    refine qS 36 (ax (.d (ai p1)) (q2 ?_))
    obtain ⟨tc,h⟩:=bq h
    refine qS 37 (dg (q2 ?_) (hx:=by exact dh tc))
    refine qS 38 (aL TT.iX (q2 ?_))
    refine qS 39 (lg (0:Int) TT.kE (q2 ?_))
    refine qS 40 (aA (ai (idx ((p1.at).cg).1 (0:Int))) TT.gF (q2 ?_) (h:=by exact nq (oz _) (by decide)))
    obtain ⟨x_15,r4,h⟩:=bO h
    refine qS 41 (az (ry x_12 (idx ((p1.at).cg).1 (0:Int)) _ r4) (q2 ?_))
    refine qS 4 (cj (.d (ai x_15)) (q2 ?_))
    refine RQ.nil (cn ?_)
    refine QW.ret zL (nK (dc ?_))
    obtain rfl:=sO h
    exact eO
   ·replace h:=bF h oN
    refine QW.skip zL (iS (cn ?_))
    refine sR ?_
    refine xm 42 (.d (.slice (fB.map aa))) ?_
    refine xm 43 (.d (ai p1)) ?_
    obtain ⟨x_17,zN,h⟩:=bO h
    refine xS 44 (az (ry fB p1 _ zN) ?_)
    refine xz 4 (.d (ai x_17)) ?_
    refine QW.ret zL ?_
    obtain rfl:=sO h
    exact eO
inductive w9 where
 | S
 | L1 (qM:(aD 16 af)) (mz:Int) (dR:Int) (gA:Int)
noncomputable def iA (jy:(aD 16 af)):w9→Option (w9⊕af)
 | .S=>
  some (.inl (.L1 jy (0) (0) (0)))
 | .L1 qM mz dR gA=>
  (bif (decide (gA<(16:Int))) then
  gO (0≤gA∧gA<((16:Nat):Int)) (
  (bif (!(idx jy.1 gA).isNil) then
  gO (bf (mz+(1:Int))) (
  gO (bf (gA+(1:Int))) (
  some (.inl (.L1 qM (mz+(1:Int)) gA (gA+(1:Int))))))
  else
  gO (bf (gA+(1:Int))) (
  some (.inl (.L1 qM mz dR (gA+(1:Int)))))))
  else
  (bif (decide ((1:Int)<mz)) then
  some (.inr (af.of (⟨3,([]:(List UInt8)),([]:List UInt8),qM,([]:List UInt8)⟩:part)))
  else
  gO (0≤dR∧dR<((16:Nat):Int)) (
  ((mw ([(g7 dR)]:List UInt8) (idx qM.1 dR)).bind fun (x_10:af)=>
  some (.inr x_10)))))
noncomputable def tu (jy:(aD 16 af)):Option af:=gJ (iA jy) .S
theorem Fb (jy:(aD 16 af)) (r:af) (h:tu jy=some r):cD Tryz.prog 45 [.agg (jy.1.map ai)] (ai r):=by
 refine fQ Tryz.func45 Tryz.ntmps45 TT.VI ?_
 obtain ⟨_,h⟩:=cP h
 obtain ⟨dm,e9,h⟩:=aQ h;rw [iA] at h
 refine sR ?_
 refine XK.fz (some 1) rfl rfl (eE (jy.1.map ai) rfl rfl rfl rfl bK ?_)
 refine xz 2 (.d (ai (af.nil))) ?_
 refine sR ?_
 refine xa 3 (pI (0)) ?_
 refine xz 4 (pI (0)) ?_
 refine QW.seq ?_
 refine sR ?_
 refine xS 7 (aA (.agg (jy.1.map ai)) TT.zU ?_ (h:=by exact s9 (by rw [List.length_map,jy.2])))
 refine xm 8 (pI (0)) ?_
 refine XK.nz ?_
 refine QW.block ?_
 refine lp (fun k σ=>∃ qM:(aD 16 af),∃ mz:Int,∃ dR:Int,∃ gA:Int,k≤dm∧run (iA jy) k (.L1 qM mz dR gA)=some r∧σ=⟨bW [(1, .d (.cF (qM.1.map ai))),(3,pI mz),(4,pI dR),(7, .d (.agg (jy.1.map ai))),(8,pI gA)],aK [],0,[]⟩) dm ⟨jy,0,0,0,Nat.le_refl _,jG h,rfl⟩ (vM 0 []) ?_
 rintro wP _ ⟨qM,mz,dR,gA,wQ,h,rfl⟩
 obtain ⟨k_1,e9,h⟩:=aQ h;rw [iA] at h
 refine sR ?_
 refine xT 9 (cM gA (16:Int) ?_)
 refine QW.seq ?_
 refine cT (decide (gA<(16:Int))) (fun cQ=>?_) (fun cQ=>?_)
 ·replace h:=ej h cQ
  refine sk ?_
  refine QW.seq ?_
  refine QW.block ?_
  refine sR ?_
  refine xm 10 (pI gA) ?_
  obtain ⟨eD,h⟩:=gG h
  refine xS 11 (wA jy gA TT.kE eD ?_)
  refine xa 5 (pI gA) ?_
  refine xz 6 (.d (ai (idx jy.1 gA))) ?_
  refine sR ?_
  refine xm 12 (.d (ai (idx jy.1 gA))) ?_
  refine xT 13 (HG TT.sJ ?_)
  refine cT (!(idx jy.1 gA).isNil) (fun fA=>?_) (fun fA=>?_)
  ·replace h:=ej h fA
   refine sR ?_
   refine xm 14 (pI mz) ?_
   obtain ⟨nM,h⟩:=gG h
   refine xS 15 (bE mz (1:Int) nM ?_)
   refine xz 3 (pI (mz+(1:Int))) ?_
   refine rG ?_
   refine xm 16 (pI gA) ?_
   refine xa 4 (pI gA) ?_
   refine XK.nil (iS (cn ?_))
   refine rG ?_
   obtain ⟨oM,h⟩:=gG h
   refine xS 17 (bE gA (1:Int) oM ?_)
   refine xm 8 (pI (gA+(1:Int))) ?_
   refine XK.nz ?_
   exact lb k_1 ⟨qM,(mz+(1:Int)),gA,(gA+(1:Int)),by omega,jG h,rfl⟩ (vM 0 [])
  ·replace h:=ek h fA
   refine QW.skip zL (iS (cn ?_))
   refine rG ?_
   obtain ⟨pJ,h⟩:=gG h
   refine xS 17 (bE gA (1:Int) pJ ?_)
   refine xm 8 (pI (gA+(1:Int))) ?_
   refine XK.nz ?_
   exact lb k_1 ⟨qM,mz,dR,(gA+(1:Int)),by omega,jG h,rfl⟩ (vM 0 [])
 ·replace h:=ek h cQ
  refine QW.exit zL (eP (eP (kW (cn ?_))))
  refine QW.seq ?_
  refine sR ?_
  refine xm 18 (pI mz) ?_
  refine xT 19 (kU mz (1:Int) ?_)
  refine cT (decide ((1:Int)<mz)) (fun og=>?_) (fun og=>?_)
  ·replace h:=ej h og
   refine sR ?_
   refine xS 20 (aA (.agg (qM.1.map ai)) TT.zU ?_ (h:=by exact s9 (by rw [List.length_map,qM.2])))
   refine xS 21 (dX (.agg (([pI (3), .full (([]:(List UInt8)).map aa),pS ([]:List UInt8)])++(((qM.1.map ai).map PV.d)++([pS ([]:List UInt8)])))) rfl TT.Bk (cI rfl (bY (p:=pI (3)) (cells:=(([pI (0), .full (([]:(List UInt8)).map aa),pS ([]:List UInt8)])++((((aD.rep 16 af.nil).1.map ai).map PV.d)++([pS ([]:List UInt8)])))) (cells':=(([pI (3), .full (([]:(List UInt8)).map aa),pS ([]:List UInt8)])++((((aD.rep 16 af.nil).1.map ai).map PV.d)++([pS ([]:List UInt8)])))) rfl rfl rfl (bz (ay (A:=[pI (0), .full (([]:(List UInt8)).map aa),pS ([]:List UInt8)]) (b:=17) rfl (ay (A:=((aD.rep 16 af.nil).1.map ai).map PV.d) (b:=1) (aj _) rfl rfl) rfl) bL) (eJ 0 (by first | exact Nat.le_of_ble_eq_true rfl | simp) rfl) (bY (p:= .d (.agg (qM.1.map ai))) (cells:=(([pI (3), .full (([]:(List UInt8)).map aa),pS ([]:List UInt8)])++((((aD.rep 16 af.nil).1.map ai).map PV.d)++([pS ([]:List UInt8)])))) (cells':=(([pI (3), .full (([]:(List UInt8)).map aa),pS ([]:List UInt8)])++(((qM.1.map ai).map PV.d)++([pS ([]:List UInt8)])))) rfl rfl (show ((qM.1.map ai).map PV.d).length=_ from aj _) (bz (ay (A:=[pI (3), .full (([]:(List UInt8)).map aa),pS ([]:List UInt8)]) (b:=17) rfl (ay (A:=((aD.rep 16 af.nil).1.map ai).map PV.d) (b:=1) (aj _) rfl rfl) rfl) bL) (qt 3 0 rfl (HF (aj _) (aj _))) cH))) ?_)
   refine XK.fx (some 22) rfl rfl (eE (gU (⟨3,([]:(List UInt8)),([]:List UInt8),qM,([]:List UInt8)⟩:part)) rfl rfl rfl rfl (ia rfl (ia bK rfl)) ⟨_,fX.m5 (sA (⟨3,([]:(List UInt8)),([]:List UInt8),qM,([]:List UInt8)⟩:part)) rfl,?_⟩)
   refine xz 2 (.d (ai (af.of (⟨3,([]:(List UInt8)),([]:List UInt8),qM,([]:List UInt8)⟩:part)))) ?_
   refine QW.ret zL (dc ?_)
   obtain rfl:=sG h
   exact eO
  ·replace h:=ek h og
   refine sk ?_
   refine sR ?_
   refine xm 23 (pI dR) ?_
   refine xS 24 (oY dR TT.kD TT.dw ?_)
   refine xS 25 (eA aa ([(g7 dR)]:List UInt8) TT.eV ?_)
   refine xm 26 (pI dR) ?_
   obtain ⟨r5,h⟩:=gG h
   refine xS 27 (lg dR TT.kE ?_ (h:=r5))
   refine xS 28 (aA (ai (idx qM.1 dR)) TT.gF ?_ (h:=nq (Pre.all _) r5))
   obtain ⟨x_10,wW,h⟩:=bG h
   refine xS 29 (az (As ([(g7 dR)]:List UInt8) (idx qM.1 dR) _ wW) ?_)
   refine xz 2 (.d (ai x_10)) ?_
   refine QW.ret zL ?_
   obtain rfl:=sG h
   exact eO
noncomputable def j9 (self:af→(List UInt8)→Option af) (p0:af) (aP:(List UInt8)):Option af:=
  gO (p0.isNil=false) (
  (bif (decide (((p0.at).aX)=(1:Int))) then
  some (af.nil)
  else
  (bif (decide (((p0.at).aX)=(2:Int))) then
  gO (p0.isNil=false) (
  gO (p0.isNil=false) (
  gO (p0.isNil=false) (
  gO (0≤(((p0.at).bA).length:Int)∧(((p0.at).bA).length:Int)≤(aP.length:Int)∧(aP.length:Int)≤(aP.length:Int)) (
  ((self (idx ((p0.at).cg).1 (0:Int)) (sub aP (((p0.at).bA).length:Int) (aP.length:Int))).bind fun (x_8:af)=>
  ((mw ((p0.at).bA) x_8).bind fun (x_10:af)=>
  some x_10))))))
  else
  gO (p0.isNil=false) (
  gO (0≤(0:Int)∧(0:Int)<(aP.length:Int)) (
  gO (0≤(0:Int)∧(0:Int)<(aP.length:Int)) (
  gO (p0.isNil=false) (
  gO (0≤((idx aP (0:Int)).toNat:Int)∧((idx aP (0:Int)).toNat:Int)<((16:Nat):Int)) (
  gO (0≤(1:Int)∧(1:Int)≤(aP.length:Int)∧(aP.length:Int)≤(aP.length:Int)) (
  ((self (idx ((p0.at).cg).1 ((idx aP (0:Int)).toNat:Int)) (sub aP (1:Int) (aP.length:Int))).bind fun (x_18:af)=>
  gO (0≤((idx aP (0:Int)).toNat:Int)∧((idx aP (0:Int)).toNat:Int)<((16:Nat):Int)) (
  ((tu (((p0.at).cg).put ((idx aP (0:Int)).toNat:Int) x_18)).bind fun (x_21:af)=>
  some x_21))))))))))))
theorem Cw (self:af→(List UInt8)→Option af) (dZ:∀ (y0:af) (y1:(List UInt8)) (rr:af),self y0 y1=some rr→cD Tryz.prog 26 [ai y0, .slice (y1.map aa)] (ai rr)) (p0:af) (aP:(List UInt8)) (r:af) (h:j9 self p0 aP=some r):cD Tryz.prog 26 [ai p0, .slice (aP.map aa)] (ai r):=by
 refine fQ Tryz.func26 Tryz.ntmps26 TT.VD ?_
 unfold j9 at h
 refine sR ?_
 refine xz 4 (.d (ai (af.nil))) ?_
 refine QW.seq ?_
 refine sR ?_
 refine xm 6 (.d (ai p0)) ?_
 obtain ⟨oK,h⟩:=bq h
 refine xS 7 (dg ?_ (hx:=by exact dh oK))
 refine xS 8 (aL TT.kK ?_)
 refine xT 9 (aA (.val (.int .i64 ((p0.at).aX))) TT.jl ?_ (h:=jM _))
 refine QW.block ?_
 refine sR ?_
 refine xS 11 (dj ((p0.at).aX) (1:Int) ?_)
 refine xz 10 (pB (decide (((p0.at).aX)=(1:Int)))) ?_
 refine cT (decide (((p0.at).aX)=(1:Int))) (fun cQ=>?_) (fun cQ=>?_)
 ·replace h:=bT h cQ
  refine sR ?_
  refine xz 4 (.d (ai (af.nil))) ?_
  refine QW.ret zL (nK (dc ?_))
  obtain rfl:=sO h
  exact eO
 ·replace h:=bF h cQ
  refine sR ?_
  refine xS 13 (dj ((p0.at).aX) (2:Int) ?_)
  refine xz 12 (pB (decide (((p0.at).aX)=(2:Int)))) ?_
  refine cT (decide (((p0.at).aX)=(2:Int))) (fun dY=>?_) (fun dY=>?_)
  ·replace h:=bT h dY
   refine QW.seq ?_
   refine QW.region zL (PW.nj (id:=5) dG (M:=_) rfl (by kernel_rfl) ?_)
   refine qS 14 (ax (.d (ai p0)) (q2 ?_))
   obtain ⟨rW,h⟩:=bq h
   refine qS 15 (dg (q2 ?_) (hx:=by exact dh rW))
   refine qS 16 (aL TT.j8 (q2 ?_))
   refine qS 17 (aA (.slice (((p0.at).bA).map aa)) TT.fJ (q2 ?_) (h:=iZ _))
   refine qS 18 (ax (.d (ai p0)) (q2 ?_))
   obtain ⟨nM,h⟩:=bq h
   refine qS 19 (dg (q2 ?_) (hx:=by exact dh nM))
   refine qS 20 (aL TT.iX (q2 ?_))
   refine qS 21 (lg (0:Int) TT.kE (q2 ?_))
   refine qS 22 (aA (ai (idx ((p0.at).cg).1 (0:Int))) TT.gF (q2 ?_) (h:=by exact nq (oz _) (by decide)))
   refine qS 23 (ax (.d (.slice (aP.map aa))) (q2 ?_))
   refine qS 24 (ax (.d (ai p0)) (q2 ?_))
   obtain ⟨oM,h⟩:=bq h
   refine qS 25 (dg (q2 ?_) (hx:=by exact dh oM))
   refine qS 26 (aL TT.j8 (q2 ?_))
   refine qS 27 (aA (.slice (((p0.at).bA).map aa)) TT.fJ (q2 ?_) (h:=iZ _))
   refine qS 28 (cX aa ((p0.at).bA) TT.bt (q2 ?_))
   obtain ⟨pJ,h⟩:=bq h
   refine qS 29 (p7 aP (((p0.at).bA).length:Int) (aP.length:Int) TT.bt TT.fy pJ (q2 ?_))
   obtain ⟨x_8,Eh,h⟩:=bO h
   refine qS 30 (az (dZ (idx ((p0.at).cg).1 (0:Int)) (sub aP (((p0.at).bA).length:Int) (aP.length:Int)) _ Eh) (q2 ?_))
   obtain ⟨x_10,wW,h⟩:=bO h
   refine qS 31 (az (As ((p0.at).bA) x_8 _ wW) (q2 ?_))
   refine qS 4 (cj (.d (ai x_10)) (q2 ?_))
   refine RQ.nil (cn ?_)
   refine QW.ret zL (nK (dc ?_))
   obtain rfl:=sO h
   exact eO
  ·replace h:=bF h dY
   refine QW.skip zL (iS (cn ?_))
   refine sR ?_
   refine xm 32 (.d (ai p0)) ?_
   obtain ⟨kP,h⟩:=bq h
   refine xS 33 (dg ?_ (hx:=by exact dh kP))
   refine xS 34 (aL TT.iX ?_)
   refine xS 35 (aA (.agg (((p0.at).cg).1.map ai)) TT.zU ?_ (h:=A5 _))
   refine xS 5 (bl (((aD.rep 16 af.nil).1.map ai).map .d) TT.QJ ?_)
   refine xN (aV ((((p0.at).cg).1.map ai).map .d) TT.zU ?_ (hn:=by exact aj _) (hf:=by exact oZ _) (hl:=by exact cE ((aj _).trans (aj _).symm)))
   refine XK.nz ?_
   refine QW.seq ?_
   refine QW.region zL (PW.qX (id:=7) dG (M:=_) rfl (by kernel_rfl) ?_)
   refine kS 36 (ax (.d (.slice (aP.map aa))) ?_)
   obtain ⟨nU,h⟩:=bq h
   refine kS 37 (bX aP (0:Int) TT.fy fl nU ?_)
   refine kS 38 (aA (.val (.int .u8 ((idx aP (0:Int)).toNat:Int))) TT.l6 ?_)
   refine kS 39 (ax (.d (ai p0)) ?_)
   refine kS 40 (ax (.d (.slice (aP.map aa))) ?_)
   obtain ⟨tc,h⟩:=bq h
   refine kS 41 (bX aP (0:Int) TT.fy fl tc ?_)
   refine kS 42 (aA (.val (.int .u8 ((idx aP (0:Int)).toNat:Int))) TT.l6 ?_)
   obtain ⟨uY,h⟩:=bq h
   refine kS 43 (dg ?_ (hx:=by exact dh uY))
   refine kS 44 (aL TT.iX ?_)
   obtain ⟨q8,h⟩:=bq h
   refine kS 45 (lg ((idx aP (0:Int)).toNat:Int) TT.kE ?_ (h:=q8))
   refine kS 46 (aA (ai (idx ((p0.at).cg).1 ((idx aP (0:Int)).toNat:Int))) TT.gF ?_ (h:=nq (oz _) q8))
   refine kS 47 (ax (.d (.slice (aP.map aa))) ?_)
   obtain ⟨oB,h⟩:=bq h
   refine kS 48 (p7 aP (1:Int) (aP.length:Int) TT.bt TT.fy oB ?_)
   obtain ⟨x_18,vt,h⟩:=bO h
   refine kS 49 (az (dZ (idx ((p0.at).cg).1 ((idx aP (0:Int)).toNat:Int)) (sub aP (1:Int) (aP.length:Int)) _ vt) ?_)
   obtain ⟨qK,h⟩:=bq h
   refine kS 50 (cZ ((idx aP (0:Int)).toNat:Int) TT.kE ?_ (h:=by exact qK))
   refine RK.st none rfl rfl (aV (((((p0.at).cg).put ((idx aP (0:Int)).toNat:Int) x_18).1.map ai).map .d) TT.gF ?_ (hf:=by exact uV qK) (hl:=s7 qK))
   refine RK.nil ⟨fH.last 15 (by simp) (by simp) (by rfl),(cn ?_)⟩
   refine QW.seq ?_
   refine QW.view (s':=⟨bW [(5, .aR 0 0)],aK [.var (((((p0.at).cg).put ((idx aP (0:Int)).toNat:Int) x_18).1.map ai).map .d)],1,[]⟩) (vM 1 [0]) zL ?_
   refine rG ?_
   refine xA 51 (aW (.agg (((((p0.at).cg).put ((idx aP (0:Int)).toNat:Int) x_18).1.map ai).map .d)) TT.zU ⟨.d (.agg ((((p0.at).cg).put ((idx aP (0:Int)).toNat:Int) x_18).1.map ai)),jk,?_⟩ (h:=by exact lq (by decide)))
   obtain ⟨x_21,H9,h⟩:=bO h
   refine xS 52 (az (Fb (((p0.at).cg).put ((idx aP (0:Int)).toNat:Int) x_18) _ H9) ?_)
   refine xz 4 (.d (ai x_21)) ?_
   refine QW.ret zL ?_
   obtain rfl:=sO h
   exact eO
noncomputable def jC:Nat→af→(List UInt8)→Option af
 | 0=>fun _ _=>none
 | n+1=>fun y0 y1=>j9 (jC n) y0 y1
theorem vQ:∀ (n:Nat) (y0:af) (y1:(List UInt8)) (rr:af),jC n y0 y1=some rr→cD Tryz.prog 26 [ai y0, .slice (y1.map aa)] (ai rr)
 | 0,_,_,_,h=>by cases h
 | n+1,y0,y1,rr,h=>Cw (jC n) (vQ n) y0 y1 rr h
noncomputable def uz (y0:af) (y1:(List UInt8)):Option af:=vG (fun n=>jC n y0 y1)
theorem Du (y0:af) (y1:(List UInt8)) (rr:af) (h:uz y0 y1=some rr):cD Tryz.prog 26 [ai y0, .slice (y1.map aa)] (ai rr):=by
 obtain ⟨n,hn⟩:=n8 h
 exact vQ n y0 y1 rr hn
noncomputable def mF (t0:Tree) (k1:(aD 32 UInt8)):Option (Tree×Int):=
  ((kL t0 k1).bind fun (x_1:((List UInt8)×Int))=>
  (bif (!decide ((x_1.2)=(0:Int))) then
  some ((⟨af.nil⟩:Tree),x_1.2)
  else
  ((sB k1).bind fun (x_4:(List UInt8))=>
  ((uz (t0.fp) x_4).bind fun (x_6:af)=>
  some ((⟨x_6⟩:Tree),0)))))
theorem Dv (t0:Tree) (k1:(aD 32 UInt8)) (r:(Tree×Int)) (h:mF t0 k1=some r):cD Tryz.prog 8 [.agg (dQ t0), .agg (k1.1.map aa)] (.tuple [.agg (dQ (r.1)), .val (.int .i64 (r.2))]):=by
 refine cD.yS Tryz.func8 rfl (by simp [Tryz.ntmps8]) TT.Dp ?_
 rw [Tryz.ntmps8,TT.XM]
 refine QW.view (s':=⟨bW [(0, .d (.agg (dQ t0))),(1, .d (.agg (k1.1.map aa)))],aK [],0,[]⟩) (View.init (by rfl)) zL ?_
 unfold mF at h
 refine sR ?_
 refine XK.fz (some 2) rfl rfl (eE (dQ t0) rfl rfl rfl rfl rfl ?_)
 refine XK.fz (some 3) rfl rfl (eE (k1.1.map aa) rfl rfl rfl rfl bK ?_)
 refine xS 4 (bl [.d (ai (af.nil))] TT.nc ?_)
 refine xT 5 (bl [pI (0)] TT.yT ?_)
 refine QW.seq ?_
 refine sR ?_
 refine xS 10 (aA (.agg (dQ t0)) TT.eI ?_ (h:=by exact ⟨by simp [dQ],rfl⟩))
 refine xS 11 (aA (.agg (k1.1.map aa)) TT.qu ?_ (h:=by exact s9 (by rw [List.length_map,k1.2])))
 obtain ⟨x_1,fk,h⟩:=bO h
 refine xS 12 (az (w8 t0 k1 _ fk) ?_)
 refine xm 9 (.d (.tuple [.val (sV (x_1.1)), .val (.int .i64 (x_1.2))])) ?_
 refine xS 13 (aY ?_)
 refine xS 14 (aY ?_)
 refine xa 6 (pS (x_1.1)) ?_
 refine xz 7 (pI (x_1.2)) ?_
 refine sR ?_
 refine xm 15 (pI (x_1.2)) ?_
 refine xT 16 (mI (x_1.2) (0:Int) ?_)
 refine cT (!decide ((x_1.2)=(0:Int))) (fun dY=>?_) (fun dY=>?_)
 ·replace h:=bT h dY
  refine sR ?_
  refine xS 17 (dX (.agg [.d (ai (af.nil))]) rfl TT.ru (cI rfl cH) ?_)
  refine xm 18 (pI (x_1.2)) ?_
  refine xN (aV [.d (ai (af.nil))] TT.eI ?_)
  refine xN (aV [pI (x_1.2)] TT.kX ?_)
  refine XK.nz ?_
  refine QW.ret zL (dc ?_)
  obtain rfl:=sO h
  exact .inr (Ends.more (.inr rfl) rfl (ps:=[.agg [.d (ai (af.nil))],pI (x_1.2)]) (And.intro (aN.cell rfl rfl TT.eI ⟨⟨by simp,by simp⟩,rfl⟩) (And.intro (aN.cell rfl rfl TT.kX ⟨⟨by simp,by simp⟩,rfl⟩) trivial)) rfl rfl)
 ·replace h:=bF h dY
  refine sk ?_
  refine sR ?_
  refine XK.df (L:=[.aR 1 0]) none rfl rfl rfl rfl rfl ?_
  refine XK.nz ?_
  refine QW.seq ?_
  refine QW.region zL (PW.nj (id:=5) dG (M:=_) rfl (by kernel_rfl) ?_)
  refine qS 19 (aL TT.iK (q2 ?_))
  refine qS 20 (aA (ai (t0.fp)) TT.gF (q2 ?_))
  refine qS 21 (aA (.agg (k1.1.map aa)) TT.qu (q2 ?_) (h:=by exact s9 (by rw [List.length_map,k1.2])))
  obtain ⟨x_4,mQ,h⟩:=bO h
  refine qS 22 (az (yo k1 _ mQ) (q2 ?_))
  obtain ⟨x_6,u6,h⟩:=bO h
  refine qS 23 (az (Du (t0.fp) x_4 _ u6) (q2 ?_))
  refine qS 8 (cj (.d (ai x_6)) (q2 ?_))
  refine RQ.nil (cn ?_)
  refine sR ?_
  refine xm 24 (.d (ai x_6)) ?_
  refine xS 25 (dX (.agg [.d (ai x_6)]) rfl TT.ru (cI rfl (bY (cells':=[.d (ai x_6)]) rfl rfl rfl bL rfl cH)) ?_)
  refine xN (aV [.d (ai x_6)] TT.eI ?_)
  refine xN (aV [pI (0)] TT.kX ?_)
  refine XK.nz ?_
  refine QW.ret zL ?_
  obtain rfl:=sO h
  exact .inl (wL.more [.agg [.d (ai x_6)],pI (0)] 1 (pI (0)) (pI (0)) none rfl rfl (kZ 0) rfl rfl rfl (And.intro (aN.cell rfl rfl TT.eI ⟨⟨by simp,by simp⟩,rfl⟩) (And.intro (aN.cell rfl rfl TT.kX ⟨⟨by simp,by simp⟩,rfl⟩) trivial)) rfl)
inductive tv where
 | S
 | L1 (jg:Int) (l9:(List UInt8)) (mz:(aD 16 (List UInt8)))
noncomputable def iL (self:Tree→Option (List UInt8)) (p0:af):tv→Option (tv⊕Node)
 | .S=>
  gO (p0.isNil=false) (
  gO (p0.isNil=false) (
  ((cA ((p0.at).bA)).bind fun (x_3:(List UInt8))=>
  gO (p0.isNil=false) (
  gO (p0.isNil=false) (
  some (.inl (.L1 (0) x_3 (aD.rep 16 ([]:(List UInt8))))))))))
 | .L1 jg l9 mz=>
  (bif (decide (jg<(16:Int))) then
  gO (0≤jg∧jg<((16:Nat):Int)) (
  ((self (⟨(idx ((p0.at).cg).1 jg)⟩:Tree)).bind fun (x_10:(List UInt8))=>
  gO (0≤jg∧jg<((16:Nat):Int)) (
  gO (bf (jg+(1:Int))) (
  some (.inl (.L1 (jg+(1:Int)) l9 (mz.put jg x_10)))))))
  else
  some (.inr (⟨(p0.at).aX,l9,(p0.at).dU,mz⟩:Node)))
noncomputable def gW (self:Tree→Option (List UInt8)) (p0:af):Option Node:=gJ (iL self p0) .S
theorem vb (self:Tree→Option (List UInt8)) (dZ:∀ (y0:Tree) (rr:(List UInt8)),self y0=some rr→cD Tryz.prog 19 [.agg (dQ y0)] (.val (sV rr))) (p0:af) (r:Node) (h:gW self p0=some r):cD Tryz.prog 31 [ai p0] (.agg (cNode r)):=by
 refine fQ Tryz.func31 Tryz.ntmps31 TT.VG ?_
 obtain ⟨_,h⟩:=cP h
 obtain ⟨dm,e9,h⟩:=aQ h;rw [iL] at h
 refine sR ?_
 refine xT 2 (bl (([pI (0), .full (([]:(List UInt8)).map aa),pS ([]:List UInt8)])++(((aD.rep 16 ([]:(List UInt8))).1.map eS).map PV.d)) TT.kj ?_)
 refine QW.seq ?_
 refine QW.region zL (PW.qX (id:=1) dG (M:=_) rfl (by kernel_rfl) ?_)
 refine kS 6 (ax (.d (ai p0)) ?_)
 obtain ⟨oK,h⟩:=gG h
 refine kS 7 (dg ?_ (hx:=by exact dh oK))
 refine kS 8 (aL TT.kK ?_)
 refine kS 9 (aA (.val (.int .i64 ((p0.at).aX))) TT.jl ?_ (h:=jM _))
 refine kS 10 (ax (.d (ai p0)) ?_)
 obtain ⟨yp,h⟩:=gG h
 refine kS 11 (dg ?_ (hx:=by exact dh yp))
 refine kS 12 (aL TT.j8 ?_)
 refine kS 13 (aA (.slice (((p0.at).bA).map aa)) TT.fJ ?_ (h:=iZ _))
 obtain ⟨x_3,ri,h⟩:=bG h
 refine kS 14 (az (gb ((p0.at).bA) _ ri) ?_)
 refine kS 15 (ax (.d (ai p0)) ?_)
 obtain ⟨nM,h⟩:=gG h
 refine kS 16 (dg ?_ (hx:=by exact dh nM))
 refine kS 17 (aL TT.zS ?_)
 refine kS 18 (aA (.val (sV ((p0.at).dU))) TT.eG ?_ (h:=x3 _))
 refine kS 19 (dX (.agg (([pI ((p0.at).aX), .d (.slice (x_3.map aa)),pS ((p0.at).dU)])++(((aD.rep 16 ([]:(List UInt8))).1.map eS).map PV.d))) rfl TT.oc (cI rfl (bY (p:=pI ((p0.at).aX)) (cells:=(([pI (0), .full (([]:(List UInt8)).map aa),pS ([]:List UInt8)])++(((aD.rep 16 ([]:(List UInt8))).1.map eS).map PV.d))) (cells':=(([pI ((p0.at).aX), .full (([]:(List UInt8)).map aa),pS ([]:List UInt8)])++(((aD.rep 16 ([]:(List UInt8))).1.map eS).map PV.d))) rfl rfl rfl (bz (ay (A:=[pI (0), .full (([]:(List UInt8)).map aa),pS ([]:List UInt8)]) (b:=16) rfl (aj _) rfl) bL) (eJ 0 (by first | exact Nat.le_of_ble_eq_true rfl | simp) rfl) (bY (p:= .d (.slice (x_3.map aa))) (cells:=(([pI ((p0.at).aX), .full (([]:(List UInt8)).map aa),pS ([]:List UInt8)])++(((aD.rep 16 ([]:(List UInt8))).1.map eS).map PV.d))) (cells':=(([pI ((p0.at).aX), .d (.slice (x_3.map aa)),pS ([]:List UInt8)])++(((aD.rep 16 ([]:(List UInt8))).1.map eS).map PV.d))) rfl rfl rfl (bz (ay (A:=[pI ((p0.at).aX), .full (([]:(List UInt8)).map aa),pS ([]:List UInt8)]) (b:=16) rfl (aj _) rfl) bL) (eJ 1 (by first | exact Nat.le_of_ble_eq_true rfl | simp) rfl) (bY (p:=pS ((p0.at).dU)) (cells:=(([pI ((p0.at).aX), .d (.slice (x_3.map aa)),pS ([]:List UInt8)])++(((aD.rep 16 ([]:(List UInt8))).1.map eS).map PV.d))) (cells':=(([pI ((p0.at).aX), .d (.slice (x_3.map aa)),pS ((p0.at).dU)])++(((aD.rep 16 ([]:(List UInt8))).1.map eS).map PV.d))) rfl rfl rfl (bz (ay (A:=[pI ((p0.at).aX), .d (.slice (x_3.map aa)),pS ([]:List UInt8)]) (b:=16) rfl (aj _) rfl) bL) (eJ 2 (by first | exact Nat.le_of_ble_eq_true rfl | simp) rfl) cH)))) ?_)
 refine kS 3 (bl (([pI (0), .full (([]:(List UInt8)).map aa),pS ([]:List UInt8)])++(((aD.rep 16 ([]:(List UInt8))).1.map eS).map PV.d)) TT.kj ?_)
 refine RK.st none rfl rfl (aV (([pI ((p0.at).aX), .d (.slice (x_3.map aa)),pS ((p0.at).dU)])++(((aD.rep 16 ([]:(List UInt8))).1.map eS).map PV.d)) (c:=(([pI ((p0.at).aX), .d (.slice (x_3.map aa)),pS ((p0.at).dU)])++(((aD.rep 16 ([]:(List UInt8))).1.map eS).map PV.d))) TT.cq ?_ (hn:=by exact ay (A:=[pI ((p0.at).aX), .d (.slice (x_3.map aa)),pS ((p0.at).dU)]) (b:=16) rfl (aj _) rfl) (hf:=by exact bz (ay (A:=[pI (0), .full (([]:(List UInt8)).map aa),pS ([]:List UInt8)]) (b:=16) rfl (aj _) rfl) bL) (hl:=by exact cE ((ay (A:=[pI (0), .full (([]:(List UInt8)).map aa),pS ([]:List UInt8)]) (b:=16) rfl (aj _) rfl).trans (ay (A:=[pI ((p0.at).aX), .d (.slice (x_3.map aa)),pS ((p0.at).dU)]) (b:=16) rfl (aj _) rfl).symm)))
 refine RK.nil ⟨fH.comp (by rfl),(cn ?_)⟩
 refine QW.seq ?_
 refine QW.seq ?_
 refine QW.view (s':=⟨bW [(0, .d (ai p0)),(2, .aR 0 0),(3, .aR 1 0)],aK [.var (([pI (0), .full (([]:(List UInt8)).map aa),pS ([]:List UInt8)])++(((aD.rep 16 ([]:(List UInt8))).1.map eS).map PV.d)), .var (([pI ((p0.at).aX), .d (.slice (x_3.map aa)),pS ((p0.at).dU)])++(((aD.rep 16 ([]:(List UInt8))).1.map eS).map PV.d))],2,[]⟩) (vM 2 [0,1]) zL ?_
 refine rG ?_
 refine xm 20 (.d (ai p0)) ?_
 obtain ⟨oM,h⟩:=gG h
 refine xS 21 (dg ?_ (hx:=by exact dh oM))
 refine xS 22 (aL TT.iX ?_)
 refine xS 23 (aA (.agg (((p0.at).cg).1.map ai)) TT.zU ?_ (h:=A5 _))
 refine xm 24 (pI (0)) ?_
 refine XK.nz ?_
 refine QW.block ?_
 refine lp (fun k σ=>∃ jg:Int,∃ l9:(List UInt8),∃ mz:(aD 16 (List UInt8)),k≤dm∧run (iL self p0) k (.L1 jg l9 mz)=some r∧σ=⟨bW [(2, .aR 0 0),(3, .aR 1 0),(23, .d (.agg (((p0.at).cg).1.map ai))),(24,pI jg)],aK [.var (([pI (0), .full (([]:(List UInt8)).map aa),pS ([]:List UInt8)])++(((aD.rep 16 ([]:(List UInt8))).1.map eS).map PV.d)), .var (([pI ((p0.at).aX), .d (.slice (l9.map aa)),pS ((p0.at).dU)])++((mz.1.map eS).map PV.d))],2,[]⟩) dm ⟨0,x_3,(aD.rep 16 ([]:(List UInt8))),Nat.le_refl _,jG h,rfl⟩ (vM 2 [0,1]) ?_
 rintro WX _ ⟨jg,l9,mz,WY,h,rfl⟩
 obtain ⟨Tc,e9,h⟩:=aQ h;rw [iL] at h
 refine sR ?_
 refine xT 25 (cM jg (16:Int) ?_)
 refine QW.seq ?_
 refine cT (decide (jg<(16:Int))) (fun og=>?_) (fun og=>?_)
 ·replace h:=ej h og
  refine sk ?_
  refine QW.seq ?_
  refine QW.block ?_
  refine sR ?_
  refine xm 26 (pI jg) ?_
  obtain ⟨r5,h⟩:=gG h
  refine xS 27 (wA ((p0.at).cg) jg TT.kE r5 ?_)
  refine xa 4 (pI jg) ?_
  refine xz 5 (.d (ai (idx ((p0.at).cg).1 jg))) ?_
  refine rG ?_
  refine xm 28 (pI jg) ?_
  refine xm 29 (.d (ai (idx ((p0.at).cg).1 jg))) ?_
  refine xS 30 (dX (.agg [.d (ai (idx ((p0.at).cg).1 jg))]) rfl TT.ru (cI rfl (bY (cells':=[.d (ai (idx ((p0.at).cg).1 jg))]) rfl rfl rfl bL rfl cH)) ?_)
  obtain ⟨x_10,wW,h⟩:=bG h
  refine xS 31 (az (dZ (⟨(idx ((p0.at).cg).1 jg)⟩:Tree) _ wW) ?_)
  refine xS 32 (dF TT.iW ?_)
  obtain ⟨kP,h⟩:=gG h
  refine xS 33 (cZ jg TT.mR ?_ (h:=by exact kP))
  refine xN (aV (([pI ((p0.at).aX), .d (.slice (l9.map aa)),pS ((p0.at).dU)])++(((mz.put jg x_10).1.map eS).map PV.d)) TT.eG ?_ (hf:=by exact xY (n:=16) kP (ay (A:=[pI ((p0.at).aX), .d (.slice (l9.map aa)),pS ((p0.at).dU)]) (b:=16) rfl (aj _) rfl) bL) (hl:=by exact qt 3 _ rfl (sy kP)))
  refine XK.nil (iS (cn ?_))
  refine rG ?_
  obtain ⟨nU,h⟩:=gG h
  refine xS 34 (bE jg (1:Int) nU ?_)
  refine xm 24 (pI (jg+(1:Int))) ?_
  refine XK.nz ?_
  exact lb Tc ⟨(jg+(1:Int)),l9,(mz.put jg x_10),by omega,jG h,rfl⟩ (vM 2 [0,1])
 ·replace h:=ek h og
  refine QW.exit zL (eP (eP (kW (cn ?_))))
  refine sR ?_
  refine xA 35 (aW (.agg (([pI ((p0.at).aX), .d (.slice (l9.map aa)),pS ((p0.at).dU)])++((mz.1.map eS).map PV.d))) TT.cq ⟨.d (.agg (cNode (⟨(p0.at).aX,l9,(p0.at).dU,mz⟩:Node))),(fX.cN (jK (ia rfl bK))),?_⟩ (h:=by exact dr (ay (A:=[pI ((p0.at).aX), .d (.slice (l9.map aa)),pS ((p0.at).dU)]) (b:=16) rfl (aj _) rfl) (Nat.succ_pos _)))
  refine xN (aV (([pI ((p0.at).aX), .d (.slice (l9.map aa)),pS ((p0.at).dU)])++((mz.1.map eS).map PV.d)) (c:=(([pI ((p0.at).aX), .d (.slice (l9.map aa)),pS ((p0.at).dU)])++((mz.1.map eS).map PV.d))) TT.cq ?_ (hc:=by exact show (cNode (⟨(p0.at).aX,l9,(p0.at).dU,mz⟩:Node)).map PV.d=_ by simp only [cNode,List.map_append];rfl) (hn:=by exact ay (A:=[pI ((p0.at).aX), .d (.slice (l9.map aa)),pS ((p0.at).dU)]) (b:=16) rfl (aj _) rfl) (hf:=by exact bz (ay (A:=[pI (0), .full (([]:(List UInt8)).map aa),pS ([]:List UInt8)]) (b:=16) rfl (aj _) rfl) bL) (hl:=by exact cE ((ay (A:=[pI (0), .full (([]:(List UInt8)).map aa),pS ([]:List UInt8)]) (b:=16) rfl (aj _) rfl).trans (ay (A:=[pI ((p0.at).aX), .d (.slice (l9.map aa)),pS ((p0.at).dU)]) (b:=16) rfl (aj _) rfl).symm)))
  refine XK.nz ?_
  refine QW.ret zL ?_
  obtain rfl:=sG h
  exact Ends.one (.inr rfl) rfl (aN.cell rfl rfl TT.cq (dr (ay (A:=[pI ((p0.at).aX), .d (.slice (l9.map aa)),pS ((p0.at).dU)]) (b:=16) rfl (aj _) rfl) (Nat.succ_pos _))) (by simp only [PV.cN,PV.dW,iu,bK,Option.bind_some,Option.map_some,cNode]<;>rfl) rfl
noncomputable def ke (self:Tree→Option (List UInt8)) (t0:Tree):Option (List UInt8):=
  gO ((t0.fp).isNil=false→(t0.fp).isNil=false) (
  (bif ((t0.fp).isNil||(decide ((((t0.fp).at).aX)=(-1:Int)))) then
  some ([]:List UInt8)
  else
  ((gW self (t0.fp)).bind fun (x_3:Node)=>
  ((Bh x_3).bind fun (x_5:((List UInt8)×Int))=>
  some (x_5.1)))))
theorem vR (self:Tree→Option (List UInt8)) (dZ:∀ (y0:Tree) (rr:(List UInt8)),self y0=some rr→cD Tryz.prog 19 [.agg (dQ y0)] (.val (sV rr))) (t0:Tree) (r:(List UInt8)) (h:ke self t0=some r):cD Tryz.prog 14 [.agg (dQ t0)] (.val (sV r)):=by
 refine fQ Tryz.func14 Tryz.ntmps14 TT.Vx ?_
 unfold ke at h
 refine sR ?_
 refine XK.fz (some 1) rfl rfl (eE (dQ t0) rfl rfl rfl rfl rfl ?_)
 refine xz 2 (pS ([]:List UInt8)) ?_
 refine QW.seq ?_
 refine sR ?_
 refine xS 5 (aL TT.iK ?_)
 refine xS 6 (aA (ai (t0.fp)) TT.gF ?_)
 refine xS 7 (AY TT.sJ ?_)
 refine xm 8 (pB ((t0.fp).isNil)) ?_
 refine xg 9 (.d (.cF ((dQ t0).drop 0))) rfl rfl (fun hg=>aL TT.iK g3) ?_
 refine xg 10 (.d (ai (t0.fp))) rfl rfl (fun hg=>aA (ai (t0.fp)) TT.gF g3) ?_
 obtain ⟨oK,h⟩:=bq h
 refine xg 11 (.d (.cF (gU ((t0.fp).at)))) rfl rfl (fun hg=>dg g3 (hx:=by exact dh (oK (Hu hg)))) ?_
 refine xg 12 (.d (.cF ((gU ((t0.fp).at)).drop 0))) rfl rfl (fun hg=>aL TT.kK g3) ?_
 refine xg 13 (pI (((t0.fp).at).aX)) rfl rfl (fun hg=>aA (.val (.int .i64 (((t0.fp).at).aX))) TT.jl g3 (h:=jM _)) ?_
 refine xg 14 (pB (decide ((((t0.fp).at).aX)=(-1:Int)))) rfl rfl (fun hg=>dj (((t0.fp).at).aX) (-1:Int) g3) ?_
 refine xT 15 (fh ?_)
 refine cT ((t0.fp).isNil||(decide ((((t0.fp).at).aX)=(-1:Int)))) (fun cQ=>?_) (fun cQ=>?_)
 ·replace h:=bT h cQ
  refine sR ?_
  refine xz 2 (pS ([]:List UInt8)) ?_
  refine QW.ret zL (dc ?_)
  obtain rfl:=sO h
  exact eO
 ·replace h:=bF h cQ
  refine sk ?_
  refine sR ?_
  refine xS 17 (aL TT.iK ?_)
  refine xS 18 (aA (ai (t0.fp)) TT.gF ?_)
  obtain ⟨x_3,ri,h⟩:=bO h
  refine xS 19 (az (vb self dZ (t0.fp) _ ri) ?_)
  obtain ⟨x_5,vH,h⟩:=bO h
  refine xS 20 (az (Jg x_3 _ vH) ?_)
  refine xm 16 (.d (.tuple [.val (sV (x_5.1)), .val (.int .i64 (x_5.2))])) ?_
  refine xS 21 (aY ?_)
  refine xS 22 (aY ?_)
  refine xa 3 (pS (x_5.1)) ?_
  refine xz 4 (pI (x_5.2)) ?_
  refine sR ?_
  refine xm 23 (pS (x_5.1)) ?_
  refine xz 2 (pS (x_5.1)) ?_
  refine QW.ret zL ?_
  obtain rfl:=sO h
  exact eO
noncomputable def nC (self:Tree→Option (List UInt8)) (t0:Tree):Option (List UInt8):=
  gO ((!(t0.fp).isNil)=true→(t0.fp).isNil=false) (
  (bif ((!(t0.fp).isNil)&&(decide ((((t0.fp).at).aX)=(-1:Int)))) then
  gO ((t0.fp).isNil=false) (
  some (((t0.fp).at).wO))
  else
  ((ke self t0).bind fun (x_4:(List UInt8))=>
  ((w7 x_4).bind fun (x_6:(List UInt8))=>
  some x_6))))
theorem Cx (self:Tree→Option (List UInt8)) (dZ:∀ (y0:Tree) (rr:(List UInt8)),self y0=some rr→cD Tryz.prog 19 [.agg (dQ y0)] (.val (sV rr))) (t0:Tree) (r:(List UInt8)) (h:nC self t0=some r):cD Tryz.prog 19 [.agg (dQ t0)] (.val (sV r)):=by
 refine fQ Tryz.func19 Tryz.ntmps19 TT.Vz ?_
 unfold nC at h
 refine sR ?_
 refine XK.fz (some 1) rfl rfl (eE (dQ t0) rfl rfl rfl rfl rfl ?_)
 refine xz 2 (pS ([]:List UInt8)) ?_
 refine QW.seq ?_
 refine sR ?_
 refine xS 3 (aL TT.iK ?_)
 refine xS 4 (aA (ai (t0.fp)) TT.gF ?_)
 refine xS 5 (HG TT.sJ ?_)
 refine xm 6 (pB (!(t0.fp).isNil)) ?_
 refine xg 7 (.d (.cF ((dQ t0).drop 0))) rfl rfl (fun hg=>aL TT.iK g3) ?_
 refine xg 8 (.d (ai (t0.fp))) rfl rfl (fun hg=>aA (ai (t0.fp)) TT.gF g3) ?_
 obtain ⟨oK,h⟩:=bq h
 refine xg 9 (.d (.cF (gU ((t0.fp).at)))) rfl rfl (fun hg=>dg g3 (hx:=by exact dh (oK (Hu hg)))) ?_
 refine xg 10 (.d (.cF ((gU ((t0.fp).at)).drop 0))) rfl rfl (fun hg=>aL TT.kK g3) ?_
 refine xg 11 (pI (((t0.fp).at).aX)) rfl rfl (fun hg=>aA (.val (.int .i64 (((t0.fp).at).aX))) TT.jl g3 (h:=jM _)) ?_
 refine xg 12 (pB (decide ((((t0.fp).at).aX)=(-1:Int)))) rfl rfl (fun hg=>dj (((t0.fp).at).aX) (-1:Int) g3) ?_
 refine xT 13 (cO ?_)
 refine cT ((!(t0.fp).isNil)&&(decide ((((t0.fp).at).aX)=(-1:Int)))) (fun cQ=>?_) (fun cQ=>?_)
 ·replace h:=bT h cQ
  refine sR ?_
  refine xS 14 (aL TT.iK ?_)
  refine xS 15 (aA (ai (t0.fp)) TT.gF ?_)
  obtain ⟨eD,h⟩:=bq h
  refine xS 16 (dg ?_ (hx:=by exact dh eD))
  refine xS 17 (aL TT.OC ?_)
  refine xS 18 (aA (.val (sV (((t0.fp).at).wO))) TT.eG ?_ (h:=Mz _))
  refine xz 2 (pS (((t0.fp).at).wO)) ?_
  refine QW.ret zL (dc ?_)
  obtain rfl:=sO h
  exact eO
 ·replace h:=bF h cQ
  refine sk ?_
  refine sR ?_
  refine xS 19 (aA (.agg (dQ t0)) TT.eI ?_ (h:=by exact ⟨by simp [dQ],rfl⟩))
  obtain ⟨x_4,mQ,h⟩:=bO h
  refine xS 20 (az (vR self dZ t0 _ mQ) ?_)
  obtain ⟨x_6,u6,h⟩:=bO h
  refine xS 21 (az (Lj x_4 _ u6) ?_)
  refine xz 2 (pS x_6) ?_
  refine QW.ret zL ?_
  obtain rfl:=sO h
  exact eO
noncomputable def jD:Nat→Tree→Option (List UInt8)
 | 0=>fun _=>none
 | n+1=>fun y0=>nC (jD n) y0
theorem vS:∀ (n:Nat) (y0:Tree) (rr:(List UInt8)),jD n y0=some rr→cD Tryz.prog 19 [.agg (dQ y0)] (.val (sV rr))
 | 0,_,_,h=>by cases h
 | n+1,y0,rr,h=>Cx (jD n) (vS n) y0 rr h
noncomputable def gB (y0:Tree):Option (List UInt8):=vG (fun n=>jD n y0)
theorem oP (y0:Tree) (rr:(List UInt8)) (h:gB y0=some rr):cD Tryz.prog 19 [.agg (dQ y0)] (.val (sV rr)):=by
 obtain ⟨n,hn⟩:=n8 h
 exact vS n y0 rr hn
noncomputable def pP (p0:af):Option Node:=gW gB p0
theorem Cy (p0:af) (r:Node) (h:pP p0=some r):cD Tryz.prog 31 [ai p0] (.agg (cNode r)):=vb gB oP p0 r h
noncomputable def jP (t0:Tree):Option (List UInt8):=ke gB t0
theorem mT (t0:Tree) (r:(List UInt8)) (h:jP t0=some r):cD Tryz.prog 14 [.agg (dQ t0)] (.val (sV r)):=vR gB oP t0 r h
inductive tw where
 | S
 | L1 (v4:(List Tree)) (jg:Int)
noncomputable def gN (t0:Tree):tw→Option (tw⊕(Node×(List Tree)))
 | .S=>
  gO ((t0.fp).isNil=false→(t0.fp).isNil=false) (
  (bif ((t0.fp).isNil||(decide ((((t0.fp).at).aX)=(-1:Int)))) then
  some (.inr ((⟨0,([]:(List UInt8)),([]:List UInt8),(aD.rep 16 ([]:(List UInt8)))⟩:Node),([]:(List Tree))))
  else
  gO ((t0.fp).isNil=false) (
  some (.inl (.L1 ([]:(List Tree)) (0))))))
 | .L1 v4 jg=>
  (bif (decide (jg<(16:Int))) then
  gO (0≤jg∧jg<((16:Nat):Int)) (
  (bif (!(idx (((t0.fp).at).cg).1 jg).isNil) then
  gO ((v4.length+([(⟨(idx (((t0.fp).at).cg).1 jg)⟩:Tree)]:List Tree).length)*8≤140737488355328) (
  gO (bf (jg+(1:Int))) (
  some (.inl (.L1 (v4++([(⟨(idx (((t0.fp).at).cg).1 jg)⟩:Tree)]:List Tree)) (jg+(1:Int))))))
  else
  gO (bf (jg+(1:Int))) (
  some (.inl (.L1 v4 (jg+(1:Int)))))))
  else
  ((pP (t0.fp)).bind fun (x_11:Node)=>
  some (.inr (x_11,v4))))
noncomputable def lN (t0:Tree):Option (Node×(List Tree)):=gJ (gN t0) .S
theorem vT (t0:Tree) (r:(Node×(List Tree))) (h:lN t0=some r):cD Tryz.prog 21 [.agg (dQ t0)] (.tuple [.agg (cNode (r.1)), .slice ((r.2).map gI)]):=by
 refine fQ Tryz.func21 Tryz.ntmps21 TT.VA ?_
 obtain ⟨_,h⟩:=cP h
 obtain ⟨dm,e9,h⟩:=aQ h;rw [gN] at h
 refine sR ?_
 refine XK.fz (some 1) rfl rfl (eE (dQ t0) rfl rfl rfl rfl rfl ?_)
 refine xS 2 (bl (([pI (0), .full (([]:(List UInt8)).map aa),pS ([]:List UInt8)])++(((aD.rep 16 ([]:(List UInt8))).1.map eS).map PV.d)) TT.kj ?_)
 refine xz 3 (.full (([]:(List Tree)).map gI)) ?_
 refine QW.seq ?_
 refine sR ?_
 refine xS 7 (aL TT.iK ?_)
 refine xS 8 (aA (ai (t0.fp)) TT.gF ?_)
 refine xS 9 (AY TT.sJ ?_)
 refine xm 10 (pB ((t0.fp).isNil)) ?_
 refine xg 11 (.d (.cF ((dQ t0).drop 0))) rfl rfl (fun hg=>aL TT.iK g3) ?_
 refine xg 12 (.d (ai (t0.fp))) rfl rfl (fun hg=>aA (ai (t0.fp)) TT.gF g3) ?_
 obtain ⟨oK,h⟩:=gG h
 refine xg 13 (.d (.cF (gU ((t0.fp).at)))) rfl rfl (fun hg=>dg g3 (hx:=by exact dh (oK (Hu hg)))) ?_
 refine xg 14 (.d (.cF ((gU ((t0.fp).at)).drop 0))) rfl rfl (fun hg=>aL TT.kK g3) ?_
 refine xg 15 (pI (((t0.fp).at).aX)) rfl rfl (fun hg=>aA (.val (.int .i64 (((t0.fp).at).aX))) TT.jl g3 (h:=jM _)) ?_
 refine xg 16 (pB (decide ((((t0.fp).at).aX)=(-1:Int)))) rfl rfl (fun hg=>dj (((t0.fp).at).aX) (-1:Int) g3) ?_
 refine xT 17 (fh ?_)
 refine cT ((t0.fp).isNil||(decide ((((t0.fp).at).aX)=(-1:Int)))) (fun cQ=>?_) (fun cQ=>?_)
 ·replace h:=ej h cQ
  refine sR ?_
  refine xS 18 (dX (.agg (([pI (0), .full (([]:(List UInt8)).map aa),pS ([]:List UInt8)])++(((aD.rep 16 ([]:(List UInt8))).1.map eS).map PV.d))) rfl TT.oc (cI rfl cH) ?_)
  refine xN (aV (([pI (0), .full (([]:(List UInt8)).map aa),pS ([]:List UInt8)])++(((aD.rep 16 ([]:(List UInt8))).1.map eS).map PV.d)) (c:=(([pI (0), .full (([]:(List UInt8)).map aa),pS ([]:List UInt8)])++(((aD.rep 16 ([]:(List UInt8))).1.map eS).map PV.d))) TT.cq ?_ (hn:=by exact ay (A:=[pI (0), .full (([]:(List UInt8)).map aa),pS ([]:List UInt8)]) (b:=16) rfl (aj _) rfl) (hf:=by exact bz (ay (A:=[pI (0), .full (([]:(List UInt8)).map aa),pS ([]:List UInt8)]) (b:=16) rfl (aj _) rfl) bL) (hl:=by exact cE ((ay (A:=[pI (0), .full (([]:(List UInt8)).map aa),pS ([]:List UInt8)]) (b:=16) rfl (aj _) rfl).trans (ay (A:=[pI (0), .full (([]:(List UInt8)).map aa),pS ([]:List UInt8)]) (b:=16) rfl (aj _) rfl).symm)))
  refine xz 3 (.full (([]:(List Tree)).map gI)) ?_
  refine QW.ret zL (dc ?_)
  obtain rfl:=sG h
  exact Ends.more (.inr rfl) rfl (ps:=[.agg (([pI (0), .full (([]:(List UInt8)).map aa),pS ([]:List UInt8)])++(((aD.rep 16 ([]:(List UInt8))).1.map eS).map PV.d)), .full (([]:(List Tree)).map gI)]) (And.intro (aN.cell rfl rfl TT.cq (dr (ay (A:=[pI (0), .full (([]:(List UInt8)).map aa),pS ([]:List UInt8)]) (b:=16) rfl (aj _) rfl) (Nat.succ_pos _))) (And.intro (aN.tmp rfl) trivial)) (by simp only [PV.cN,PV.dW,iu,bK,Option.bind_some,Option.map_some,cNode]<;>rfl) rfl
 ·replace h:=ek h cQ
  refine sk ?_
  refine sR ?_
  refine xz 4 (.full (([]:(List Tree)).map gI)) ?_
  refine QW.seq ?_
  refine sR ?_
  refine xS 19 (aL TT.iK ?_)
  refine xS 20 (aA (ai (t0.fp)) TT.gF ?_)
  obtain ⟨eD,h⟩:=gG h
  refine xS 21 (dg ?_ (hx:=by exact dh eD))
  refine xS 22 (aL TT.iX ?_)
  refine xS 23 (aA (.agg ((((t0.fp).at).cg).1.map ai)) TT.zU ?_ (h:=A5 _))
  refine xm 24 (pI (0)) ?_
  refine XK.nz ?_
  refine QW.block ?_
  refine lp (fun k σ=>∃ v4:(List Tree),∃ jg:Int,k≤dm∧run (gN t0) k (.L1 v4 jg)=some r∧σ=⟨bW [(1, .d (.cF (dQ t0))),(2, .aR 0 0),(4, .own 1 (v4.map gI)),(23, .d (.agg ((((t0.fp).at).cg).1.map ai))),(24,pI jg)],aK [.var (([pI (0), .full (([]:(List UInt8)).map aa),pS ([]:List UInt8)])++(((aD.rep 16 ([]:(List UInt8))).1.map eS).map PV.d)), .spare 1 v4.length],2,[]⟩) dm ⟨([]:(List Tree)),0,Nat.le_refl _,jG h,rfl⟩ (View.trans (View.buf 4 1 rfl zL) (vM 2 [0,1])) ?_
  rintro WV _ ⟨v4,jg,WW,h,rfl⟩
  obtain ⟨QG,e9,h⟩:=aQ h;rw [gN] at h
  refine sR ?_
  refine xT 25 (cM jg (16:Int) ?_)
  refine QW.seq ?_
  refine cT (decide (jg<(16:Int))) (fun mO=>?_) (fun mO=>?_)
  ·replace h:=ej h mO
   refine sk ?_
   refine QW.seq ?_
   refine QW.block ?_
   refine sR ?_
   obtain ⟨oM,h⟩:=gG h
   refine xS 26 (wA (((t0.fp).at).cg) jg TT.kE oM ?_)
   refine xz 6 (.d (ai (idx (((t0.fp).at).cg).1 jg))) ?_
   refine sR ?_
   refine xm 27 (.d (ai (idx (((t0.fp).at).cg).1 jg))) ?_
   refine xT 28 (HG TT.sJ ?_)
   refine cT (!(idx (((t0.fp).at).cg).1 jg).isNil) (fun wZ=>?_) (fun wZ=>?_)
   ·replace h:=ej h wZ
    refine rG ?_
    refine xm 29 (.own 1 (v4.map gI)) ?_
    refine xm 30 (.d (ai (idx (((t0.fp).at).cg).1 jg))) ?_
    refine xS 31 (dX (.agg [.d (ai (idx (((t0.fp).at).cg).1 jg))]) rfl TT.ru (cI rfl (bY (cells':=[.d (ai (idx (((t0.fp).at).cg).1 jg))]) rfl rfl rfl bL rfl cH)) ?_)
    refine xS 32 (eA gI ([(⟨(idx (((t0.fp).at).cg).1 jg)⟩:Tree)]:List Tree) TT.MN ?_ (hl:=yV) (hx:=by first | rfl | (simp only [List.map_cons,List.map_nil,QF];rfl)))
    obtain ⟨uq,h⟩:=gG h
    refine xS 33 (kA gI v4 ([(⟨(idx (((t0.fp).at).cg).1 jg)⟩:Tree)]:List Tree) TT.MN TT.uw uq ?_ (hl:=yV))
    refine xa 4 (.own 2 ((v4++([(⟨(idx (((t0.fp).at).cg).1 jg)⟩:Tree)]:List Tree)).map gI)) ?_
    refine XK.nil (iS (cn ?_))
    refine rG ?_
    obtain ⟨r5,h⟩:=gG h
    refine xS 34 (bE jg (1:Int) r5 ?_)
    refine xm 24 (pI (jg+(1:Int))) ?_
    refine XK.nz ?_
    exact lb QG ⟨(v4++([(⟨(idx (((t0.fp).at).cg).1 jg)⟩:Tree)]:List Tree)),(jg+(1:Int)),by omega,jG h,rfl⟩ (vM 2 [0,2])
   ·replace h:=ek h wZ
    refine QW.skip zL (iS (cn ?_))
    refine rG ?_
    obtain ⟨nT,h⟩:=gG h
    refine xS 34 (bE jg (1:Int) nT ?_)
    refine xm 24 (pI (jg+(1:Int))) ?_
    refine XK.nz ?_
    exact lb QG ⟨v4,(jg+(1:Int)),by omega,jG h,rfl⟩ (vM 2 [0,1])
  ·replace h:=ek h mO
   refine QW.exit zL (eP (eP (kW (cn ?_))))
   refine sR ?_
   refine xS 35 (aL TT.iK ?_)
   refine xS 36 (aA (ai (t0.fp)) TT.gF ?_)
   obtain ⟨x_11,ta,h⟩:=bG h
   refine xS 37 (az (Cy (t0.fp) _ ta) ?_)
   refine xm 38 (.own 1 (v4.map gI)) ?_
   refine xN (aV (([pI (x_11.aG), .d (.slice ((x_11.av).map aa)),pS (x_11.aq)])++(((x_11.aC).1.map eS).map PV.d)) (c:=(([pI (x_11.aG), .d (.slice ((x_11.av).map aa)),pS (x_11.aq)])++(((x_11.aC).1.map eS).map PV.d))) TT.cq ?_ (hc:=by exact show (cNode x_11).map PV.d=_ by simp only [cNode,List.map_append];rfl) (hn:=by exact ay (A:=[pI (x_11.aG), .d (.slice ((x_11.av).map aa)),pS (x_11.aq)]) (b:=16) rfl (aj _) rfl) (hf:=by exact bz (ay (A:=[pI (0), .full (([]:(List UInt8)).map aa),pS ([]:List UInt8)]) (b:=16) rfl (aj _) rfl) bL) (hl:=by exact cE ((ay (A:=[pI (0), .full (([]:(List UInt8)).map aa),pS ([]:List UInt8)]) (b:=16) rfl (aj _) rfl).trans (ay (A:=[pI (x_11.aG), .d (.slice ((x_11.av).map aa)),pS (x_11.aq)]) (b:=16) rfl (aj _) rfl).symm)))
   refine xz 3 (.own 1 (v4.map gI)) ?_
   refine QW.ret zL ?_
   obtain rfl:=sG h
   exact Ends.more (.inr rfl) rfl (ps:=[.agg (([pI (x_11.aG), .d (.slice ((x_11.av).map aa)),pS (x_11.aq)])++(((x_11.aC).1.map eS).map PV.d)), .own 1 (v4.map gI)]) (And.intro (aN.cell rfl rfl TT.cq (dr (ay (A:=[pI (x_11.aG), .d (.slice ((x_11.av).map aa)),pS (x_11.aq)]) (b:=16) rfl (aj _) rfl) (Nat.succ_pos _))) (And.intro (aN.tmp rfl) trivial)) (by simp only [PV.cN,PV.dW,iu,bK,Option.bind_some,Option.map_some,cNode]<;>rfl) rfl
noncomputable def mU (t0:Tree):Option Bool:=
  some ((t0.fp).isNil)
theorem vc (t0:Tree) (r:Bool) (h:mU t0=some r):cD Tryz.prog 9 [.agg (dQ t0)] (.val (.bool r)):=by
 refine fQ Tryz.func9 Tryz.ntmps9 TT.XN ?_
 unfold mU at h
 refine sR ?_
 refine XK.fz (some 1) rfl rfl (eE (dQ t0) rfl rfl rfl rfl rfl ?_)
 refine xz 2 (pB false) ?_
 refine sR ?_
 refine xS 3 (aL TT.iK ?_)
 refine xS 4 (aA (ai (t0.fp)) TT.gF ?_)
 refine xS 5 (AY TT.sJ ?_)
 refine xz 2 (pB ((t0.fp).isNil)) ?_
 refine QW.ret zL ?_
 obtain rfl:=sO h
 exact eO
inductive zW where
 | S
 | L1 (v7:Int) (nX:Int) (m3:af) (lO:(List UInt8)) (lP:(aD 16 af))
noncomputable def kr (n0:Node) (ew:(List Tree)):zW→Option (zW⊕(Tree×Int))
 | .S=>
  ((rq n0).bind fun (x_1:Int)=>
  ((bif ((!decide (x_1=(0:Int)))==false) then nw n0 else some default).bind fun (x_3:(List (List UInt8)))=>
  (bif ((!decide (x_1=(0:Int)))||(!decide ((ew.length:Int)=(x_3.length:Int)))) then
  some (.inr ((⟨af.nil⟩:Tree),2))
  else
  ((cA (n0.av)).bind fun (x_6:(List UInt8))=>
  some (.inl (.L1 (0) (0) (af.nil) x_6 (aD.rep 16 af.nil)))))))
 | .L1 v7 nX m3 lO lP=>
  (bif (decide (nX<(16:Int))) then
  gO (0≤nX∧nX<((16:Nat):Int)) (
  (bif ((idx (n0.aC).1 nX)==([]:List UInt8)) then
  gO (bf (nX+(1:Int))) (
  some (.inl (.L1 v7 (nX+(1:Int)) m3 lO lP)))
  else
  gO (0≤v7∧v7<(ew.length:Int)) (
  gO (bf (v7+(1:Int))) (
  ((gB (idx ew v7)).bind fun (x_15:(List UInt8))=>
  gO ((((!(x_15==(idx (n0.aC).1 nX)))==false)&&((decide ((n0.aG)=(2:Int)))==true))=true→((idx ew v7).fp).isNil=false) (
  gO ((((!(x_15==(idx (n0.aC).1 nX)))==false)&&(((decide ((n0.aG)=(2:Int)))&&(decide ((0:Int)<((((idx ew v7).fp).at).aX))))==true))=true→((idx ew v7).fp).isNil=false) (
  (bif ((!(x_15==(idx (n0.aC).1 nX)))||(((decide ((n0.aG)=(2:Int)))&&(decide ((0:Int)<((((idx ew v7).fp).at).aX))))&&(!decide (((((idx ew v7).fp).at).aX)=(3:Int))))) then
  some (.inr ((⟨af.nil⟩:Tree),6))
  else
  gO (0≤nX∧nX<((16:Nat):Int)) (
  gO (bf (nX+(1:Int))) (
  some (.inl (.L1 (v7+(1:Int)) (nX+(1:Int)) m3 lO (lP.put nX ((idx ew v7).fp))))))))))))))
  else
  some (.inr ((⟨(af.of (⟨n0.aG,lO,n0.aq,lP,([]:List UInt8)⟩:part))⟩:Tree),0)))
noncomputable def oQ (n0:Node) (ew:(List Tree)):Option (Tree×Int):=gJ (kr n0 ew) .S
theorem Bl (n0:Node) (ew:(List Tree)) (r:(Tree×Int)) (h:oQ n0 ew=some r):cD Tryz.prog 23 [.agg (cNode n0), .slice (ew.map gI)] (.tuple [.agg (dQ (r.1)), .val (.int .i64 (r.2))]):=by
 refine fQ Tryz.func23 Tryz.ntmps23 TT.VB ?_
 obtain ⟨_,h⟩:=cP h
 obtain ⟨dm,e9,h⟩:=aQ h;rw [kr] at h
 refine sR ?_
 refine XK.fz (some 2) rfl rfl (eE (cNode n0) rfl rfl rfl rfl bK ?_)
 refine xS 4 (bl [.d (ai (af.nil))] TT.nc ?_)
 refine xz 5 (pI (0)) ?_
 refine QW.seq ?_
 refine sR ?_
 refine xS 11 (aA (.agg (cNode n0)) TT.cq ?_ (h:=by exact ⟨by rw [ki.len];decide,congrArg D.agg (List.take_of_length_le (by rw [ki.len];decide))⟩))
 obtain ⟨x_1,fk,h⟩:=bG h
 refine xS 12 (az (Gn n0 _ fk) ?_)
 refine xS 13 (mI x_1 (0:Int) ?_)
 refine xm 14 (pB (!decide (x_1=(0:Int)))) ?_
 refine xg 15 (.d (.slice (ew.map gI))) rfl rfl (fun hg=>ax (.d (.slice (ew.map gI))) g3) ?_
 refine xg 16 (pI (ew.length:Int)) rfl rfl (fun hg=>cX gI ew TT.uw g3) ?_
 refine xg 17 (.d (.agg (cNode n0))) rfl rfl (fun hg=>aA (.agg (cNode n0)) TT.cq g3 (h:=by exact ⟨by rw [ki.len];decide,congrArg D.agg (List.take_of_length_le (by rw [ki.len];decide))⟩)) ?_
 obtain ⟨x_3,ri,h⟩:=bG h
 refine xg 18 (.d (.slice (x_3.map eS))) rfl rfl (fun hg=>az (Bd n0 _ (bT ri hg)) g3) ?_
 refine xg 19 (pI (x_3.length:Int)) rfl rfl (fun hg=>cX eS x_3 TT.wC g3) ?_
 refine xg 20 (pB (!decide ((ew.length:Int)=(x_3.length:Int)))) rfl rfl (fun hg=>mI (ew.length:Int) (x_3.length:Int) g3) ?_
 refine xT 21 (fh ?_)
 refine cT ((!decide (x_1=(0:Int)))||(!decide ((ew.length:Int)=(x_3.length:Int)))) (fun mO=>?_) (fun mO=>?_)
 ·replace h:=ej h mO
  refine sR ?_
  refine xS 22 (dX (.agg [.d (ai (af.nil))]) rfl TT.ru (cI rfl cH) ?_)
  refine xN (aV [.d (ai (af.nil))] TT.eI ?_)
  refine xz 5 (pI (2)) ?_
  refine QW.ret zL (dc ?_)
  obtain rfl:=sG h
  exact Ends.more (.inr rfl) rfl (ps:=[.agg [.d (ai (af.nil))],pI (2)]) (And.intro (aN.cell rfl rfl TT.eI ⟨⟨by simp,by simp⟩,rfl⟩) (And.intro (aN.tmp rfl) trivial)) rfl rfl
 ·replace h:=ek h mO
  refine sk ?_
  refine QW.seq ?_
  refine QW.region zL (PW.qX (id:=3) dG (M:=_) rfl (by kernel_rfl) ?_)
  refine kS 23 (aL TT.iV ?_)
  refine kS 24 (aA (.val (.int .i64 (n0.aG))) TT.jl ?_ (h:=jN _))
  refine kS 25 (aL TT.j5 ?_)
  refine kS 26 (aA (.slice ((n0.av).map aa)) TT.fJ ?_ (h:=ja _))
  obtain ⟨x_6,u6,h⟩:=bG h
  refine kS 27 (az (gb (n0.av) _ u6) ?_)
  refine kS 28 (aL TT.kH ?_)
  refine kS 29 (aA (.val (sV (n0.aq))) TT.eG ?_ (h:=jO _))
  refine kS 30 (dX (.agg (([pI (n0.aG), .d (.slice (x_6.map aa)),pS (n0.aq)])++((((aD.rep 16 af.nil).1.map ai).map PV.d)++([pS ([]:List UInt8)])))) rfl TT.Bk (cI rfl (bY (p:=pI (n0.aG)) (cells:=(([pI (0), .full (([]:(List UInt8)).map aa),pS ([]:List UInt8)])++((((aD.rep 16 af.nil).1.map ai).map PV.d)++([pS ([]:List UInt8)])))) (cells':=(([pI (n0.aG), .full (([]:(List UInt8)).map aa),pS ([]:List UInt8)])++((((aD.rep 16 af.nil).1.map ai).map PV.d)++([pS ([]:List UInt8)])))) rfl rfl rfl (bz (ay (A:=[pI (0), .full (([]:(List UInt8)).map aa),pS ([]:List UInt8)]) (b:=17) rfl (ay (A:=((aD.rep 16 af.nil).1.map ai).map PV.d) (b:=1) (aj _) rfl rfl) rfl) bL) (eJ 0 (by first | exact Nat.le_of_ble_eq_true rfl | simp) rfl) (bY (p:= .d (.slice (x_6.map aa))) (cells:=(([pI (n0.aG), .full (([]:(List UInt8)).map aa),pS ([]:List UInt8)])++((((aD.rep 16 af.nil).1.map ai).map PV.d)++([pS ([]:List UInt8)])))) (cells':=(([pI (n0.aG), .d (.slice (x_6.map aa)),pS ([]:List UInt8)])++((((aD.rep 16 af.nil).1.map ai).map PV.d)++([pS ([]:List UInt8)])))) rfl rfl rfl (bz (ay (A:=[pI (n0.aG), .full (([]:(List UInt8)).map aa),pS ([]:List UInt8)]) (b:=17) rfl (ay (A:=((aD.rep 16 af.nil).1.map ai).map PV.d) (b:=1) (aj _) rfl rfl) rfl) bL) (eJ 1 (by first | exact Nat.le_of_ble_eq_true rfl | simp) rfl) (bY (p:=pS (n0.aq)) (cells:=(([pI (n0.aG), .d (.slice (x_6.map aa)),pS ([]:List UInt8)])++((((aD.rep 16 af.nil).1.map ai).map PV.d)++([pS ([]:List UInt8)])))) (cells':=(([pI (n0.aG), .d (.slice (x_6.map aa)),pS (n0.aq)])++((((aD.rep 16 af.nil).1.map ai).map PV.d)++([pS ([]:List UInt8)])))) rfl rfl rfl (bz (ay (A:=[pI (n0.aG), .d (.slice (x_6.map aa)),pS ([]:List UInt8)]) (b:=17) rfl (ay (A:=((aD.rep 16 af.nil).1.map ai).map PV.d) (b:=1) (aj _) rfl rfl) rfl) bL) (eJ 2 (by first | exact Nat.le_of_ble_eq_true rfl | simp) rfl) cH)))) ?_)
  refine kS 31 (Ht (([pI (n0.aG), .d (.slice (x_6.map aa)),pS (n0.aq)])++((((aD.rep 16 af.nil).1.map ai).map PV.d)++([pS ([]:List UInt8)]))) ?_)
  refine kS 6 (cj (.aR 1 0) ?_)
  refine RK.nil ⟨fH.last 8 (by simp) (by simp) (by rfl),(cn ?_)⟩
  refine sR ?_
  refine xz 7 (pI (0)) ?_
  refine QW.seq ?_
  refine sR ?_
  refine xS 32 (aL TT.iW ?_)
  refine xS 33 (aA (.agg ((n0.aC).1.map eS)) TT.B6 ?_ (h:=x5 _))
  refine xm 34 (pI (0)) ?_
  refine XK.nz ?_
  refine QW.block ?_
  refine lp (fun k σ=>∃ v7:Int,∃ nX:Int,∃ m3:af,∃ lO:(List UInt8),∃ lP:(aD 16 af),k≤dm∧run (kr n0 ew) k (.L1 v7 nX m3 lO lP)=some r∧σ=⟨bW [(1, .d (.slice (ew.map gI))),(2, .d (.cF (cNode n0))),(4, .aR 0 0),(6, .aR 1 0),(7,pI v7),(33, .d (.agg ((n0.aC).1.map eS))),(34,pI nX)],aK [.var [.d (ai m3)], .var (([pI (n0.aG), .d (.slice (lO.map aa)),pS (n0.aq)])++(((lP.1.map ai).map PV.d)++([pS ([]:List UInt8)])))],2,[]⟩) dm ⟨0,0,af.nil,x_6,(aD.rep 16 af.nil),Nat.le_refl _,jG h,rfl⟩ (vM 2 [0,1]) ?_
  rintro Zi _ ⟨v7,nX,m3,lO,lP,Zj,h,rfl⟩
  obtain ⟨Vu,e9,h⟩:=aQ h;rw [kr] at h
  refine sR ?_
  refine xT 35 (cM nX (16:Int) ?_)
  refine QW.seq ?_
  refine cT (decide (nX<(16:Int))) (fun oe=>?_) (fun oe=>?_)
  ·replace h:=ej h oe
   refine sk ?_
   refine QW.seq ?_
   refine QW.block ?_
   refine sR ?_
   refine xm 36 (pI nX) ?_
   obtain ⟨nT,h⟩:=gG h
   refine xS 37 (wA n0.aC nX TT.mR nT ?_)
   refine xa 8 (pI nX) ?_
   refine xz 9 (pS (idx (n0.aC).1 nX)) ?_
   refine QW.seq ?_
   refine sR ?_
   refine xm 38 (pS (idx (n0.aC).1 nX)) ?_
   refine xT 39 (jW (idx (n0.aC).1 nX) ([]:List UInt8) ?_)
   refine cT ((idx (n0.aC).1 nX)==([]:List UInt8)) (fun kJ=>?_) (fun kJ=>?_)
   ·replace h:=ej h kJ
    refine QW.exit zL (eP (kW (cn ?_)))
    refine rG ?_
    obtain ⟨kP,h⟩:=gG h
    refine xS 79 (bE nX (1:Int) kP ?_)
    refine xm 34 (pI (nX+(1:Int))) ?_
    refine XK.nz ?_
    exact lb Vu ⟨v7,(nX+(1:Int)),m3,lO,lP,by omega,jG h,rfl⟩ (vM 2 [0,1])
   ·replace h:=ek h kJ
    refine sk ?_
    refine sR ?_
    refine xm 40 (.d (.slice (ew.map gI))) ?_
    refine xm 41 (pI v7) ?_
    obtain ⟨nU,h⟩:=gG h
    refine xS 42 (bX ew v7 TT.Ic yV nU ?_)
    refine xS 43 (aA (.agg (dQ (idx ew v7))) TT.eI ?_ (h:=by exact ⟨by simp [dQ],rfl⟩))
    refine xS 10 (bl [.d (ai (af.nil))] TT.nc ?_)
    refine xN (aV [.d (ai ((idx ew v7).fp))] TT.eI ?_)
    refine XK.nz ?_
    refine sR ?_
    refine xm 44 (pI v7) ?_
    obtain ⟨tc,h⟩:=gG h
    refine xS 45 (bE v7 (1:Int) tc ?_)
    refine xz 7 (pI (v7+(1:Int))) ?_
    refine QW.seq ?_
    refine sR ?_
    refine xA 46 (aW (.agg [.d (ai ((idx ew v7).fp))]) TT.eI ⟨.d (.agg (dQ (idx ew v7))),(fX.cN rfl),?_⟩)
    obtain ⟨x_15,r4,h⟩:=bG h
    refine xS 47 (az (oP (idx ew v7) _ r4) ?_)
    refine xm 48 (pS (idx (n0.aC).1 nX)) ?_
    refine xS 49 (qq x_15 (idx (n0.aC).1 nX) ?_)
    refine xm 50 (pB (!(x_15==(idx (n0.aC).1 nX)))) ?_
    refine xg 51 (.d (.cF ((cNode n0).drop 0))) rfl rfl (fun hg=>aL TT.iV g3) ?_
    refine xg 52 (pI (n0.aG)) rfl rfl (fun hg=>aA (.val (.int .i64 (n0.aG))) TT.jl g3 (h:=jN _)) ?_
    refine xg 53 (pB (decide ((n0.aG)=(2:Int)))) rfl rfl (fun hg=>dj (n0.aG) (2:Int) g3) ?_
    refine xg 54 (pB (decide ((n0.aG)=(2:Int)))) rfl rfl (fun hg=>ax (pB (decide ((n0.aG)=(2:Int)))) g3) ?_
    refine xg 55 (.aR 2 0) rfl rfl (fun hg=>dF TT.iK g3) ?_
    refine XK.gd (v:= .d (ai ((idx ew v7).fp))) (T:=[2]) (some 56) rfl rfl (by repeat (first | exact trivial | refine ⟨fun q=>by first | rfl | exact q | exact qZ q | exact sQ q,?_⟩)) (fun hg=>aW (.d (ai ((idx ew v7).fp))) TT.gF g3) (fun _ i hi=>by simp only [List.mem_singleton] at hi;subst hi;decide) ?_
    obtain ⟨oB,h⟩:=gG h
    refine xg 57 (.d (.cF (gU (((idx ew v7).fp).at)))) rfl rfl (fun hg=>dg g3 (hx:=by exact dh (oB hg))) ?_
    refine xg 58 (.d (.cF ((gU (((idx ew v7).fp).at)).drop 0))) rfl rfl (fun hg=>aL TT.kK g3) ?_
    refine xg 59 (pI ((((idx ew v7).fp).at).aX)) rfl rfl (fun hg=>aA (.val (.int .i64 ((((idx ew v7).fp).at).aX))) TT.jl g3 (h:=jM _)) ?_
    refine xg 60 (pB (decide ((0:Int)<((((idx ew v7).fp).at).aX)))) rfl rfl (fun hg=>kU ((((idx ew v7).fp).at).aX) (0:Int) g3) ?_
    refine XK.gp (some 61) rfl rfl rfl rfl rfl rfl (fun h=>h) (fun hg hb=>by first | (rw [hg,hb];rfl) | (simp only [hg,hb];rfl) | simp_all) (fun _ _=>rfl) ((decide ((n0.aG)=(2:Int)))&&(decide ((0:Int)<((((idx ew v7).fp).at).aX)))) (Ea _ _) ?_
    refine xg 62 (pB ((decide ((n0.aG)=(2:Int)))&&(decide ((0:Int)<((((idx ew v7).fp).at).aX))))) rfl rfl (fun hg=>ax (pB ((decide ((n0.aG)=(2:Int)))&&(decide ((0:Int)<((((idx ew v7).fp).at).aX))))) g3) ?_
    refine xg 63 (.aR 2 0) rfl rfl (fun hg=>dF TT.iK g3) ?_
    refine XK.gd (v:= .d (ai ((idx ew v7).fp))) (T:=[2]) (some 64) rfl rfl (by repeat (first | exact trivial | refine ⟨fun q=>by first | rfl | exact q | exact qZ q | exact sQ q,?_⟩)) (fun hg=>aW (.d (ai ((idx ew v7).fp))) TT.gF g3) (fun _ i hi=>by simp only [List.mem_singleton] at hi;subst hi;decide) ?_
    obtain ⟨qI,h⟩:=gG h
    refine xg 65 (.d (.cF (gU (((idx ew v7).fp).at)))) rfl rfl (fun hg=>dg g3 (hx:=by exact dh (qI hg))) ?_
    refine xg 66 (.d (.cF ((gU (((idx ew v7).fp).at)).drop 0))) rfl rfl (fun hg=>aL TT.kK g3) ?_
    refine xg 67 (pI ((((idx ew v7).fp).at).aX)) rfl rfl (fun hg=>aA (.val (.int .i64 ((((idx ew v7).fp).at).aX))) TT.jl g3 (h:=jM _)) ?_
    refine xg 68 (pB (!decide (((((idx ew v7).fp).at).aX)=(3:Int)))) rfl rfl (fun hg=>mI ((((idx ew v7).fp).at).aX) (3:Int) g3) ?_
    refine XK.gp (some 69) rfl rfl rfl rfl rfl rfl (fun h=>h) (fun hg hb=>by first | (rw [hg,hb];rfl) | (simp only [hg,hb];rfl) | simp_all) (fun _ _=>rfl) (((decide ((n0.aG)=(2:Int)))&&(decide ((0:Int)<((((idx ew v7).fp).at).aX))))&&(!decide (((((idx ew v7).fp).at).aX)=(3:Int)))) (Ea _ _) ?_
    refine xT 70 (fh ?_)
    refine cT ((!(x_15==(idx (n0.aC).1 nX)))||(((decide ((n0.aG)=(2:Int)))&&(decide ((0:Int)<((((idx ew v7).fp).at).aX))))&&(!decide (((((idx ew v7).fp).at).aX)=(3:Int))))) (fun wU=>?_) (fun wU=>?_)
    ·replace h:=ej h wU
     refine sR ?_
     refine xS 71 (dX (.agg [.d (ai (af.nil))]) rfl TT.ru (cI rfl cH) ?_)
     refine xN (aV [.d (ai (af.nil))] TT.eI ?_)
     refine xz 5 (pI (6)) ?_
     refine QW.ret zL (dc (nK (dc (dc (nK (dc ?_))))))
     obtain rfl:=sG h
     exact Ends.more (.inr rfl) rfl (ps:=[.agg [.d (ai (af.nil))],pI (6)]) (And.intro (aN.cell rfl rfl TT.eI ⟨⟨by simp,by simp⟩,rfl⟩) (And.intro (aN.tmp rfl) trivial)) rfl rfl
    ·replace h:=ek h wU
     refine sk ?_
     refine QW.region zL (PW.qX (id:=13) dG (M:=_) rfl (by kernel_rfl) ?_)
     refine kS 72 (ax (.aR 1 0) ?_)
     refine kS 73 (ax (pI nX) ?_)
     refine kS 74 (dF TT.iK ?_)
     refine kS 75 (aW (.d (ai ((idx ew v7).fp))) TT.gF ?_)
     refine kS 76 (lY (.aR 1 0) ?_)
     refine kS 77 (dF TT.iX ?_)
     obtain ⟨qK,h⟩:=gG h
     refine kS 78 (cZ nX TT.kE ?_ (h:=by exact qK))
     refine RK.st none rfl rfl (aV (([pI (n0.aG), .d (.slice (lO.map aa)),pS (n0.aq)])++((((lP.put nX ((idx ew v7).fp)).1.map ai).map PV.d)++([pS ([]:List UInt8)]))) TT.gF ?_ (hf:=by exact xY (n:=16) qK (ay (A:=[pI (n0.aG), .d (.slice (lO.map aa)),pS (n0.aq)]) (b:=17) rfl (ay (A:=(lP.1.map ai).map PV.d) (b:=1) (aj _) rfl rfl) rfl) bL) (hl:=by exact qt 3 _ rfl (eJ _ (AZ qK) (sy qK))))
     refine RK.nil ⟨fH.comp (by rfl),(iS (cn ?_))⟩
     refine rG ?_
     obtain ⟨F4,h⟩:=gG h
     refine xS 79 (bE nX (1:Int) F4 ?_)
     refine xm 34 (pI (nX+(1:Int))) ?_
     refine XK.nz ?_
     exact lb Vu ⟨(v7+(1:Int)),(nX+(1:Int)),m3,lO,(lP.put nX ((idx ew v7).fp)),by omega,jG h,rfl⟩ (vM 2 [0,1])
  ·replace h:=ek h oe
   refine QW.exit zL (eP (eP (kW (cn ?_))))
   refine QW.seq ?_
   refine QW.view (s':=⟨bW [(4, .aR 0 0),(6, .d (ai (af.of (⟨n0.aG,lO,n0.aq,lP,([]:List UInt8)⟩:part))))],aK [.var [.d (ai m3)]],1,[]⟩) (View.trans (View.HH (ds:=gU (⟨n0.aG,lO,n0.aq,lP,([]:List UInt8)⟩:part)) 1 6 rfl (show (gU (⟨n0.aG,lO,n0.aq,lP,([]:List UInt8)⟩:part)).map PV.d=_ by simp only [gU,List.map_append];rfl) (sA _) rfl rfl zL) (vM 1 [0])) zL ?_
   refine rG ?_
   refine xm 80 (.d (ai (af.of (⟨n0.aG,lO,n0.aq,lP,([]:List UInt8)⟩:part)))) ?_
   refine xS 81 (dX (.agg [.d (ai (af.of (⟨n0.aG,lO,n0.aq,lP,([]:List UInt8)⟩:part)))]) rfl TT.ru (cI rfl (bY (cells':=[.d (ai (af.of (⟨n0.aG,lO,n0.aq,lP,([]:List UInt8)⟩:part)))]) rfl rfl rfl bL rfl cH)) ?_)
   refine xN (aV [.d (ai (af.of (⟨n0.aG,lO,n0.aq,lP,([]:List UInt8)⟩:part)))] TT.eI ?_)
   refine xz 5 (pI (0)) ?_
   refine QW.ret zL ?_
   obtain rfl:=sG h
   exact Ends.more (.inr rfl) rfl (ps:=[.agg [.d (ai (af.of (⟨n0.aG,lO,n0.aq,lP,([]:List UInt8)⟩:part)))],pI (0)]) (And.intro (aN.cell rfl rfl TT.eI ⟨⟨by simp,by simp⟩,rfl⟩) (And.intro (aN.tmp rfl) trivial)) rfl rfl
end Go.Proofs.YtlfjfoknbjcncaaGreat.K
namespace Go.Proofs.YtlfjfoknbjcncaaGreat.K
open Go Go.RowKit
set_option linter.unusedSimpArgs false
set_option linter.unusedVariables false
set_option maxRecDepth 20000
set_option maxHeartbeats 4000000
namespace TT
theorem VN:Tryz.f60.results.toList=[.tmp 4]:=rfl
theorem VO:Tryz.f67.results.toList=[.tmp 2]:=rfl
end TT
inductive At where
 | S
 | L1 (v5:Int)
noncomputable def jE (a0:(List UInt8)) (b1:(List UInt8)):At→Option (At⊕Int)
 | .S=>
  some (.inl (.L1 (0)))
 | .L1 v5=>
  (bif (decide (v5<(a0.length:Int))) then
  gO ((decide ((b1.length:Int)≤v5))=false→0≤v5∧v5<(a0.length:Int)) (
  gO ((decide ((b1.length:Int)≤v5))=false→0≤v5∧v5<(b1.length:Int)) (
  (bif ((decide ((b1.length:Int)≤v5))||(!decide (((idx a0 v5).toNat:Int)=((idx b1 v5).toNat:Int)))) then
  some (.inr v5)
  else
  gO (bf (v5+(1:Int))) (
  some (.inl (.L1 (v5+(1:Int))))))))
  else
  some (.inr (a0.length:Int)))
noncomputable def Au (a0:(List UInt8)) (b1:(List UInt8)):Option Int:=gJ (jE a0 b1) .S
noncomputable def zX (a0:Int) (b1:Int):Option Int:=
  (bif (decide (a0<b1)) then
  some a0
  else
  some b1)
inductive CN where
 | S
 | L3 (xd:(List UInt8)) (iM:Int)
noncomputable def gC (p0:(List UInt8)) (qR:Bool):CN→Option (CN⊕(List UInt8))
 | .S=>
  (((bif qR then
  some (32)
  else
  some (0)):Option Int).bind fun (v5:Int)=>
  (((bif (decide (((p0.length:Int).tmod (2:Int))=(1:Int))) then
  gO (bf (v5+(16:Int))) (
  gO (0≤(0:Int)∧(0:Int)<(p0.length:Int)) (
  gO (bf ((v5+(16:Int))+((idx p0 (0:Int)).toNat:Int))) (
  some (((v5+(16:Int))+((idx p0 (0:Int)).toNat:Int)),1))))
  else
  some (v5,0)):Option (Int×Int)).bind fun (cr,v6)=>
  some (.inl (.L3 ([(g7 cr)]:List UInt8) v6))))
 | .L3 xd iM=>
  (bif (decide (iM<(p0.length:Int))) then
  gO (0≤iM∧iM<(p0.length:Int)) (
  gO (bf (iM+(1:Int))) (
  gO (0≤(iM+(1:Int))∧(iM+(1:Int))<(p0.length:Int)) (
  gO (xd.length+([(((16:UInt8)*(idx p0 iM))+(idx p0 (iM+(1:Int))))]:List UInt8).length≤9223372036854775807) (
  gO (bf (iM+(2:Int))) (
  some (.inl (.L3 (xd++([(((16:UInt8)*(idx p0 iM))+(idx p0 (iM+(1:Int))))]:List UInt8)) (iM+(2:Int)))))))))
  else
  some (.inr xd))
noncomputable def mC (p0:(List UInt8)) (qR:Bool):Option (List UInt8):=gJ (gC p0 qR) .S
theorem vu (p0:(List UInt8)) (qR:Bool) (r:(List UInt8)) (h:mC p0 qR=some r):cD Tryz.prog 60 [.slice (p0.map aa), .val (.bool qR)] (.val (sV r)):=by
 refine fQ Tryz.func60 Tryz.ntmps60 TT.VN ?_
 obtain ⟨_,h⟩:=cP h
 obtain ⟨dm,e9,h⟩:=aQ h;rw [gC] at h
 refine sR ?_
 refine xz 4 (pS ([]:List UInt8)) ?_
 refine sR ?_
 refine xz 5 (pI (0)) ?_
 obtain ⟨v5,hq,h⟩:=bG h
 refine QW.s6 (fun s'=>s'=⟨bW [(0, .d (.slice (p0.map aa))),(5,pI v5)],aK [],0,[]⟩) ?_ ?_
 ·replace h:=hq;clear hq
  refine sR ?_
  refine xm 9 (pB qR) ?_
  refine XK.nz ?_
  refine cT qR (fun c8=>?_) (fun c8=>?_)
  ·replace h:=bT h c8
   refine rG ?_
   refine xz 5 (pI (32)) ?_
   obtain rfl:=sO h
   exact jb rfl (vM 0 [])
  ·replace h:=bF h c8
   refine sk ?_
   obtain rfl:=sO h
   exact jb rfl (vM 0 [])
 ·rintro _ rfl
  refine sR ?_
  refine xz 6 (pI (0)) ?_
  obtain ⟨⟨cr,v6⟩,hq,h⟩:=bG h
  refine QW.s6 (fun s'=>s'=⟨bW [(0, .d (.slice (p0.map aa))),(5,pI cr),(6,pI v6)],aK [],0,[]⟩) ?_ ?_
  ·replace h:=hq;clear hq
   refine sR ?_
   refine xm 10 (.d (.slice (p0.map aa))) ?_
   refine xS 11 (cX aa p0 TT.bt ?_)
   refine xS 12 (uH (p0.length:Int) (2:Int) ?_)
   refine xT 13 (dj ((p0.length:Int).tmod (2:Int)) (1:Int) ?_)
   refine cT (decide (((p0.length:Int).tmod (2:Int))=(1:Int))) (fun cQ=>?_) (fun cQ=>?_)
   ·replace h:=bT h cQ
    refine sR ?_
    refine xm 14 (pI v5) ?_
    obtain ⟨eD,h⟩:=bq h
    refine xS 15 (bE v5 (16:Int) eD ?_)
    refine xm 16 (.d (.slice (p0.map aa))) ?_
    obtain ⟨rW,h⟩:=bq h
    refine xS 17 (bX p0 (0:Int) TT.fy fl rW ?_)
    refine xS 18 (aA (.val (.int .u8 ((idx p0 (0:Int)).toNat:Int))) TT.l6 ?_)
    refine xS 19 (zE ((idx p0 (0:Int)).toNat:Int) TT.dw TT.kD ?_)
    obtain ⟨nM,h⟩:=bq h
    refine xS 20 (bE (v5+(16:Int)) ((idx p0 (0:Int)).toNat:Int) nM ?_)
    refine xz 5 (pI ((v5+(16:Int))+((idx p0 (0:Int)).toNat:Int))) ?_
    refine rG ?_
    refine xz 6 (pI (1)) ?_
    simp only [Option.some.injEq,Prod.mk.injEq] at h
    obtain ⟨rfl,rfl⟩:=h
    exact jb rfl (vM 0 [])
   ·replace h:=bF h cQ
    refine sk ?_
    simp only [Option.some.injEq,Prod.mk.injEq] at h
    obtain ⟨rfl,rfl⟩:=h
    exact jb rfl (vM 0 [])
  ·rintro _ rfl
   refine sR ?_
   refine xm 21 (pI cr) ?_
   refine xS 22 (oY cr TT.kD TT.dw ?_)
   refine xS 23 (eA aa ([(g7 cr)]:List UInt8) TT.eV ?_)
   refine xS 24 (nk ([(g7 cr)]:List UInt8) TT.bt TT.dw TT.bh ?_)
   refine xz 7 (pS ([(g7 cr)]:List UInt8)) ?_
   refine QW.seq ?_
   refine sR ?_
   refine xm 25 (pI v6) ?_
   refine xz 8 (pI v6) ?_
   refine QW.block ?_
   refine lp (fun k σ=>∃ xd:(List UInt8),∃ iM:Int,k≤dm∧run (gC p0 qR) k (.L3 xd iM)=some r∧σ=⟨bW [(0, .d (.slice (p0.map aa))),(7,pS xd),(8,pI iM)],aK [],0,[]⟩) dm ⟨([(g7 cr)]:List UInt8),v6,Nat.le_refl _,jG h,rfl⟩ (vM 0 []) ?_
   rintro Zl _ ⟨xd,iM,Zm,h,rfl⟩
   obtain ⟨XP,e9,h⟩:=aQ h;rw [gC] at h
   refine QW.seq ?_
   refine sR ?_
   refine xm 26 (pI iM) ?_
   refine xm 27 (.d (.slice (p0.map aa))) ?_
   refine xS 28 (cX aa p0 TT.bt ?_)
   refine xT 29 (cM iM (p0.length:Int) ?_)
   refine cT (decide (iM<(p0.length:Int))) (fun wZ=>?_) (fun wZ=>?_)
   ·replace h:=ej h wZ
    refine sk ?_
    refine QW.seq ?_
    refine QW.block ?_
    refine QW.region zL (PW.nj (id:=12) dG (M:=_) rfl (by kernel_rfl) ?_)
    refine qS 32 (ax (pS xd) (q2 ?_))
    refine qS 33 (ax (.d (.slice (p0.map aa))) (q2 ?_))
    refine qS 34 (ax (pI iM) (q2 ?_))
    obtain ⟨uq,h⟩:=gG h
    refine qS 35 (bX p0 iM TT.fy fl uq (q2 ?_))
    refine qS 36 (aA (.val (.int .u8 ((idx p0 iM).toNat:Int))) TT.l6 (q2 ?_))
    refine qS 37 (Qn (16:UInt8) (idx p0 iM) (q2 ?_))
    refine qS 38 (ax (.d (.slice (p0.map aa))) (q2 ?_))
    refine qS 39 (ax (pI iM) (q2 ?_))
    obtain ⟨r5,h⟩:=gG h
    refine qS 40 (bE iM (1:Int) r5 (q2 ?_))
    obtain ⟨nT,h⟩:=gG h
    refine qS 41 (bX p0 (iM+(1:Int)) TT.fy fl nT (q2 ?_))
    refine qS 42 (aA (.val (.int .u8 ((idx p0 (iM+(1:Int))).toNat:Int))) TT.l6 (q2 ?_))
    refine qS 43 (JJ ((16:UInt8)*(idx p0 iM)) (idx p0 (iM+(1:Int))) (q2 ?_))
    refine qS 44 (eA aa ([(((16:UInt8)*(idx p0 iM))+(idx p0 (iM+(1:Int))))]:List UInt8) TT.eV (q2 ?_))
    refine qS 45 (nk ([(((16:UInt8)*(idx p0 iM))+(idx p0 (iM+(1:Int))))]:List UInt8) TT.bt TT.dw TT.bh (q2 ?_))
    obtain ⟨td,h⟩:=gG h
    refine qS 46 (lZ xd ([(((16:UInt8)*(idx p0 iM))+(idx p0 (iM+(1:Int))))]:List UInt8) td (q2 ?_))
    refine qS 7 (cj (pS (xd++([(((16:UInt8)*(idx p0 iM))+(idx p0 (iM+(1:Int))))]:List UInt8))) (q2 ?_))
    refine RQ.nil (iS (cn ?_))
    refine QW.view (s':=⟨bW [(0, .d (.slice (p0.map aa))),(7,pS (xd++([(((16:UInt8)*(idx p0 iM))+(idx p0 (iM+(1:Int))))]:List UInt8))),(8,pI iM)],aK [],0,[]⟩) (vM 0 []) zL ?_
    refine rG ?_
    refine xm 30 (pI iM) ?_
    obtain ⟨kP,h⟩:=gG h
    refine xS 31 (bE iM (2:Int) kP ?_)
    refine xz 8 (pI (iM+(2:Int))) ?_
    exact lb XP ⟨(xd++([(((16:UInt8)*(idx p0 iM))+(idx p0 (iM+(1:Int))))]:List UInt8)),(iM+(2:Int)),by omega,jG h,rfl⟩ (vM 0 [])
   ·replace h:=ek h wZ
    refine QW.exit zL (eP (eP (kW (cn ?_))))
    refine sR ?_
    refine xm 47 (pS xd) ?_
    refine xz 4 (pS xd) ?_
    refine QW.ret zL ?_
    obtain rfl:=sG h
    exact eO
inductive Bm where
 | S
 | L1 (v3:Int)
noncomputable def je (p0:(List UInt8)):Bm→Option (Bm⊕Bool)
 | .S=>
  some (.inl (.L1 (0)))
 | .L1 v3=>
  (bif (decide (v3<(p0.length:Int))) then
  gO (0≤v3∧v3<(p0.length:Int)) (
  (bif (decide ((16:Int)≤((idx p0 v3).toNat:Int))) then
  some (.inr false)
  else
  gO (bf (v3+(1:Int))) (
  some (.inl (.L1 (v3+(1:Int)))))))
  else
  some (.inr true))
noncomputable def tA (p0:(List UInt8)):Option Bool:=gJ (je p0) .S
theorem Fc (p0:(List UInt8)) (r:Bool) (h:tA p0=some r):cD Tryz.prog 67 [.slice (p0.map aa)] (.val (.bool r)):=by
 refine fQ Tryz.func67 Tryz.ntmps67 TT.VO ?_
 obtain ⟨_,h⟩:=cP h
 obtain ⟨dm,e9,h⟩:=aQ h;rw [je] at h
 refine sR ?_
 refine xz 2 (pB false) ?_
 refine QW.seq ?_
 refine sR ?_
 refine xz 3 (pI (0)) ?_
 refine QW.block ?_
 refine lp (fun k σ=>∃ v3:Int,k≤dm∧run (je p0) k (.L1 v3)=some r∧σ=⟨bW [(0, .d (.slice (p0.map aa))),(3,pI v3)],aK [],0,[]⟩) dm ⟨0,Nat.le_refl _,jG h,rfl⟩ (vM 0 []) ?_
 rintro wP _ ⟨v3,wQ,h,rfl⟩
 obtain ⟨k_1,e9,h⟩:=aQ h;rw [je] at h
 refine QW.seq ?_
 refine sR ?_
 refine xm 4 (pI v3) ?_
 refine xm 5 (.d (.slice (p0.map aa))) ?_
 refine xS 6 (cX aa p0 TT.bt ?_)
 refine xT 7 (cM v3 (p0.length:Int) ?_)
 refine cT (decide (v3<(p0.length:Int))) (fun cQ=>?_) (fun cQ=>?_)
 ·replace h:=ej h cQ
  refine sk ?_
  refine QW.seq ?_
  refine QW.block ?_
  refine sR ?_
  refine xm 10 (.d (.slice (p0.map aa))) ?_
  refine xm 11 (pI v3) ?_
  obtain ⟨eD,h⟩:=gG h
  refine xS 12 (bX p0 v3 TT.fy fl eD ?_)
  refine xS 13 (aA (.val (.int .u8 ((idx p0 v3).toNat:Int))) TT.l6 ?_)
  refine xT 14 (pO ((idx p0 v3).toNat:Int) (16:Int) ?_)
  refine cT (decide ((16:Int)≤((idx p0 v3).toNat:Int))) (fun fA=>?_) (fun fA=>?_)
  ·replace h:=ej h fA
   refine sR ?_
   refine xz 2 (pB false) ?_
   refine QW.ret zL (nK (dc (dc (nK (dc ?_)))))
   obtain rfl:=sG h
   exact eO
  ·replace h:=ek h fA
   refine QW.skip zL (iS (cn ?_))
   refine rG ?_
   refine xm 8 (pI v3) ?_
   obtain ⟨nM,h⟩:=gG h
   refine xS 9 (bE v3 (1:Int) nM ?_)
   refine xz 3 (pI (v3+(1:Int))) ?_
   exact lb k_1 ⟨(v3+(1:Int)),by omega,jG h,rfl⟩ (vM 0 [])
 ·replace h:=ek h cQ
  refine QW.exit zL (eP (eP (kW (cn ?_))))
  refine sR ?_
  refine xz 2 (pB true) ?_
  refine QW.ret zL ?_
  obtain rfl:=sG h
  exact eO
end Go.Proofs.YtlfjfoknbjcncaaGreat.K
namespace Go.Proofs.YtlfjfoknbjcncaaGreat.K
open Go Go.RowKit
set_option linter.unusedSimpArgs false
set_option linter.unusedVariables false
set_option maxRecDepth 20000
set_option maxHeartbeats 4000000
namespace TT
theorem VP:Tryz.f20.results.toList=[.tmp 2]:=rfl
theorem VQ:Tryz.f36.results.toList=[.tmp 2]:=rfl
theorem VR:Tryz.f65.results.toList=[.tmp 2]:=rfl
theorem VS:Tryz.f66.results.toList=[.tmp 4]:=rfl
theorem VT:Tryz.f90.results.toList=[.tmp 4]:=rfl
theorem VU:Tryz.f91.results.toList=[.tmp 4]:=rfl
theorem VV:Tryz.f92.results.toList=[.tmp 2]:=rfl
theorem VW:Tryz.f93.results.toList=[.tmp 2]:=rfl
theorem om:qH Tryz.prog 113=some (1,8):=by kernel_rfl
theorem fP:qG Tryz.prog 113=some (1,8,false):=by kernel_rfl
theorem hY:jU Tryz.prog 112=some (false,1):=by kernel_rfl
theorem zY:Program.underlying Tryz.prog 113=some (.slice 112):=by kernel_rfl
end TT
inductive CO where
 | S
 | L1 (v3:(List UInt8))
 | L2 (fq:(List UInt8)) (v4:(BitVec 64)) (v5:(List UInt8)) (v6:Int)
noncomputable def fo (s0:(List UInt8)):CO→Option (CO⊕(List UInt8))
 | .S=>
  gO (s0.length+([128]:List UInt8).length≤9223372036854775807) (
  some (.inl (.L1 (s0++([128]:List UInt8)))))
 | .L1 v3=>
  (bif (!decide (((v3.length:Int).tmod (64:Int))=(56:Int))) then
  gO (v3.length+([0]:List UInt8).length≤9223372036854775807) (
  some (.inl (.L1 (v3++([0]:List UInt8)))))
  else
  gO (bf ((8:Int)*(s0.length:Int))) (
  some (.inl (.L2 v3 (BitVec.ofInt 64 ((8:Int)*(s0.length:Int))) ([]:List UInt8) (0)))))
 | .L2 fq v4 v5 v6=>
  (bif (decide (v6<(8:Int))) then
  gO (([(g7 ((v4%(256:BitVec 64)).toNat:Int))]:List UInt8).length+v5.length≤9223372036854775807) (
  gO (bf (v6+(1:Int))) (
  some (.inl (.L2 fq (v4/(256:BitVec 64)) (([(g7 ((v4%(256:BitVec 64)).toNat:Int))]:List UInt8)++v5) (v6+(1:Int))))))
  else
  gO (fq.length+v5.length≤9223372036854775807) (
  some (.inr (fq++v5))))
noncomputable def yy (s0:(List UInt8)):Option (List UInt8):=gJ (fo s0) .S
theorem Gr (s0:(List UInt8)) (r:(List UInt8)) (h:yy s0=some r):cD Tryz.prog 65 [.val (sV s0)] (.val (sV r)):=by
 refine fQ Tryz.func65 Tryz.ntmps65 TT.VR ?_
 obtain ⟨_,h⟩:=cP h
 obtain ⟨dm,e9,h⟩:=aQ h;rw [fo] at h
 refine sR ?_
 refine xz 2 (pS ([]:List UInt8)) ?_
 refine sR ?_
 refine xm 7 (pS s0) ?_
 obtain ⟨oK,h⟩:=gG h
 refine xS 8 (lZ s0 ([128]:List UInt8) oK ?_)
 refine xz 3 (pS (s0++([128]:List UInt8))) ?_
 refine QW.seq ?_
 refine QW.block ?_
 refine lp (fun k σ=>∃ v3:(List UInt8),k≤dm∧run (fo s0) k (.L1 v3)=some r∧σ=⟨bW [(0,pS s0),(3,pS v3)],aK [],0,[]⟩) dm ⟨(s0++([128]:List UInt8)),Nat.le_refl _,jG h,rfl⟩ (vM 0 []) ?_
 rintro WT _ ⟨v3,WU,h,rfl⟩
 obtain ⟨k_2,e9,h⟩:=aQ h;rw [fo] at h
 refine QW.seq ?_
 refine sR ?_
 refine xm 9 (pS v3) ?_
 refine xS 10 (eU v3 TT.bh ?_)
 refine xS 11 (uH (v3.length:Int) (64:Int) ?_)
 refine xT 12 (mI ((v3.length:Int).tmod (64:Int)) (56:Int) ?_)
 refine cT (!decide (((v3.length:Int).tmod (64:Int))=(56:Int))) (fun dY=>?_) (fun dY=>?_)
 ·replace h:=ej h dY
  refine sk ?_
  refine QW.block ?_
  refine rG ?_
  refine xm 13 (pS v3) ?_
  obtain ⟨rW,h⟩:=gG h
  refine xS 14 (lZ v3 ([0]:List UInt8) rW ?_)
  refine xa 3 (pS (v3++([0]:List UInt8))) ?_
  refine XK.nil (iS (cn ?_))
  exact lb k_2 ⟨(v3++([0]:List UInt8)),by omega,jG h,rfl⟩ (vM 0 [])
 ·replace h:=ek h dY
  refine QW.exit zL (eP (eP (kW (cn ?_))))
  refine sR ?_
  refine xm 15 (pS s0) ?_
  refine xS 16 (eU s0 TT.bh ?_)
  obtain ⟨nM,h⟩:=gG h
  refine xS 17 (zC (8:Int) (s0.length:Int) nM ?_)
  refine xS 18 (xX ((8:Int)*(s0.length:Int)) TT.kD TT.uv ?_)
  refine xz 4 (.d (.val (.int .u64 ((BitVec.ofInt 64 ((8:Int)*(s0.length:Int))).toNat:Int)))) ?_
  refine sR ?_
  refine xz 5 (pS ([]:List UInt8)) ?_
  refine QW.seq ?_
  refine sR ?_
  refine xz 6 (pI (0)) ?_
  refine QW.block ?_
  refine lp (fun k σ=>∃ fq:(List UInt8),∃ v4:(BitVec 64),∃ v5:(List UInt8),∃ v6:Int,k≤k_2∧run (fo s0) k (.L2 fq v4 v5 v6)=some r∧σ=⟨bW [(3,pS fq),(4, .d (.val (.int .u64 (v4.toNat:Int)))),(5,pS v5),(6,pI v6)],aK [],0,[]⟩) k_2 ⟨v3,(BitVec.ofInt 64 ((8:Int)*(s0.length:Int))),([]:List UInt8),0,Nat.le_refl _,jG h,rfl⟩ (vM 0 []) ?_
  rintro Zl _ ⟨fq,v4,v5,v6,Zm,h,rfl⟩
  obtain ⟨XP,e9,h⟩:=aQ h;rw [fo] at h
  refine QW.seq ?_
  refine sR ?_
  refine xm 19 (pI v6) ?_
  refine xT 20 (cM v6 (8:Int) ?_)
  refine cT (decide (v6<(8:Int))) (fun wZ=>?_) (fun wZ=>?_)
  ·replace h:=ej h wZ
   refine sk ?_
   refine QW.seq ?_
   refine QW.block ?_
   refine sR ?_
   refine xm 23 (.d (.val (.int .u64 (v4.toNat:Int)))) ?_
   refine xS 24 (B1 v4 (256:BitVec 64) ?_)
   refine xS 25 (oY ((v4%(256:BitVec 64)).toNat:Int) TT.uv TT.dw ?_)
   refine xS 26 (eA aa ([(g7 ((v4%(256:BitVec 64)).toNat:Int))]:List UInt8) TT.eV ?_)
   refine xS 27 (nk ([(g7 ((v4%(256:BitVec 64)).toNat:Int))]:List UInt8) TT.bt TT.dw TT.bh ?_)
   refine xm 28 (pS v5) ?_
   obtain ⟨uq,h⟩:=gG h
   refine xS 29 (lZ ([(g7 ((v4%(256:BitVec 64)).toNat:Int))]:List UInt8) v5 uq ?_)
   refine xz 5 (pS (([(g7 ((v4%(256:BitVec 64)).toNat:Int))]:List UInt8)++v5)) ?_
   refine rG ?_
   refine xm 30 (.d (.val (.int .u64 (v4.toNat:Int)))) ?_
   refine xS 31 (B0 v4 (256:BitVec 64) ?_)
   refine xa 4 (.d (.val (.int .u64 ((v4/(256:BitVec 64)).toNat:Int)))) ?_
   refine XK.nil (iS (cn ?_))
   refine rG ?_
   refine xm 21 (pI v6) ?_
   obtain ⟨r5,h⟩:=gG h
   refine xS 22 (bE v6 (1:Int) r5 ?_)
   refine xz 6 (pI (v6+(1:Int))) ?_
   exact lb XP ⟨fq,(v4/(256:BitVec 64)),(([(g7 ((v4%(256:BitVec 64)).toNat:Int))]:List UInt8)++v5),(v6+(1:Int)),by omega,jG h,rfl⟩ (vM 0 [])
  ·replace h:=ek h wZ
   refine QW.exit zL (eP (eP (kW (cn ?_))))
   refine sR ?_
   refine xm 32 (pS fq) ?_
   refine xm 33 (pS v5) ?_
   obtain ⟨nT,h⟩:=gG h
   refine xS 34 (lZ fq v5 nT ?_)
   refine xz 2 (pS (fq++v5)) ?_
   refine QW.ret zL ?_
   obtain rfl:=sG h
   exact eO
inductive CP where
 | S
 | L1 (lC:(BitVec 64)) (v5:Int)
noncomputable def kM (x0:(BitVec 64)) (n1:Int):CP→Option (CP⊕(BitVec 64))
 | .S=>
  some (.inl (.L1 x0 (0)))
 | .L1 lC v5=>
  (bif (decide (v5<n1)) then
  gO (bf (v5+(1:Int))) (
  some (.inl (.L1 ((lC/(2:BitVec 64))+((lC%(2:BitVec 64))*(2147483648:BitVec 64))) (v5+(1:Int)))))
  else
  some (.inr lC))
noncomputable def dI (x0:(BitVec 64)) (n1:Int):Option (BitVec 64):=gJ (kM x0 n1) .S
theorem iO (x0:(BitVec 64)) (n1:Int) (r:(BitVec 64)) (h:dI x0 n1=some r):cD Tryz.prog 90 [.val (.int .u64 (x0.toNat:Int)), .val (.int .i64 n1)] (.val (.int .u64 (r.toNat:Int))):=by
 refine fQ Tryz.func90 Tryz.ntmps90 TT.VT ?_
 obtain ⟨_,h⟩:=cP h
 obtain ⟨dm,e9,h⟩:=aQ h;rw [kM] at h
 refine sR ?_
 refine xz 4 (.d (.val (.int .u64 ((0:BitVec 64).toNat:Int)))) ?_
 refine QW.seq ?_
 refine sR ?_
 refine xz 5 (pI (0)) ?_
 refine QW.block ?_
 refine lp (fun k σ=>∃ lC:(BitVec 64),∃ v5:Int,k≤dm∧run (kM x0 n1) k (.L1 lC v5)=some r∧σ=⟨bW [(0, .d (.val (.int .u64 (lC.toNat:Int)))),(1,pI n1),(5,pI v5)],aK [],0,[]⟩) dm ⟨x0,0,Nat.le_refl _,jG h,rfl⟩ (vM 0 []) ?_
 rintro wP _ ⟨lC,v5,wQ,h,rfl⟩
 obtain ⟨k_1,e9,h⟩:=aQ h;rw [kM] at h
 refine QW.seq ?_
 refine sR ?_
 refine xm 6 (pI v5) ?_
 refine xm 7 (pI n1) ?_
 refine xT 8 (cM v5 n1 ?_)
 refine cT (decide (v5<n1)) (fun cQ=>?_) (fun cQ=>?_)
 ·replace h:=ej h cQ
  refine sk ?_
  refine QW.seq ?_
  refine QW.block ?_
  refine rG ?_
  refine xm 11 (.d (.val (.int .u64 (lC.toNat:Int)))) ?_
  refine xS 12 (B0 lC (2:BitVec 64) ?_)
  refine xm 13 (.d (.val (.int .u64 (lC.toNat:Int)))) ?_
  refine xS 14 (B1 lC (2:BitVec 64) ?_)
  refine xS 15 (E3 (lC%(2:BitVec 64)) (2147483648:BitVec 64) ?_)
  refine xS 16 (ga (lC/(2:BitVec 64)) ((lC%(2:BitVec 64))*(2147483648:BitVec 64)) ?_)
  refine xa 0 (.d (.val (.int .u64 (((lC/(2:BitVec 64))+((lC%(2:BitVec 64))*(2147483648:BitVec 64))).toNat:Int)))) ?_
  refine XK.nil (iS (cn ?_))
  refine rG ?_
  refine xm 9 (pI v5) ?_
  obtain ⟨eD,h⟩:=gG h
  refine xS 10 (bE v5 (1:Int) eD ?_)
  refine xz 5 (pI (v5+(1:Int))) ?_
  exact lb k_1 ⟨((lC/(2:BitVec 64))+((lC%(2:BitVec 64))*(2147483648:BitVec 64))),(v5+(1:Int)),by omega,jG h,rfl⟩ (vM 0 [])
 ·replace h:=ek h cQ
  refine QW.exit zL (eP (eP (kW (cn ?_))))
  refine sR ?_
  refine xm 17 (.d (.val (.int .u64 (lC.toNat:Int)))) ?_
  refine xz 4 (.d (.val (.int .u64 (lC.toNat:Int)))) ?_
  refine QW.ret zL ?_
  obtain rfl:=sG h
  exact eO
inductive Bn where
 | S
 | L1 (lC:(BitVec 64)) (v5:Int)
noncomputable def jf (x0:(BitVec 64)) (n1:Int):Bn→Option (Bn⊕(BitVec 64))
 | .S=>
  some (.inl (.L1 x0 (0)))
 | .L1 lC v5=>
  (bif (decide (v5<n1)) then
  gO (bf (v5+(1:Int))) (
  some (.inl (.L1 (lC/(2:BitVec 64)) (v5+(1:Int)))))
  else
  some (.inr lC))
noncomputable def oo (x0:(BitVec 64)) (n1:Int):Option (BitVec 64):=gJ (jf x0 n1) .S
theorem y4 (x0:(BitVec 64)) (n1:Int) (r:(BitVec 64)) (h:oo x0 n1=some r):cD Tryz.prog 91 [.val (.int .u64 (x0.toNat:Int)), .val (.int .i64 n1)] (.val (.int .u64 (r.toNat:Int))):=by
 refine fQ Tryz.func91 Tryz.ntmps91 TT.VU ?_
 obtain ⟨_,h⟩:=cP h
 obtain ⟨dm,e9,h⟩:=aQ h;rw [jf] at h
 refine sR ?_
 refine xz 4 (.d (.val (.int .u64 ((0:BitVec 64).toNat:Int)))) ?_
 refine QW.seq ?_
 refine sR ?_
 refine xz 5 (pI (0)) ?_
 refine QW.block ?_
 refine lp (fun k σ=>∃ lC:(BitVec 64),∃ v5:Int,k≤dm∧run (jf x0 n1) k (.L1 lC v5)=some r∧σ=⟨bW [(0, .d (.val (.int .u64 (lC.toNat:Int)))),(1,pI n1),(5,pI v5)],aK [],0,[]⟩) dm ⟨x0,0,Nat.le_refl _,jG h,rfl⟩ (vM 0 []) ?_
 rintro wP _ ⟨lC,v5,wQ,h,rfl⟩
 obtain ⟨k_1,e9,h⟩:=aQ h;rw [jf] at h
 refine QW.seq ?_
 refine sR ?_
 refine xm 6 (pI v5) ?_
 refine xm 7 (pI n1) ?_
 refine xT 8 (cM v5 n1 ?_)
 refine cT (decide (v5<n1)) (fun cQ=>?_) (fun cQ=>?_)
 ·replace h:=ej h cQ
  refine sk ?_
  refine QW.seq ?_
  refine QW.block ?_
  refine rG ?_
  refine xm 11 (.d (.val (.int .u64 (lC.toNat:Int)))) ?_
  refine xS 12 (B0 lC (2:BitVec 64) ?_)
  refine xa 0 (.d (.val (.int .u64 ((lC/(2:BitVec 64)).toNat:Int)))) ?_
  refine XK.nil (iS (cn ?_))
  refine rG ?_
  refine xm 9 (pI v5) ?_
  obtain ⟨eD,h⟩:=gG h
  refine xS 10 (bE v5 (1:Int) eD ?_)
  refine xz 5 (pI (v5+(1:Int))) ?_
  exact lb k_1 ⟨(lC/(2:BitVec 64)),(v5+(1:Int)),by omega,jG h,rfl⟩ (vM 0 [])
 ·replace h:=ek h cQ
  refine QW.exit zL (eP (eP (kW (cn ?_))))
  refine sR ?_
  refine xm 13 (.d (.val (.int .u64 (lC.toNat:Int)))) ?_
  refine xz 4 (.d (.val (.int .u64 (lC.toNat:Int)))) ?_
  refine QW.ret zL ?_
  obtain rfl:=sG h
  exact eO
noncomputable def k6 (x0:(BitVec 64)):Option (BitVec 64):=
  some (x0%(4294967296:BitVec 64))
theorem oq (x0:(BitVec 64)) (r:(BitVec 64)) (h:k6 x0=some r):cD Tryz.prog 92 [.val (.int .u64 (x0.toNat:Int))] (.val (.int .u64 (r.toNat:Int))):=by
 refine fQ Tryz.func92 Tryz.ntmps92 TT.VV ?_
 unfold k6 at h
 refine sR ?_
 refine xz 2 (.d (.val (.int .u64 ((0:BitVec 64).toNat:Int)))) ?_
 refine sR ?_
 refine xm 3 (.d (.val (.int .u64 (x0.toNat:Int)))) ?_
 refine xS 4 (B1 x0 (4294967296:BitVec 64) ?_)
 refine xz 2 (.d (.val (.int .u64 ((x0%(4294967296:BitVec 64)).toNat:Int)))) ?_
 refine QW.ret zL ?_
 obtain rfl:=sO h
 exact eO
noncomputable def zZ (i0:Int):Option (BitVec 64):=
  gO (0≤i0∧i0<(([(1116352408:BitVec 64),(1899447441:BitVec 64),(3049323471:BitVec 64),(3921009573:BitVec 64),(961987163:BitVec 64),(1508970993:BitVec 64),(2453635748:BitVec 64),(2870763221:BitVec 64),(3624381080:BitVec 64),(310598401:BitVec 64),(607225278:BitVec 64),(1426881987:BitVec 64),(1925078388:BitVec 64),(2162078206:BitVec 64),(2614888103:BitVec 64),(3248222580:BitVec 64),(3835390401:BitVec 64),(4022224774:BitVec 64),(264347078:BitVec 64),(604807628:BitVec 64),(770255983:BitVec 64),(1249150122:BitVec 64),(1555081692:BitVec 64),(1996064986:BitVec 64),(2554220882:BitVec 64),(2821834349:BitVec 64),(2952996808:BitVec 64),(3210313671:BitVec 64),(3336571891:BitVec 64),(3584528711:BitVec 64),(113926993:BitVec 64),(338241895:BitVec 64),(666307205:BitVec 64),(773529912:BitVec 64),(1294757372:BitVec 64),(1396182291:BitVec 64),(1695183700:BitVec 64),(1986661051:BitVec 64),(2177026350:BitVec 64),(2456956037:BitVec 64),(2730485921:BitVec 64),(2820302411:BitVec 64),(3259730800:BitVec 64),(3345764771:BitVec 64),(3516065817:BitVec 64),(3600352804:BitVec 64),(4094571909:BitVec 64),(275423344:BitVec 64),(430227734:BitVec 64),(506948616:BitVec 64),(659060556:BitVec 64),(883997877:BitVec 64),(958139571:BitVec 64),(1322822218:BitVec 64),(1537002063:BitVec 64),(1747873779:BitVec 64),(1955562222:BitVec 64),(2024104815:BitVec 64),(2227730452:BitVec 64),(2361852424:BitVec 64),(2428436474:BitVec 64),(2756734187:BitVec 64),(3204031479:BitVec 64),(3329325298:BitVec 64)]:List (BitVec 64)).length:Int)) (
  some (idx ([(1116352408:BitVec 64),(1899447441:BitVec 64),(3049323471:BitVec 64),(3921009573:BitVec 64),(961987163:BitVec 64),(1508970993:BitVec 64),(2453635748:BitVec 64),(2870763221:BitVec 64),(3624381080:BitVec 64),(310598401:BitVec 64),(607225278:BitVec 64),(1426881987:BitVec 64),(1925078388:BitVec 64),(2162078206:BitVec 64),(2614888103:BitVec 64),(3248222580:BitVec 64),(3835390401:BitVec 64),(4022224774:BitVec 64),(264347078:BitVec 64),(604807628:BitVec 64),(770255983:BitVec 64),(1249150122:BitVec 64),(1555081692:BitVec 64),(1996064986:BitVec 64),(2554220882:BitVec 64),(2821834349:BitVec 64),(2952996808:BitVec 64),(3210313671:BitVec 64),(3336571891:BitVec 64),(3584528711:BitVec 64),(113926993:BitVec 64),(338241895:BitVec 64),(666307205:BitVec 64),(773529912:BitVec 64),(1294757372:BitVec 64),(1396182291:BitVec 64),(1695183700:BitVec 64),(1986661051:BitVec 64),(2177026350:BitVec 64),(2456956037:BitVec 64),(2730485921:BitVec 64),(2820302411:BitVec 64),(3259730800:BitVec 64),(3345764771:BitVec 64),(3516065817:BitVec 64),(3600352804:BitVec 64),(4094571909:BitVec 64),(275423344:BitVec 64),(430227734:BitVec 64),(506948616:BitVec 64),(659060556:BitVec 64),(883997877:BitVec 64),(958139571:BitVec 64),(1322822218:BitVec 64),(1537002063:BitVec 64),(1747873779:BitVec 64),(1955562222:BitVec 64),(2024104815:BitVec 64),(2227730452:BitVec 64),(2361852424:BitVec 64),(2428436474:BitVec 64),(2756734187:BitVec 64),(3204031479:BitVec 64),(3329325298:BitVec 64)]:List (BitVec 64)) i0))
theorem Lk (i0:Int) (r:(BitVec 64)) (h:zZ i0=some r):cD Tryz.prog 93 [.val (.int .i64 i0)] (.val (.int .u64 (r.toNat:Int))):=by
 refine fQ Tryz.func93 Tryz.ntmps93 TT.VW ?_
 unfold zZ at h
 refine sR ?_
 refine xz 2 (.d (.val (.int .u64 ((0:BitVec 64).toNat:Int)))) ?_
 refine sR ?_
 refine xS 4 (eA fO ([(1116352408:BitVec 64),(1899447441:BitVec 64),(3049323471:BitVec 64),(3921009573:BitVec 64),(961987163:BitVec 64),(1508970993:BitVec 64),(2453635748:BitVec 64),(2870763221:BitVec 64),(3624381080:BitVec 64),(310598401:BitVec 64),(607225278:BitVec 64),(1426881987:BitVec 64),(1925078388:BitVec 64),(2162078206:BitVec 64),(2614888103:BitVec 64),(3248222580:BitVec 64),(3835390401:BitVec 64),(4022224774:BitVec 64),(264347078:BitVec 64),(604807628:BitVec 64),(770255983:BitVec 64),(1249150122:BitVec 64),(1555081692:BitVec 64),(1996064986:BitVec 64),(2554220882:BitVec 64),(2821834349:BitVec 64),(2952996808:BitVec 64),(3210313671:BitVec 64),(3336571891:BitVec 64),(3584528711:BitVec 64),(113926993:BitVec 64),(338241895:BitVec 64),(666307205:BitVec 64),(773529912:BitVec 64),(1294757372:BitVec 64),(1396182291:BitVec 64),(1695183700:BitVec 64),(1986661051:BitVec 64),(2177026350:BitVec 64),(2456956037:BitVec 64),(2730485921:BitVec 64),(2820302411:BitVec 64),(3259730800:BitVec 64),(3345764771:BitVec 64),(3516065817:BitVec 64),(3600352804:BitVec 64),(4094571909:BitVec 64),(275423344:BitVec 64),(430227734:BitVec 64),(506948616:BitVec 64),(659060556:BitVec 64),(883997877:BitVec 64),(958139571:BitVec 64),(1322822218:BitVec 64),(1537002063:BitVec 64),(1747873779:BitVec 64),(1955562222:BitVec 64),(2024104815:BitVec 64),(2227730452:BitVec 64),(2361852424:BitVec 64),(2428436474:BitVec 64),(2756734187:BitVec 64),(3204031479:BitVec 64),(3329325298:BitVec 64)]:List (BitVec 64)) TT.om ?_ (hl:=fI))
 refine xz 3 (.full (([(1116352408:BitVec 64),(1899447441:BitVec 64),(3049323471:BitVec 64),(3921009573:BitVec 64),(961987163:BitVec 64),(1508970993:BitVec 64),(2453635748:BitVec 64),(2870763221:BitVec 64),(3624381080:BitVec 64),(310598401:BitVec 64),(607225278:BitVec 64),(1426881987:BitVec 64),(1925078388:BitVec 64),(2162078206:BitVec 64),(2614888103:BitVec 64),(3248222580:BitVec 64),(3835390401:BitVec 64),(4022224774:BitVec 64),(264347078:BitVec 64),(604807628:BitVec 64),(770255983:BitVec 64),(1249150122:BitVec 64),(1555081692:BitVec 64),(1996064986:BitVec 64),(2554220882:BitVec 64),(2821834349:BitVec 64),(2952996808:BitVec 64),(3210313671:BitVec 64),(3336571891:BitVec 64),(3584528711:BitVec 64),(113926993:BitVec 64),(338241895:BitVec 64),(666307205:BitVec 64),(773529912:BitVec 64),(1294757372:BitVec 64),(1396182291:BitVec 64),(1695183700:BitVec 64),(1986661051:BitVec 64),(2177026350:BitVec 64),(2456956037:BitVec 64),(2730485921:BitVec 64),(2820302411:BitVec 64),(3259730800:BitVec 64),(3345764771:BitVec 64),(3516065817:BitVec 64),(3600352804:BitVec 64),(4094571909:BitVec 64),(275423344:BitVec 64),(430227734:BitVec 64),(506948616:BitVec 64),(659060556:BitVec 64),(883997877:BitVec 64),(958139571:BitVec 64),(1322822218:BitVec 64),(1537002063:BitVec 64),(1747873779:BitVec 64),(1955562222:BitVec 64),(2024104815:BitVec 64),(2227730452:BitVec 64),(2361852424:BitVec 64),(2428436474:BitVec 64),(2756734187:BitVec 64),(3204031479:BitVec 64),(3329325298:BitVec 64)]:List (BitVec 64)).map fO)) ?_
 refine sR ?_
 refine xm 5 (.full (([(1116352408:BitVec 64),(1899447441:BitVec 64),(3049323471:BitVec 64),(3921009573:BitVec 64),(961987163:BitVec 64),(1508970993:BitVec 64),(2453635748:BitVec 64),(2870763221:BitVec 64),(3624381080:BitVec 64),(310598401:BitVec 64),(607225278:BitVec 64),(1426881987:BitVec 64),(1925078388:BitVec 64),(2162078206:BitVec 64),(2614888103:BitVec 64),(3248222580:BitVec 64),(3835390401:BitVec 64),(4022224774:BitVec 64),(264347078:BitVec 64),(604807628:BitVec 64),(770255983:BitVec 64),(1249150122:BitVec 64),(1555081692:BitVec 64),(1996064986:BitVec 64),(2554220882:BitVec 64),(2821834349:BitVec 64),(2952996808:BitVec 64),(3210313671:BitVec 64),(3336571891:BitVec 64),(3584528711:BitVec 64),(113926993:BitVec 64),(338241895:BitVec 64),(666307205:BitVec 64),(773529912:BitVec 64),(1294757372:BitVec 64),(1396182291:BitVec 64),(1695183700:BitVec 64),(1986661051:BitVec 64),(2177026350:BitVec 64),(2456956037:BitVec 64),(2730485921:BitVec 64),(2820302411:BitVec 64),(3259730800:BitVec 64),(3345764771:BitVec 64),(3516065817:BitVec 64),(3600352804:BitVec 64),(4094571909:BitVec 64),(275423344:BitVec 64),(430227734:BitVec 64),(506948616:BitVec 64),(659060556:BitVec 64),(883997877:BitVec 64),(958139571:BitVec 64),(1322822218:BitVec 64),(1537002063:BitVec 64),(1747873779:BitVec 64),(1955562222:BitVec 64),(2024104815:BitVec 64),(2227730452:BitVec 64),(2361852424:BitVec 64),(2428436474:BitVec 64),(2756734187:BitVec 64),(3204031479:BitVec 64),(3329325298:BitVec 64)]:List (BitVec 64)).map fO)) ?_
 refine xm 6 (pI i0) ?_
 obtain ⟨oK,h⟩:=bq h
 refine xS 7 (bX ([(1116352408:BitVec 64),(1899447441:BitVec 64),(3049323471:BitVec 64),(3921009573:BitVec 64),(961987163:BitVec 64),(1508970993:BitVec 64),(2453635748:BitVec 64),(2870763221:BitVec 64),(3624381080:BitVec 64),(310598401:BitVec 64),(607225278:BitVec 64),(1426881987:BitVec 64),(1925078388:BitVec 64),(2162078206:BitVec 64),(2614888103:BitVec 64),(3248222580:BitVec 64),(3835390401:BitVec 64),(4022224774:BitVec 64),(264347078:BitVec 64),(604807628:BitVec 64),(770255983:BitVec 64),(1249150122:BitVec 64),(1555081692:BitVec 64),(1996064986:BitVec 64),(2554220882:BitVec 64),(2821834349:BitVec 64),(2952996808:BitVec 64),(3210313671:BitVec 64),(3336571891:BitVec 64),(3584528711:BitVec 64),(113926993:BitVec 64),(338241895:BitVec 64),(666307205:BitVec 64),(773529912:BitVec 64),(1294757372:BitVec 64),(1396182291:BitVec 64),(1695183700:BitVec 64),(1986661051:BitVec 64),(2177026350:BitVec 64),(2456956037:BitVec 64),(2730485921:BitVec 64),(2820302411:BitVec 64),(3259730800:BitVec 64),(3345764771:BitVec 64),(3516065817:BitVec 64),(3600352804:BitVec 64),(4094571909:BitVec 64),(275423344:BitVec 64),(430227734:BitVec 64),(506948616:BitVec 64),(659060556:BitVec 64),(883997877:BitVec 64),(958139571:BitVec 64),(1322822218:BitVec 64),(1537002063:BitVec 64),(1747873779:BitVec 64),(1955562222:BitVec 64),(2024104815:BitVec 64),(2227730452:BitVec 64),(2361852424:BitVec 64),(2428436474:BitVec 64),(2756734187:BitVec 64),(3204031479:BitVec 64),(3329325298:BitVec 64)]:List (BitVec 64)) i0 TT.fP fI oK ?_)
 refine xS 8 (aA (.val (.int .u64 ((idx ([(1116352408:BitVec 64),(1899447441:BitVec 64),(3049323471:BitVec 64),(3921009573:BitVec 64),(961987163:BitVec 64),(1508970993:BitVec 64),(2453635748:BitVec 64),(2870763221:BitVec 64),(3624381080:BitVec 64),(310598401:BitVec 64),(607225278:BitVec 64),(1426881987:BitVec 64),(1925078388:BitVec 64),(2162078206:BitVec 64),(2614888103:BitVec 64),(3248222580:BitVec 64),(3835390401:BitVec 64),(4022224774:BitVec 64),(264347078:BitVec 64),(604807628:BitVec 64),(770255983:BitVec 64),(1249150122:BitVec 64),(1555081692:BitVec 64),(1996064986:BitVec 64),(2554220882:BitVec 64),(2821834349:BitVec 64),(2952996808:BitVec 64),(3210313671:BitVec 64),(3336571891:BitVec 64),(3584528711:BitVec 64),(113926993:BitVec 64),(338241895:BitVec 64),(666307205:BitVec 64),(773529912:BitVec 64),(1294757372:BitVec 64),(1396182291:BitVec 64),(1695183700:BitVec 64),(1986661051:BitVec 64),(2177026350:BitVec 64),(2456956037:BitVec 64),(2730485921:BitVec 64),(2820302411:BitVec 64),(3259730800:BitVec 64),(3345764771:BitVec 64),(3516065817:BitVec 64),(3600352804:BitVec 64),(4094571909:BitVec 64),(275423344:BitVec 64),(430227734:BitVec 64),(506948616:BitVec 64),(659060556:BitVec 64),(883997877:BitVec 64),(958139571:BitVec 64),(1322822218:BitVec 64),(1537002063:BitVec 64),(1747873779:BitVec 64),(1955562222:BitVec 64),(2024104815:BitVec 64),(2227730452:BitVec 64),(2361852424:BitVec 64),(2428436474:BitVec 64),(2756734187:BitVec 64),(3204031479:BitVec 64),(3329325298:BitVec 64)]:List (BitVec 64)) i0).toNat:Int))) TT.hY ?_)
 refine xz 2 (.d (.val (.int .u64 ((idx ([(1116352408:BitVec 64),(1899447441:BitVec 64),(3049323471:BitVec 64),(3921009573:BitVec 64),(961987163:BitVec 64),(1508970993:BitVec 64),(2453635748:BitVec 64),(2870763221:BitVec 64),(3624381080:BitVec 64),(310598401:BitVec 64),(607225278:BitVec 64),(1426881987:BitVec 64),(1925078388:BitVec 64),(2162078206:BitVec 64),(2614888103:BitVec 64),(3248222580:BitVec 64),(3835390401:BitVec 64),(4022224774:BitVec 64),(264347078:BitVec 64),(604807628:BitVec 64),(770255983:BitVec 64),(1249150122:BitVec 64),(1555081692:BitVec 64),(1996064986:BitVec 64),(2554220882:BitVec 64),(2821834349:BitVec 64),(2952996808:BitVec 64),(3210313671:BitVec 64),(3336571891:BitVec 64),(3584528711:BitVec 64),(113926993:BitVec 64),(338241895:BitVec 64),(666307205:BitVec 64),(773529912:BitVec 64),(1294757372:BitVec 64),(1396182291:BitVec 64),(1695183700:BitVec 64),(1986661051:BitVec 64),(2177026350:BitVec 64),(2456956037:BitVec 64),(2730485921:BitVec 64),(2820302411:BitVec 64),(3259730800:BitVec 64),(3345764771:BitVec 64),(3516065817:BitVec 64),(3600352804:BitVec 64),(4094571909:BitVec 64),(275423344:BitVec 64),(430227734:BitVec 64),(506948616:BitVec 64),(659060556:BitVec 64),(883997877:BitVec 64),(958139571:BitVec 64),(1322822218:BitVec 64),(1537002063:BitVec 64),(1747873779:BitVec 64),(1955562222:BitVec 64),(2024104815:BitVec 64),(2227730452:BitVec 64),(2361852424:BitVec 64),(2428436474:BitVec 64),(2756734187:BitVec 64),(3204031479:BitVec 64),(3329325298:BitVec 64)]:List (BitVec 64)) i0).toNat:Int)))) ?_
 refine QW.ret zL ?_
 obtain rfl:=sO h
 exact eO
inductive Bo where
 | S
 | L1 (cr:(List (BitVec 64))) (v6:Int)
 | L3 (qU:(List (BitVec 64))) (pK:Int) (lQ:(BitVec 64)) (mb:Int)
 | J2 (jF:(List (BitVec 64))) (xe:Int)
 | L4 (mV:(List (BitVec 64))) (v11:(List (BitVec 64))) (lA:Int)
 | L5 (tB:(List (BitVec 64))) (Dw:(List (BitVec 64))) (v20:Int)
noncomputable def bJ (h0:(List (BitVec 64))) (s1:(List UInt8)):Bo→Option (Bo⊕(List (BitVec 64)))
 | .S=>
  some (.inl (.L1 ([]:(List (BitVec 64))) (0)))
 | .L1 cr v6=>
  (bif (decide (v6<(64:Int))) then
  (bif (decide (v6<(16:Int))) then
  gO (bf ((4:Int)*v6)) (
  some (.inl (.L3 cr v6 (0:BitVec 64) ((4:Int)*v6))))
  else
  gO (bf (v6-(15:Int))) (
  gO (0≤(v6-(15:Int))∧(v6-(15:Int))<(cr.length:Int)) (
  gO (bf (v6-(2:Int))) (
  gO (0≤(v6-(2:Int))∧(v6-(2:Int))<(cr.length:Int)) (
  ((dI (idx cr (v6-(15:Int))) (7)).bind fun (x_16:(BitVec 64))=>
  ((dI (idx cr (v6-(15:Int))) (18)).bind fun (x_18:(BitVec 64))=>
  ((oo (idx cr (v6-(15:Int))) (3)).bind fun (x_20:(BitVec 64))=>
  ((dI (idx cr (v6-(2:Int))) (17)).bind fun (x_22:(BitVec 64))=>
  ((dI (idx cr (v6-(2:Int))) (19)).bind fun (x_24:(BitVec 64))=>
  ((oo (idx cr (v6-(2:Int))) (10)).bind fun (sK:(BitVec 64))=>
  gO (bf (v6-(16:Int))) (
  gO (0≤(v6-(16:Int))∧(v6-(16:Int))<(cr.length:Int)) (
  gO (bf (v6-(7:Int))) (
  gO (0≤(v6-(7:Int))∧(v6-(7:Int))<(cr.length:Int)) (
  ((k6 ((((idx cr (v6-(16:Int)))+((x_16^^^x_18)^^^x_20))+(idx cr (v6-(7:Int))))+((x_22^^^x_24)^^^sK))).bind fun (oD:(BitVec 64))=>
  gO ((cr.length+([oD]:List (BitVec 64)).length)*8≤140737488355328) (
  some (.inl (.J2 (cr++([oD]:List (BitVec 64))) v6)))))))))))))))))))
  else
  gO ((([]:List (BitVec 64)).length+h0.length)*8≤140737488355328) (
  some (.inl (.L4 cr (([]:List (BitVec 64))++h0) (0)))))
 | .L3 qU pK lQ mb=>
  gO (bf ((4:Int)*pK)) (
  gO (bf (((4:Int)*pK)+(4:Int))) (
  (bif (decide (mb<(((4:Int)*pK)+(4:Int)))) then
  gO (0≤mb∧mb<(s1.length:Int)) (
  gO (bf (mb+(1:Int))) (
  some (.inl (.L3 qU pK (((256:BitVec 64)*lQ)+(BitVec.ofInt 64 ((idx s1 mb).toNat:Int))) (mb+(1:Int))))))
  else
  gO ((qU.length+([lQ]:List (BitVec 64)).length)*8≤140737488355328) (
  some (.inl (.J2 (qU++([lQ]:List (BitVec 64))) pK))))))
 | .J2 jF xe=>
  gO (bf (xe+(1:Int))) (
  some (.inl (.L1 jF (xe+(1:Int)))))
 | .L4 mV v11 lA=>
  (bif (decide (lA<(64:Int))) then
  gO (0≤(4:Int)∧(4:Int)<(v11.length:Int)) (
  gO (0≤(0:Int)∧(0:Int)<(v11.length:Int)) (
  gO (0≤(5:Int)∧(5:Int)<(v11.length:Int)) (
  gO (0≤(6:Int)∧(6:Int)<(v11.length:Int)) (
  gO (0≤(1:Int)∧(1:Int)<(v11.length:Int)) (
  gO (0≤(2:Int)∧(2:Int)<(v11.length:Int)) (
  gO (0≤(1:Int)∧(1:Int)<(v11.length:Int)) (
  gO (0≤(2:Int)∧(2:Int)<(v11.length:Int)) (
  gO (0≤(7:Int)∧(7:Int)<(v11.length:Int)) (
  ((dI (idx v11 (4:Int)) (6)).bind fun (Ek:(BitVec 64))=>
  ((dI (idx v11 (4:Int)) (11)).bind fun (El:(BitVec 64))=>
  ((dI (idx v11 (4:Int)) (25)).bind fun (F5:(BitVec 64))=>
  ((zZ lA).bind fun (MP:(BitVec 64))=>
  gO (0≤lA∧lA<(mV.length:Int)) (
  ((k6 (((((idx v11 (7:Int))+((Ek^^^El)^^^F5))+(((idx v11 (4:Int))&&& (idx v11 (5:Int)))||| (((4294967295:BitVec 64)-(idx v11 (4:Int)))&&& (idx v11 (6:Int)))))+MP)+(idx mV lA))).bind fun (Bp:(BitVec 64))=>
  ((dI (idx v11 (0:Int)) (2)).bind fun (J8:(BitVec 64))=>
  ((dI (idx v11 (0:Int)) (13)).bind fun (J9:(BitVec 64))=>
  ((dI (idx v11 (0:Int)) (22)).bind fun (MQ:(BitVec 64))=>
  ((k6 (((J8^^^J9)^^^MQ)+((((idx v11 (0:Int))&&& (idx v11 (1:Int)))||| ((idx v11 (0:Int))&&& (idx v11 (2:Int))))||| ((idx v11 (1:Int))&&& (idx v11 (2:Int)))))).bind fun (Ka:(BitVec 64))=>
  ((k6 (Bp+Ka)).bind fun (Kb:(BitVec 64))=>
  gO (0≤(0:Int)∧(0:Int)<(v11.length:Int)) (
  gO (0≤(1:Int)∧(1:Int)<(v11.length:Int)) (
  gO (0≤(2:Int)∧(2:Int)<(v11.length:Int)) (
  gO (0≤(3:Int)∧(3:Int)<(v11.length:Int)) (
  ((k6 ((idx v11 (3:Int))+Bp)).bind fun (Kc:(BitVec 64))=>
  gO (0≤(4:Int)∧(4:Int)<(v11.length:Int)) (
  gO (0≤(5:Int)∧(5:Int)<(v11.length:Int)) (
  gO (0≤(6:Int)∧(6:Int)<(v11.length:Int)) (
  gO (bf (lA+(1:Int))) (
  some (.inl (.L4 mV ([Kb,(idx v11 (0:Int)),(idx v11 (1:Int)),(idx v11 (2:Int)),Kc,(idx v11 (4:Int)),(idx v11 (5:Int)),(idx v11 (6:Int))]:List (BitVec 64)) (lA+(1:Int)))))))))))))))))))))))))))))))))
  else
  some (.inl (.L5 v11 ([]:(List (BitVec 64))) (0))))
 | .L5 tB Dw v20=>
  (bif (decide (v20<(8:Int))) then
  gO (0≤v20∧v20<(h0.length:Int)) (
  gO (0≤v20∧v20<(tB.length:Int)) (
  ((k6 ((idx h0 v20)+(idx tB v20))).bind fun (Ik:(BitVec 64))=>
  gO ((Dw.length+([Ik]:List (BitVec 64)).length)*8≤140737488355328) (
  gO (bf (v20+(1:Int))) (
  some (.inl (.L5 tB (Dw++([Ik]:List (BitVec 64))) (v20+(1:Int)))))))))
  else
  some (.inr Dw))
noncomputable def xh (h0:(List (BitVec 64))) (s1:(List UInt8)):Option (List (BitVec 64)):=gJ (bJ h0 s1) .S
theorem Fe (h0:(List (BitVec 64))) (s1:(List UInt8)) (r:(List (BitVec 64))) (h:xh h0 s1=some r):cD Tryz.prog 66 [.slice (h0.map fO), .val (sV s1)] (.slice (r.map fO)):=by
 refine fQ Tryz.func66 Tryz.ntmps66 TT.VS ?_
 obtain ⟨_,h⟩:=cP h
 obtain ⟨dm,e9,h⟩:=aQ h;rw [bJ] at h
 refine sR ?_
 refine xz 4 (.full (([]:(List (BitVec 64))).map fO)) ?_
 refine sR ?_
 refine xz 5 (.full (([]:(List (BitVec 64))).map fO)) ?_
 refine QW.seq ?_
 refine sR ?_
 refine xz 6 (pI (0)) ?_
 refine QW.block ?_
 refine lp (fun k σ=>∃ cr:(List (BitVec 64)),∃ v6:Int,k≤dm∧run (bJ h0 s1) k (.L1 cr v6)=some r∧σ=⟨bW [(0, .d (.slice (h0.map fO))),(1,pS s1),(5, .own 0 (cr.map fO)),(6,pI v6)],aK [.spare 1 cr.length],1,[]⟩) dm ⟨([]:(List (BitVec 64))),0,Nat.le_refl _,jG h,rfl⟩ (View.trans (View.buf 5 1 rfl zL) (vM 1 [0])) ?_
 rintro wP _ ⟨cr,v6,wQ,h,rfl⟩
 obtain ⟨k_1,e9,h⟩:=aQ h;rw [bJ] at h
 refine QW.seq ?_
 refine sR ?_
 refine xm 21 (pI v6) ?_
 refine xT 22 (cM v6 (64:Int) ?_)
 refine cT (decide (v6<(64:Int))) (fun cQ=>?_) (fun cQ=>?_)
 ·replace h:=ej h cQ
  refine sk ?_
  refine QW.s6 (fun s'=>∃ jF:(List (BitVec 64)),∃ xe:Int,∃ k:Nat,k≤k_1∧run (bJ h0 s1) k (.J2 jF xe)=some r∧s'=⟨bW [(0, .d (.slice (h0.map fO))),(1,pS s1),(5, .own 0 (jF.map fO)),(6,pI xe)],aK [.spare 1 jF.length],1,[]⟩) ?_ ?_
  ·refine QW.block ?_
   refine QW.seq ?_
   refine sR ?_
   refine xm 25 (pI v6) ?_
   refine xT 26 (cM v6 (16:Int) ?_)
   refine cT (decide (v6<(16:Int))) (fun dY=>?_) (fun dY=>?_)
   ·replace h:=ej h dY
    refine sR ?_
    refine xz 7 (.d (.val (.int .u64 ((0:BitVec 64).toNat:Int)))) ?_
    refine QW.seq ?_
    refine sR ?_
    refine xm 27 (pI v6) ?_
    obtain ⟨rW,h⟩:=gG h
    refine xS 28 (zC (4:Int) v6 rW ?_)
    refine xz 8 (pI ((4:Int)*v6)) ?_
    refine QW.block ?_
    refine lp (fun k σ=>∃ qU:(List (BitVec 64)),∃ pK:Int,∃ lQ:(BitVec 64),∃ mb:Int,k≤k_1∧run (bJ h0 s1) k (.L3 qU pK lQ mb)=some r∧σ=⟨bW [(0, .d (.slice (h0.map fO))),(1,pS s1),(5, .own 0 (qU.map fO)),(6,pI pK),(7, .d (.val (.int .u64 (lQ.toNat:Int)))),(8,pI mb)],aK [.spare 1 qU.length],1,[]⟩) k_1 ⟨cr,v6,(0:BitVec 64),((4:Int)*v6),Nat.le_refl _,jG h,rfl⟩ (vM 1 [0]) ?_
    rintro MI _ ⟨qU,pK,lQ,mb,MJ,h,rfl⟩
    obtain ⟨Dj,e9,h⟩:=aQ h;rw [bJ] at h
    refine QW.seq ?_
    refine sR ?_
    refine xm 29 (pI mb) ?_
    refine xm 30 (pI pK) ?_
    obtain ⟨oM,h⟩:=gG h
    refine xS 31 (zC (4:Int) pK oM ?_)
    obtain ⟨pJ,h⟩:=gG h
    refine xS 32 (bE ((4:Int)*pK) (4:Int) pJ ?_)
    refine xT 33 (cM mb (((4:Int)*pK)+(4:Int)) ?_)
    refine cT (decide (mb<(((4:Int)*pK)+(4:Int)))) (fun og=>?_) (fun og=>?_)
    ·replace h:=ej h og
     refine sk ?_
     refine QW.seq ?_
     refine QW.block ?_
     refine rG ?_
     refine xm 36 (.d (.val (.int .u64 (lQ.toNat:Int)))) ?_
     refine xS 37 (E3 (256:BitVec 64) lQ ?_)
     refine xm 38 (pS s1) ?_
     refine xm 39 (pI mb) ?_
     obtain ⟨r5,h⟩:=gG h
     refine xS 40 (g8 s1 mb TT.bh r5 ?_)
     refine xS 41 (xX ((idx s1 mb).toNat:Int) TT.dw TT.uv ?_)
     refine xS 42 (ga ((256:BitVec 64)*lQ) (BitVec.ofInt 64 ((idx s1 mb).toNat:Int)) ?_)
     refine xa 7 (.d (.val (.int .u64 ((((256:BitVec 64)*lQ)+(BitVec.ofInt 64 ((idx s1 mb).toNat:Int))).toNat:Int)))) ?_
     refine XK.nil (iS (cn ?_))
     refine rG ?_
     refine xm 34 (pI mb) ?_
     obtain ⟨nT,h⟩:=gG h
     refine xS 35 (bE mb (1:Int) nT ?_)
     refine xz 8 (pI (mb+(1:Int))) ?_
     exact lb Dj ⟨qU,pK,(((256:BitVec 64)*lQ)+(BitVec.ofInt 64 ((idx s1 mb).toNat:Int))),(mb+(1:Int)),by omega,jG h,rfl⟩ (vM 1 [0])
    ·replace h:=ek h og
     refine QW.exit zL (eP (eP (kW (cn ?_))))
     refine sR ?_
     refine xm 43 (.own 0 (qU.map fO)) ?_
     refine xm 44 (.d (.val (.int .u64 (lQ.toNat:Int)))) ?_
     refine xS 45 (eA fO ([lQ]:List (BitVec 64)) TT.om ?_ (hl:=fI))
     obtain ⟨td,h⟩:=gG h
     refine xS 46 (kA fO qU ([lQ]:List (BitVec 64)) TT.om TT.zY td ?_ (hl:=fI))
     refine xz 5 (.own 1 ((qU++([lQ]:List (BitVec 64))).map fO)) ?_
     refine QW.exit zL (eP (kW (cn ?_)))
     exact ⟨⟨bW [(0, .d (.slice (h0.map fO))),(1,pS s1),(5, .own 0 ((qU++([lQ]:List (BitVec 64))).map fO)),(6,pI pK)],aK [.spare 1 (qU++([lQ]:List (BitVec 64))).length],1,[]⟩,vM 1 [1],(qU++([lQ]:List (BitVec 64))),pK,Dj,by omega,jG h,rfl⟩
   ·replace h:=ek h dY
    refine sk ?_
    refine sR ?_
    refine xm 47 (.own 0 (cr.map fO)) ?_
    refine xm 48 (pI v6) ?_
    obtain ⟨kP,h⟩:=gG h
    refine xS 49 (mZ v6 (15:Int) kP ?_)
    obtain ⟨nU,h⟩:=gG h
    refine xS 50 (bX cr (v6-(15:Int)) TT.fP fI nU ?_)
    refine xS 51 (aA (.val (.int .u64 ((idx cr (v6-(15:Int))).toNat:Int))) TT.hY ?_)
    refine xz 9 (.d (.val (.int .u64 ((idx cr (v6-(15:Int))).toNat:Int)))) ?_
    refine sR ?_
    refine xm 52 (.own 0 (cr.map fO)) ?_
    refine xm 53 (pI v6) ?_
    obtain ⟨tc,h⟩:=gG h
    refine xS 54 (mZ v6 (2:Int) tc ?_)
    obtain ⟨uY,h⟩:=gG h
    refine xS 55 (bX cr (v6-(2:Int)) TT.fP fI uY ?_)
    refine xS 56 (aA (.val (.int .u64 ((idx cr (v6-(2:Int))).toNat:Int))) TT.hY ?_)
    refine xz 10 (.d (.val (.int .u64 ((idx cr (v6-(2:Int))).toNat:Int)))) ?_
    refine sR ?_
    refine xm 57 (.d (.val (.int .u64 ((idx cr (v6-(15:Int))).toNat:Int)))) ?_
    obtain ⟨x_16,Dl,h⟩:=bG h
    refine xS 58 (az (iO (idx cr (v6-(15:Int))) (7) _ Dl) ?_)
    refine xm 59 (.d (.val (.int .u64 ((idx cr (v6-(15:Int))).toNat:Int)))) ?_
    obtain ⟨x_18,vt,h⟩:=bG h
    refine xS 60 (az (iO (idx cr (v6-(15:Int))) (18) _ vt) ?_)
    refine xS 61 (kF x_16 x_18 ?_)
    refine xm 62 (.d (.val (.int .u64 ((idx cr (v6-(15:Int))).toNat:Int)))) ?_
    obtain ⟨x_20,wV,h⟩:=bG h
    refine xS 63 (az (y4 (idx cr (v6-(15:Int))) (3) _ wV) ?_)
    refine xS 64 (kF (x_16^^^x_18) x_20 ?_)
    refine xz 9 (.d (.val (.int .u64 (((x_16^^^x_18)^^^x_20).toNat:Int)))) ?_
    refine QW.seq ?_
    refine QW.view (s':=⟨bW [(0, .d (.slice (h0.map fO))),(1,pS s1),(5, .own 0 (cr.map fO)),(6,pI v6),(9, .d (.val (.int .u64 (((x_16^^^x_18)^^^x_20).toNat:Int)))),(10, .d (.val (.int .u64 ((idx cr (v6-(2:Int))).toNat:Int))))],aK [.spare 1 cr.length],1,[]⟩) (vM 1 [0]) zL ?_
    refine rG ?_
    refine xm 65 (.d (.val (.int .u64 ((idx cr (v6-(2:Int))).toNat:Int)))) ?_
    obtain ⟨x_22,zJ,h⟩:=bG h
    refine xS 66 (az (iO (idx cr (v6-(2:Int))) (17) _ zJ) ?_)
    refine xm 67 (.d (.val (.int .u64 ((idx cr (v6-(2:Int))).toNat:Int)))) ?_
    obtain ⟨x_24,Ig,h⟩:=bG h
    refine xS 68 (az (iO (idx cr (v6-(2:Int))) (19) _ Ig) ?_)
    refine xS 69 (kF x_22 x_24 ?_)
    refine xm 70 (.d (.val (.int .u64 ((idx cr (v6-(2:Int))).toNat:Int)))) ?_
    obtain ⟨sK,Ie,h⟩:=bG h
    refine xS 71 (az (y4 (idx cr (v6-(2:Int))) (10) _ Ie) ?_)
    refine xS 72 (kF (x_22^^^x_24) sK ?_)
    refine xz 10 (.d (.val (.int .u64 (((x_22^^^x_24)^^^sK).toNat:Int)))) ?_
    refine QW.region zL (PW.qX (id:=16) dG (M:=_) rfl (by kernel_rfl) ?_)
    refine kS 73 (ax (.own 0 (cr.map fO)) ?_)
    refine kS 74 (ax (.own 0 (cr.map fO)) ?_)
    refine kS 75 (ax (pI v6) ?_)
    obtain ⟨Ih,h⟩:=gG h
    refine kS 76 (mZ v6 (16:Int) Ih ?_)
    obtain ⟨q7,h⟩:=gG h
    refine kS 77 (bX cr (v6-(16:Int)) TT.fP fI q7 ?_)
    refine kS 78 (aA (.val (.int .u64 ((idx cr (v6-(16:Int))).toNat:Int))) TT.hY ?_)
    refine kS 79 (ax (.d (.val (.int .u64 (((x_16^^^x_18)^^^x_20).toNat:Int)))) ?_)
    refine kS 80 (ga (idx cr (v6-(16:Int))) ((x_16^^^x_18)^^^x_20) ?_)
    refine kS 81 (ax (.own 0 (cr.map fO)) ?_)
    refine kS 82 (ax (pI v6) ?_)
    obtain ⟨FW,h⟩:=gG h
    refine kS 83 (mZ v6 (7:Int) FW ?_)
    obtain ⟨HS,h⟩:=gG h
    refine kS 84 (bX cr (v6-(7:Int)) TT.fP fI HS ?_)
    refine kS 85 (aA (.val (.int .u64 ((idx cr (v6-(7:Int))).toNat:Int))) TT.hY ?_)
    refine kS 86 (ga ((idx cr (v6-(16:Int)))+((x_16^^^x_18)^^^x_20)) (idx cr (v6-(7:Int))) ?_)
    refine kS 87 (ax (.d (.val (.int .u64 (((x_22^^^x_24)^^^sK).toNat:Int)))) ?_)
    refine kS 88 (ga (((idx cr (v6-(16:Int)))+((x_16^^^x_18)^^^x_20))+(idx cr (v6-(7:Int)))) ((x_22^^^x_24)^^^sK) ?_)
    obtain ⟨oD,Ii,h⟩:=bG h
    refine kS 89 (az (oq ((((idx cr (v6-(16:Int)))+((x_16^^^x_18)^^^x_20))+(idx cr (v6-(7:Int))))+((x_22^^^x_24)^^^sK)) _ Ii) ?_)
    refine kS 90 (eA fO ([oD]:List (BitVec 64)) TT.om ?_ (hl:=fI))
    obtain ⟨CL,h⟩:=gG h
    refine kS 91 (kA fO cr ([oD]:List (BitVec 64)) TT.om TT.zY CL ?_ (hl:=fI))
    refine kS 5 (cj (.own 1 ((cr++([oD]:List (BitVec 64))).map fO)) ?_)
    refine RK.nil ⟨fH.last 18 (by simp) (by simp) (by rfl),(iS (cn ?_))⟩
    exact ⟨⟨bW [(0, .d (.slice (h0.map fO))),(1,pS s1),(5, .own 0 ((cr++([oD]:List (BitVec 64))).map fO)),(6,pI v6)],aK [.spare 1 (cr++([oD]:List (BitVec 64))).length],1,[]⟩,vM 1 [1],(cr++([oD]:List (BitVec 64))),v6,k_1,by omega,jG h,rfl⟩
  ·rintro _ ⟨jF,xe,aa2,aa3,h,rfl⟩
   obtain ⟨Zo,e9,h⟩:=aQ h;rw [bJ] at h
   refine rG ?_
   refine xm 23 (pI xe) ?_
   obtain ⟨PE,h⟩:=gG h
   refine xS 24 (bE xe (1:Int) PE ?_)
   refine xz 6 (pI (xe+(1:Int))) ?_
   exact lb Zo ⟨jF,(xe+(1:Int)),by omega,jG h,rfl⟩ (vM 1 [0])
 ·replace h:=ek h cQ
  refine QW.exit zL (eP (eP (kW (cn ?_))))
  refine sR ?_
  refine xS 92 (eA fO ([]:List (BitVec 64)) TT.om ?_ (hl:=fI))
  refine xm 93 (.d (.slice (h0.map fO))) ?_
  obtain ⟨MG,h⟩:=gG h
  refine xS 94 (D6 fO ([]:List (BitVec 64)) h0 TT.om TT.zY fI ?_ (h:=by exact ⟨MG,fun _=>rfl⟩))
  refine xz 11 (.own 1 ((([]:List (BitVec 64))++h0).map fO)) ?_
  refine QW.seq ?_
  refine sR ?_
  refine xz 12 (pI (0)) ?_
  refine QW.block ?_
  refine lp (fun k σ=>∃ mV:(List (BitVec 64)),∃ v11:(List (BitVec 64)),∃ lA:Int,k≤k_1∧run (bJ h0 s1) k (.L4 mV v11 lA)=some r∧σ=⟨bW [(0, .d (.slice (h0.map fO))),(5, .own 0 (mV.map fO)),(11, .d (.slice (v11.map fO))),(12,pI lA)],aK [.spare 1 mV.length],1,[]⟩) k_1 ⟨cr,(([]:List (BitVec 64))++h0),0,Nat.le_refl _,jG h,rfl⟩ (vM 1 [0]) ?_
  rintro aa4 _ ⟨mV,v11,lA,aa5,h,rfl⟩
  obtain ⟨Td,e9,h⟩:=aQ h;rw [bJ] at h
  refine QW.seq ?_
  refine sR ?_
  refine xm 95 (pI lA) ?_
  refine xT 96 (cM lA (64:Int) ?_)
  refine cT (decide (lA<(64:Int))) (fun OE=>?_) (fun OE=>?_)
  ·replace h:=ej h OE
   refine sk ?_
   refine QW.seq ?_
   refine QW.block ?_
   refine sR ?_
   refine xm 99 (.d (.slice (v11.map fO))) ?_
   obtain ⟨Te,h⟩:=gG h
   refine xS 100 (bX v11 (4:Int) TT.fP fI Te ?_)
   refine xS 101 (aA (.val (.int .u64 ((idx v11 (4:Int)).toNat:Int))) TT.hY ?_)
   refine xz 13 (.d (.val (.int .u64 ((idx v11 (4:Int)).toNat:Int)))) ?_
   refine sR ?_
   refine xm 102 (.d (.slice (v11.map fO))) ?_
   obtain ⟨SO,h⟩:=gG h
   refine xS 103 (bX v11 (0:Int) TT.fP fI SO ?_)
   refine xS 104 (aA (.val (.int .u64 ((idx v11 (0:Int)).toNat:Int))) TT.hY ?_)
   refine xz 14 (.d (.val (.int .u64 ((idx v11 (0:Int)).toNat:Int)))) ?_
   refine QW.seq ?_
   refine QW.region zL (PW.nj (id:=23) dG (M:=_) rfl (by kernel_rfl) ?_)
   refine qS 105 (ax (.d (.val (.int .u64 ((idx v11 (4:Int)).toNat:Int)))) (q2 ?_))
   refine qS 106 (ax (.d (.slice (v11.map fO))) (q2 ?_))
   obtain ⟨Zp,h⟩:=gG h
   refine qS 107 (bX v11 (5:Int) TT.fP fI Zp (q2 ?_))
   refine qS 108 (aA (.val (.int .u64 ((idx v11 (5:Int)).toNat:Int))) TT.hY (q2 ?_))
   refine qS 109 (n9 (idx v11 (4:Int)) (idx v11 (5:Int)) (q2 ?_))
   refine qS 110 (ax (.d (.val (.int .u64 ((idx v11 (4:Int)).toNat:Int)))) (q2 ?_))
   refine qS 111 (JU (4294967295:BitVec 64) (idx v11 (4:Int)) (q2 ?_))
   refine qS 112 (ax (.d (.slice (v11.map fO))) (q2 ?_))
   obtain ⟨Zq,h⟩:=gG h
   refine qS 113 (bX v11 (6:Int) TT.fP fI Zq (q2 ?_))
   refine qS 114 (aA (.val (.int .u64 ((idx v11 (6:Int)).toNat:Int))) TT.hY (q2 ?_))
   refine qS 115 (n9 ((4294967295:BitVec 64)-(idx v11 (4:Int))) (idx v11 (6:Int)) (q2 ?_))
   refine qS 116 (wN ((idx v11 (4:Int))&&& (idx v11 (5:Int))) (((4294967295:BitVec 64)-(idx v11 (4:Int)))&&& (idx v11 (6:Int))) (q2 ?_))
   refine qS 15 (cj (.d (.val (.int .u64 ((((idx v11 (4:Int))&&& (idx v11 (5:Int)))||| (((4294967295:BitVec 64)-(idx v11 (4:Int)))&&& (idx v11 (6:Int)))).toNat:Int)))) (q2 ?_))
   refine RQ.nil (cn ?_)
   refine QW.seq ?_
   refine QW.view (s':=⟨bW [(0, .d (.slice (h0.map fO))),(5, .own 0 (mV.map fO)),(11, .d (.slice (v11.map fO))),(12,pI lA),(13, .d (.val (.int .u64 ((idx v11 (4:Int)).toNat:Int)))),(14, .d (.val (.int .u64 ((idx v11 (0:Int)).toNat:Int)))),(15, .d (.val (.int .u64 ((((idx v11 (4:Int))&&& (idx v11 (5:Int)))||| (((4294967295:BitVec 64)-(idx v11 (4:Int)))&&& (idx v11 (6:Int)))).toNat:Int))))],aK [.spare 1 mV.length],1,[]⟩) (vM 1 [0]) zL ?_
   refine QW.region zL (PW.nj (id:=24) dG (M:=_) rfl (by kernel_rfl) ?_)
   refine qS 117 (ax (.d (.val (.int .u64 ((idx v11 (0:Int)).toNat:Int)))) (q2 ?_))
   refine qS 118 (ax (.d (.slice (v11.map fO))) (q2 ?_))
   obtain ⟨SP,h⟩:=gG h
   refine qS 119 (bX v11 (1:Int) TT.fP fI SP (q2 ?_))
   refine qS 120 (aA (.val (.int .u64 ((idx v11 (1:Int)).toNat:Int))) TT.hY (q2 ?_))
   refine qS 121 (n9 (idx v11 (0:Int)) (idx v11 (1:Int)) (q2 ?_))
   refine qS 122 (ax (.d (.val (.int .u64 ((idx v11 (0:Int)).toNat:Int)))) (q2 ?_))
   refine qS 123 (ax (.d (.slice (v11.map fO))) (q2 ?_))
   obtain ⟨Zr,h⟩:=gG h
   refine qS 124 (bX v11 (2:Int) TT.fP fI Zr (q2 ?_))
   refine qS 125 (aA (.val (.int .u64 ((idx v11 (2:Int)).toNat:Int))) TT.hY (q2 ?_))
   refine qS 126 (n9 (idx v11 (0:Int)) (idx v11 (2:Int)) (q2 ?_))
   refine qS 127 (wN ((idx v11 (0:Int))&&& (idx v11 (1:Int))) ((idx v11 (0:Int))&&& (idx v11 (2:Int))) (q2 ?_))
   refine qS 128 (ax (.d (.slice (v11.map fO))) (q2 ?_))
   obtain ⟨Zs,h⟩:=gG h
   refine qS 129 (bX v11 (1:Int) TT.fP fI Zs (q2 ?_))
   refine qS 130 (aA (.val (.int .u64 ((idx v11 (1:Int)).toNat:Int))) TT.hY (q2 ?_))
   refine qS 131 (ax (.d (.slice (v11.map fO))) (q2 ?_))
   obtain ⟨Ap,h⟩:=gG h
   refine qS 132 (bX v11 (2:Int) TT.fP fI Ap (q2 ?_))
   refine qS 133 (aA (.val (.int .u64 ((idx v11 (2:Int)).toNat:Int))) TT.hY (q2 ?_))
   refine qS 134 (n9 (idx v11 (1:Int)) (idx v11 (2:Int)) (q2 ?_))
   refine qS 135 (wN (((idx v11 (0:Int))&&& (idx v11 (1:Int)))||| ((idx v11 (0:Int))&&& (idx v11 (2:Int)))) ((idx v11 (1:Int))&&& (idx v11 (2:Int))) (q2 ?_))
   refine qS 16 (cj (.d (.val (.int .u64 (((((idx v11 (0:Int))&&& (idx v11 (1:Int)))||| ((idx v11 (0:Int))&&& (idx v11 (2:Int))))||| ((idx v11 (1:Int))&&& (idx v11 (2:Int)))).toNat:Int)))) (q2 ?_))
   refine RQ.nil (cn ?_)
   refine QW.seq ?_
   refine QW.view (s':=⟨bW [(0, .d (.slice (h0.map fO))),(5, .own 0 (mV.map fO)),(11, .d (.slice (v11.map fO))),(12,pI lA),(13, .d (.val (.int .u64 ((idx v11 (4:Int)).toNat:Int)))),(14, .d (.val (.int .u64 ((idx v11 (0:Int)).toNat:Int)))),(15, .d (.val (.int .u64 ((((idx v11 (4:Int))&&& (idx v11 (5:Int)))||| (((4294967295:BitVec 64)-(idx v11 (4:Int)))&&& (idx v11 (6:Int)))).toNat:Int)))),(16, .d (.val (.int .u64 (((((idx v11 (0:Int))&&& (idx v11 (1:Int)))||| ((idx v11 (0:Int))&&& (idx v11 (2:Int))))||| ((idx v11 (1:Int))&&& (idx v11 (2:Int)))).toNat:Int))))],aK [.spare 1 mV.length],1,[]⟩) (vM 1 [0]) zL ?_
   refine QW.region zL (PW.nj (id:=25) dG (M:=_) rfl (by kernel_rfl) ?_)
   refine qS 136 (ax (.d (.slice (v11.map fO))) (q2 ?_))
   obtain ⟨Zt,h⟩:=gG h
   refine qS 137 (bX v11 (7:Int) TT.fP fI Zt (q2 ?_))
   refine qS 138 (aA (.val (.int .u64 ((idx v11 (7:Int)).toNat:Int))) TT.hY (q2 ?_))
   refine qS 139 (ax (.d (.val (.int .u64 ((idx v11 (4:Int)).toNat:Int)))) (q2 ?_))
   obtain ⟨Ek,XQ,h⟩:=bG h
   refine qS 140 (az (iO (idx v11 (4:Int)) (6) _ XQ) (q2 ?_))
   refine qS 141 (ax (.d (.val (.int .u64 ((idx v11 (4:Int)).toNat:Int)))) (q2 ?_))
   obtain ⟨El,XR,h⟩:=bG h
   refine qS 142 (az (iO (idx v11 (4:Int)) (11) _ XR) (q2 ?_))
   refine qS 143 (kF Ek El (q2 ?_))
   refine qS 144 (ax (.d (.val (.int .u64 ((idx v11 (4:Int)).toNat:Int)))) (q2 ?_))
   obtain ⟨F5,XS,h⟩:=bG h
   refine qS 145 (az (iO (idx v11 (4:Int)) (25) _ XS) (q2 ?_))
   refine qS 146 (kF (Ek^^^El) F5 (q2 ?_))
   refine qS 147 (ga (idx v11 (7:Int)) ((Ek^^^El)^^^F5) (q2 ?_))
   refine qS 148 (ax (.d (.val (.int .u64 ((((idx v11 (4:Int))&&& (idx v11 (5:Int)))||| (((4294967295:BitVec 64)-(idx v11 (4:Int)))&&& (idx v11 (6:Int)))).toNat:Int)))) (q2 ?_))
   refine qS 149 (ga ((idx v11 (7:Int))+((Ek^^^El)^^^F5)) (((idx v11 (4:Int))&&& (idx v11 (5:Int)))||| (((4294967295:BitVec 64)-(idx v11 (4:Int)))&&& (idx v11 (6:Int)))) (q2 ?_))
   refine qS 150 (ax (pI lA) (q2 ?_))
   obtain ⟨MP,XT,h⟩:=bG h
   refine qS 151 (az (Lk lA _ XT) (q2 ?_))
   refine qS 152 (ga (((idx v11 (7:Int))+((Ek^^^El)^^^F5))+(((idx v11 (4:Int))&&& (idx v11 (5:Int)))||| (((4294967295:BitVec 64)-(idx v11 (4:Int)))&&& (idx v11 (6:Int))))) MP (q2 ?_))
   refine qS 153 (ax (.own 0 (mV.map fO)) (q2 ?_))
   refine qS 154 (ax (pI lA) (q2 ?_))
   obtain ⟨Zu,h⟩:=gG h
   refine qS 155 (bX mV lA TT.fP fI Zu (q2 ?_))
   refine qS 156 (aA (.val (.int .u64 ((idx mV lA).toNat:Int))) TT.hY (q2 ?_))
   refine qS 157 (ga ((((idx v11 (7:Int))+((Ek^^^El)^^^F5))+(((idx v11 (4:Int))&&& (idx v11 (5:Int)))||| (((4294967295:BitVec 64)-(idx v11 (4:Int)))&&& (idx v11 (6:Int)))))+MP) (idx mV lA) (q2 ?_))
   obtain ⟨Bp,XU,h⟩:=bG h
   refine qS 158 (az (oq (((((idx v11 (7:Int))+((Ek^^^El)^^^F5))+(((idx v11 (4:Int))&&& (idx v11 (5:Int)))||| (((4294967295:BitVec 64)-(idx v11 (4:Int)))&&& (idx v11 (6:Int)))))+MP)+(idx mV lA)) _ XU) (q2 ?_))
   refine qS 17 (cj (.d (.val (.int .u64 (Bp.toNat:Int)))) (q2 ?_))
   refine RQ.nil (cn ?_)
   refine QW.seq ?_
   refine QW.view (s':=⟨bW [(0, .d (.slice (h0.map fO))),(5, .own 0 (mV.map fO)),(11, .d (.slice (v11.map fO))),(12,pI lA),(14, .d (.val (.int .u64 ((idx v11 (0:Int)).toNat:Int)))),(16, .d (.val (.int .u64 (((((idx v11 (0:Int))&&& (idx v11 (1:Int)))||| ((idx v11 (0:Int))&&& (idx v11 (2:Int))))||| ((idx v11 (1:Int))&&& (idx v11 (2:Int)))).toNat:Int)))),(17, .d (.val (.int .u64 (Bp.toNat:Int))))],aK [.spare 1 mV.length],1,[]⟩) (vM 1 [0]) zL ?_
   refine rG ?_
   refine xm 159 (.d (.val (.int .u64 ((idx v11 (0:Int)).toNat:Int)))) ?_
   obtain ⟨J8,XV,h⟩:=bG h
   refine xS 160 (az (iO (idx v11 (0:Int)) (2) _ XV) ?_)
   refine xm 161 (.d (.val (.int .u64 ((idx v11 (0:Int)).toNat:Int)))) ?_
   obtain ⟨J9,XW,h⟩:=bG h
   refine xS 162 (az (iO (idx v11 (0:Int)) (13) _ XW) ?_)
   refine xS 163 (kF J8 J9 ?_)
   refine xm 164 (.d (.val (.int .u64 ((idx v11 (0:Int)).toNat:Int)))) ?_
   obtain ⟨MQ,XX,h⟩:=bG h
   refine xS 165 (az (iO (idx v11 (0:Int)) (22) _ XX) ?_)
   refine xS 166 (kF (J8^^^J9) MQ ?_)
   refine xm 167 (.d (.val (.int .u64 (((((idx v11 (0:Int))&&& (idx v11 (1:Int)))||| ((idx v11 (0:Int))&&& (idx v11 (2:Int))))||| ((idx v11 (1:Int))&&& (idx v11 (2:Int)))).toNat:Int)))) ?_
   refine xS 168 (ga ((J8^^^J9)^^^MQ) ((((idx v11 (0:Int))&&& (idx v11 (1:Int)))||| ((idx v11 (0:Int))&&& (idx v11 (2:Int))))||| ((idx v11 (1:Int))&&& (idx v11 (2:Int)))) ?_)
   obtain ⟨Ka,XY,h⟩:=bG h
   refine xS 169 (az (oq (((J8^^^J9)^^^MQ)+((((idx v11 (0:Int))&&& (idx v11 (1:Int)))||| ((idx v11 (0:Int))&&& (idx v11 (2:Int))))||| ((idx v11 (1:Int))&&& (idx v11 (2:Int))))) _ XY) ?_)
   refine xz 18 (.d (.val (.int .u64 (Ka.toNat:Int)))) ?_
   refine QW.region zL (PW.nj (id:=27) dG (M:=_) rfl (by kernel_rfl) ?_)
   refine qS 170 (ax (.d (.val (.int .u64 (Bp.toNat:Int)))) (q2 ?_))
   refine qS 171 (ax (.d (.val (.int .u64 (Ka.toNat:Int)))) (q2 ?_))
   refine qS 172 (ga Bp Ka (q2 ?_))
   obtain ⟨Kb,XZ,h⟩:=bG h
   refine qS 173 (az (oq (Bp+Ka) _ XZ) (q2 ?_))
   refine qS 174 (ax (.d (.slice (v11.map fO))) (q2 ?_))
   obtain ⟨Zv,h⟩:=gG h
   refine qS 175 (bX v11 (0:Int) TT.fP fI Zv (q2 ?_))
   refine qS 176 (aA (.val (.int .u64 ((idx v11 (0:Int)).toNat:Int))) TT.hY (q2 ?_))
   refine qS 177 (ax (.d (.slice (v11.map fO))) (q2 ?_))
   obtain ⟨Zw,h⟩:=gG h
   refine qS 178 (bX v11 (1:Int) TT.fP fI Zw (q2 ?_))
   refine qS 179 (aA (.val (.int .u64 ((idx v11 (1:Int)).toNat:Int))) TT.hY (q2 ?_))
   refine qS 180 (ax (.d (.slice (v11.map fO))) (q2 ?_))
   obtain ⟨Zx,h⟩:=gG h
   refine qS 181 (bX v11 (2:Int) TT.fP fI Zx (q2 ?_))
   refine qS 182 (aA (.val (.int .u64 ((idx v11 (2:Int)).toNat:Int))) TT.hY (q2 ?_))
   refine qS 183 (ax (.d (.slice (v11.map fO))) (q2 ?_))
   obtain ⟨Zy,h⟩:=gG h
   refine qS 184 (bX v11 (3:Int) TT.fP fI Zy (q2 ?_))
   refine qS 185 (aA (.val (.int .u64 ((idx v11 (3:Int)).toNat:Int))) TT.hY (q2 ?_))
   refine qS 186 (ax (.d (.val (.int .u64 (Bp.toNat:Int)))) (q2 ?_))
   refine qS 187 (ga (idx v11 (3:Int)) Bp (q2 ?_))
   obtain ⟨Kc,X0,h⟩:=bG h
   refine qS 188 (az (oq ((idx v11 (3:Int))+Bp) _ X0) (q2 ?_))
   refine qS 189 (ax (.d (.slice (v11.map fO))) (q2 ?_))
   obtain ⟨Zz,h⟩:=gG h
   refine qS 190 (bX v11 (4:Int) TT.fP fI Zz (q2 ?_))
   refine qS 191 (aA (.val (.int .u64 ((idx v11 (4:Int)).toNat:Int))) TT.hY (q2 ?_))
   refine qS 192 (ax (.d (.slice (v11.map fO))) (q2 ?_))
   obtain ⟨ZA,h⟩:=gG h
   refine qS 193 (bX v11 (5:Int) TT.fP fI ZA (q2 ?_))
   refine qS 194 (aA (.val (.int .u64 ((idx v11 (5:Int)).toNat:Int))) TT.hY (q2 ?_))
   refine qS 195 (ax (.d (.slice (v11.map fO))) (q2 ?_))
   obtain ⟨ZB,h⟩:=gG h
   refine qS 196 (bX v11 (6:Int) TT.fP fI ZB (q2 ?_))
   refine qS 197 (aA (.val (.int .u64 ((idx v11 (6:Int)).toNat:Int))) TT.hY (q2 ?_))
   refine qS 198 (eA fO ([Kb,(idx v11 (0:Int)),(idx v11 (1:Int)),(idx v11 (2:Int)),Kc,(idx v11 (4:Int)),(idx v11 (5:Int)),(idx v11 (6:Int))]:List (BitVec 64)) TT.om (q2 ?_) (hl:=fI))
   refine qS 11 (cj (.full (([Kb,(idx v11 (0:Int)),(idx v11 (1:Int)),(idx v11 (2:Int)),Kc,(idx v11 (4:Int)),(idx v11 (5:Int)),(idx v11 (6:Int))]:List (BitVec 64)).map fO)) (q2 ?_))
   refine RQ.nil (iS (cn ?_))
   refine QW.view (s':=⟨bW [(0, .d (.slice (h0.map fO))),(5, .own 0 (mV.map fO)),(11, .full (([Kb,(idx v11 (0:Int)),(idx v11 (1:Int)),(idx v11 (2:Int)),Kc,(idx v11 (4:Int)),(idx v11 (5:Int)),(idx v11 (6:Int))]:List (BitVec 64)).map fO)),(12,pI lA)],aK [.spare 1 mV.length],1,[]⟩) (vM 1 [0]) zL ?_
   refine rG ?_
   refine xm 97 (pI lA) ?_
   obtain ⟨ZC,h⟩:=gG h
   refine xS 98 (bE lA (1:Int) ZC ?_)
   refine xz 12 (pI (lA+(1:Int))) ?_
   exact lb Td ⟨mV,([Kb,(idx v11 (0:Int)),(idx v11 (1:Int)),(idx v11 (2:Int)),Kc,(idx v11 (4:Int)),(idx v11 (5:Int)),(idx v11 (6:Int))]:List (BitVec 64)),(lA+(1:Int)),by omega,jG h,rfl⟩ (vM 1 [0])
  ·replace h:=ek h OE
   refine QW.exit zL (eP (eP (kW (cn ?_))))
   refine sR ?_
   refine xz 19 (.full (([]:(List (BitVec 64))).map fO)) ?_
   refine QW.seq ?_
   refine sR ?_
   refine xz 20 (pI (0)) ?_
   refine QW.block ?_
   refine lp (fun k σ=>∃ tB:(List (BitVec 64)),∃ Dw:(List (BitVec 64)),∃ v20:Int,k≤Td∧run (bJ h0 s1) k (.L5 tB Dw v20)=some r∧σ=⟨bW [(0, .d (.slice (h0.map fO))),(11, .d (.slice (tB.map fO))),(19, .own 0 (Dw.map fO)),(20,pI v20)],aK [.spare 1 Dw.length],1,[]⟩) Td ⟨v11,([]:(List (BitVec 64))),0,Nat.le_refl _,jG h,rfl⟩ (View.trans (View.buf 19 1 rfl zL) (vM 1 [1])) ?_
   rintro aa6 _ ⟨tB,Dw,v20,aa7,h,rfl⟩
   obtain ⟨ZD,e9,h⟩:=aQ h;rw [bJ] at h
   refine QW.seq ?_
   refine sR ?_
   refine xm 199 (pI v20) ?_
   refine xT 200 (cM v20 (8:Int) ?_)
   refine cT (decide (v20<(8:Int))) (fun OF=>?_) (fun OF=>?_)
   ·replace h:=ej h OF
    refine sk ?_
    refine QW.seq ?_
    refine QW.block ?_
    refine QW.region zL (PW.qX (id:=32) dG (M:=_) rfl (by kernel_rfl) ?_)
    refine kS 203 (ax (.own 0 (Dw.map fO)) ?_)
    refine kS 204 (ax (.d (.slice (h0.map fO))) ?_)
    refine kS 205 (ax (pI v20) ?_)
    obtain ⟨ZE,h⟩:=gG h
    refine kS 206 (bX h0 v20 TT.fP fI ZE ?_)
    refine kS 207 (aA (.val (.int .u64 ((idx h0 v20).toNat:Int))) TT.hY ?_)
    refine kS 208 (ax (.d (.slice (tB.map fO))) ?_)
    refine kS 209 (ax (pI v20) ?_)
    obtain ⟨ZF,h⟩:=gG h
    refine kS 210 (bX tB v20 TT.fP fI ZF ?_)
    refine kS 211 (aA (.val (.int .u64 ((idx tB v20).toNat:Int))) TT.hY ?_)
    refine kS 212 (ga (idx h0 v20) (idx tB v20) ?_)
    obtain ⟨Ik,X1,h⟩:=bG h
    refine kS 213 (az (oq ((idx h0 v20)+(idx tB v20)) _ X1) ?_)
    refine kS 214 (eA fO ([Ik]:List (BitVec 64)) TT.om ?_ (hl:=fI))
    obtain ⟨ZG,h⟩:=gG h
    refine kS 215 (kA fO Dw ([Ik]:List (BitVec 64)) TT.om TT.zY ZG ?_ (hl:=fI))
    refine kS 19 (cj (.own 1 ((Dw++([Ik]:List (BitVec 64))).map fO)) ?_)
    refine RK.nil ⟨fH.last 12 (by simp) (by simp) (by rfl),(iS (cn ?_))⟩
    refine rG ?_
    refine xm 201 (pI v20) ?_
    obtain ⟨ZH,h⟩:=gG h
    refine xS 202 (bE v20 (1:Int) ZH ?_)
    refine xz 20 (pI (v20+(1:Int))) ?_
    exact lb ZD ⟨tB,(Dw++([Ik]:List (BitVec 64))),(v20+(1:Int)),by omega,jG h,rfl⟩ (vM 1 [1])
   ·replace h:=ek h OF
    refine QW.exit zL (eP (eP (kW (cn ?_))))
    refine sR ?_
    refine xm 216 (.own 0 (Dw.map fO)) ?_
    refine xz 4 (.own 0 (Dw.map fO)) ?_
    refine QW.ret zL ?_
    obtain rfl:=sG h
    exact eO
inductive F6 where
 | S
 | L1 (v3:(List (BitVec 64))) (dR:(List UInt8)) (v5:Int)
 | L2 (x8:(List (BitVec 64))) (v6:(List UInt8)) (v7:Int)
 | L3 (z0:(List (BitVec 64))) (y5:(List UInt8)) (lQ:Int) (sL:(BitVec 64)) (xj:Int)
noncomputable def dN (s0:(List UInt8)):F6→Option (F6⊕(List UInt8))
 | .S=>
  ((yy s0).bind fun (x_1:(List UInt8))=>
  some (.inl (.L1 ([(1779033703:BitVec 64),(3144134277:BitVec 64),(1013904242:BitVec 64),(2773480762:BitVec 64),(1359893119:BitVec 64),(2600822924:BitVec 64),(528734635:BitVec 64),(1541459225:BitVec 64)]:List (BitVec 64)) x_1 (0))))
 | .L1 v3 dR v5=>
  (bif (decide (v5<(dR.length:Int))) then
  gO (bf (v5+(64:Int))) (
  gO (0≤v5∧v5≤(v5+(64:Int))∧(v5+(64:Int))≤(dR.length:Int)) (
  ((xh v3 (sub dR v5 (v5+(64:Int)))).bind fun (x_7:(List (BitVec 64)))=>
  gO (bf (v5+(64:Int))) (
  some (.inl (.L1 x_7 dR (v5+(64:Int))))))))
  else
  some (.inl (.L2 v3 ([]:List UInt8) (0))))
 | .L2 x8 v6 v7=>
  (bif (decide (v7<(32:Int))) then
  gO ((4:Int)≠0∧bf (v7.tdiv (4:Int))) (
  gO (0≤(v7.tdiv (4:Int))∧(v7.tdiv (4:Int))<(x8.length:Int)) (
  some (.inl (.L3 x8 v6 v7 (idx x8 (v7.tdiv (4:Int))) (v7.tmod (4:Int))))))
  else
  some (.inr v6))
 | .L3 z0 y5 lQ sL xj=>
  (bif (decide (xj<(3:Int))) then
  gO (bf (xj+(1:Int))) (
  some (.inl (.L3 z0 y5 lQ (sL/(256:BitVec 64)) (xj+(1:Int)))))
  else
  gO (y5.length+([(g7 ((sL%(256:BitVec 64)).toNat:Int))]:List UInt8).length≤9223372036854775807) (
  gO (bf (lQ+(1:Int))) (
  some (.inl (.L2 z0 (y5++([(g7 ((sL%(256:BitVec 64)).toNat:Int))]:List UInt8)) (lQ+(1:Int)))))))
noncomputable def Bq (s0:(List UInt8)):Option (List UInt8):=gJ (dN s0) .S
theorem Jl (s0:(List UInt8)) (r:(List UInt8)) (h:Bq s0=some r):cD Tryz.prog 36 [.val (sV s0)] (.val (sV r)):=by
 refine fQ Tryz.func36 Tryz.ntmps36 TT.VQ ?_
 obtain ⟨_,h⟩:=cP h
 obtain ⟨dm,e9,h⟩:=aQ h;rw [dN] at h
 refine sR ?_
 refine xz 2 (pS ([]:List UInt8)) ?_
 refine sR ?_
 refine xS 10 (eA fO ([(1779033703:BitVec 64),(3144134277:BitVec 64),(1013904242:BitVec 64),(2773480762:BitVec 64),(1359893119:BitVec 64),(2600822924:BitVec 64),(528734635:BitVec 64),(1541459225:BitVec 64)]:List (BitVec 64)) TT.om ?_ (hl:=fI))
 refine xz 3 (.full (([(1779033703:BitVec 64),(3144134277:BitVec 64),(1013904242:BitVec 64),(2773480762:BitVec 64),(1359893119:BitVec 64),(2600822924:BitVec 64),(528734635:BitVec 64),(1541459225:BitVec 64)]:List (BitVec 64)).map fO)) ?_
 refine sR ?_
 refine xm 11 (pS s0) ?_
 obtain ⟨x_1,fk,h⟩:=bG h
 refine xS 12 (az (Gr s0 _ fk) ?_)
 refine xz 4 (pS x_1) ?_
 refine QW.seq ?_
 refine sR ?_
 refine xz 5 (pI (0)) ?_
 refine QW.block ?_
 refine lp (fun k σ=>∃ v3:(List (BitVec 64)),∃ dR:(List UInt8),∃ v5:Int,k≤dm∧run (dN s0) k (.L1 v3 dR v5)=some r∧σ=⟨bW [(3, .d (.slice (v3.map fO))),(4,pS dR),(5,pI v5)],aK [],0,[]⟩) dm ⟨([(1779033703:BitVec 64),(3144134277:BitVec 64),(1013904242:BitVec 64),(2773480762:BitVec 64),(1359893119:BitVec 64),(2600822924:BitVec 64),(528734635:BitVec 64),(1541459225:BitVec 64)]:List (BitVec 64)),x_1,0,Nat.le_refl _,jG h,rfl⟩ (vM 0 []) ?_
 rintro Zg _ ⟨v3,dR,v5,Zh,h,rfl⟩
 obtain ⟨OA,e9,h⟩:=aQ h;rw [dN] at h
 refine QW.seq ?_
 refine sR ?_
 refine xm 13 (pI v5) ?_
 refine xm 14 (pS dR) ?_
 refine xS 15 (eU dR TT.bh ?_)
 refine xT 16 (cM v5 (dR.length:Int) ?_)
 refine cT (decide (v5<(dR.length:Int))) (fun fA=>?_) (fun fA=>?_)
 ·replace h:=ej h fA
  refine sk ?_
  refine QW.seq ?_
  refine QW.block ?_
  refine rG ?_
  refine xm 19 (.d (.slice (v3.map fO))) ?_
  refine xm 20 (pS dR) ?_
  refine xm 21 (pI v5) ?_
  refine xm 22 (pI v5) ?_
  obtain ⟨nM,h⟩:=gG h
  refine xS 23 (bE v5 (64:Int) nM ?_)
  obtain ⟨oM,h⟩:=gG h
  refine xS 24 (p6 dR v5 (v5+(64:Int)) TT.bh oM ?_)
  obtain ⟨x_7,oA,h⟩:=bG h
  refine xS 25 (az (Fe v3 (sub dR v5 (v5+(64:Int))) _ oA) ?_)
  refine xa 3 (.d (.slice (x_7.map fO))) ?_
  refine XK.nil (iS (cn ?_))
  refine rG ?_
  refine xm 17 (pI v5) ?_
  obtain ⟨r5,h⟩:=gG h
  refine xS 18 (bE v5 (64:Int) r5 ?_)
  refine xz 5 (pI (v5+(64:Int))) ?_
  exact lb OA ⟨x_7,dR,(v5+(64:Int)),by omega,jG h,rfl⟩ (vM 0 [])
 ·replace h:=ek h fA
  refine QW.exit zL (eP (eP (kW (cn ?_))))
  refine sR ?_
  refine xz 6 (pS ([]:List UInt8)) ?_
  refine QW.seq ?_
  refine sR ?_
  refine xz 7 (pI (0)) ?_
  refine QW.block ?_
  refine lp (fun k σ=>∃ x8:(List (BitVec 64)),∃ v6:(List UInt8),∃ v7:Int,k≤OA∧run (dN s0) k (.L2 x8 v6 v7)=some r∧σ=⟨bW [(3, .d (.slice (x8.map fO))),(6,pS v6),(7,pI v7)],aK [],0,[]⟩) OA ⟨v3,([]:List UInt8),0,Nat.le_refl _,jG h,rfl⟩ (vM 0 []) ?_
  rintro XJ _ ⟨x8,v6,v7,XL,h,rfl⟩
  obtain ⟨MK,e9,h⟩:=aQ h;rw [dN] at h
  refine QW.seq ?_
  refine sR ?_
  refine xm 26 (pI v7) ?_
  refine xT 27 (cM v7 (32:Int) ?_)
  refine cT (decide (v7<(32:Int))) (fun kJ=>?_) (fun kJ=>?_)
  ·replace h:=ej h kJ
   refine sk ?_
   refine QW.seq ?_
   refine QW.block ?_
   refine sR ?_
   refine xm 30 (.d (.slice (x8.map fO))) ?_
   refine xm 31 (pI v7) ?_
   obtain ⟨kP,h⟩:=gG h
   refine xS 32 (K7 v7 (4:Int) kP ?_)
   obtain ⟨nU,h⟩:=gG h
   refine xS 33 (bX x8 (v7.tdiv (4:Int)) TT.fP fI nU ?_)
   refine xS 34 (aA (.val (.int .u64 ((idx x8 (v7.tdiv (4:Int))).toNat:Int))) TT.hY ?_)
   refine xz 8 (.d (.val (.int .u64 ((idx x8 (v7.tdiv (4:Int))).toNat:Int)))) ?_
   refine QW.seq ?_
   refine sR ?_
   refine xm 35 (pI v7) ?_
   refine xS 36 (uH v7 (4:Int) ?_)
   refine xz 9 (pI (v7.tmod (4:Int))) ?_
   refine QW.block ?_
   refine lp (fun k σ=>∃ z0:(List (BitVec 64)),∃ y5:(List UInt8),∃ lQ:Int,∃ sL:(BitVec 64),∃ xj:Int,k≤MK∧run (dN s0) k (.L3 z0 y5 lQ sL xj)=some r∧σ=⟨bW [(3, .d (.slice (z0.map fO))),(6,pS y5),(7,pI lQ),(8, .d (.val (.int .u64 (sL.toNat:Int)))),(9,pI xj)],aK [],0,[]⟩) MK ⟨x8,v6,v7,(idx x8 (v7.tdiv (4:Int))),(v7.tmod (4:Int)),Nat.le_refl _,jG h,rfl⟩ (vM 0 []) ?_
   rintro S9 _ ⟨z0,y5,lQ,sL,xj,Ta,h,rfl⟩
   obtain ⟨Ia,e9,h⟩:=aQ h;rw [dN] at h
   refine QW.seq ?_
   refine sR ?_
   refine xm 37 (pI xj) ?_
   refine xT 38 (cM xj (3:Int) ?_)
   refine cT (decide (xj<(3:Int))) (fun r9=>?_) (fun r9=>?_)
   ·replace h:=ej h r9
    refine sk ?_
    refine QW.seq ?_
    refine QW.block ?_
    refine rG ?_
    refine xm 41 (.d (.val (.int .u64 (sL.toNat:Int)))) ?_
    refine xS 42 (B0 sL (256:BitVec 64) ?_)
    refine xa 8 (.d (.val (.int .u64 ((sL/(256:BitVec 64)).toNat:Int)))) ?_
    refine XK.nil (iS (cn ?_))
    refine rG ?_
    refine xm 39 (pI xj) ?_
    obtain ⟨q8,h⟩:=gG h
    refine xS 40 (bE xj (1:Int) q8 ?_)
    refine xz 9 (pI (xj+(1:Int))) ?_
    exact lb Ia ⟨z0,y5,lQ,(sL/(256:BitVec 64)),(xj+(1:Int)),by omega,jG h,rfl⟩ (vM 0 [])
   ·replace h:=ek h r9
    refine QW.exit zL (eP (eP (kW (cn ?_))))
    refine rG ?_
    refine xm 43 (pS y5) ?_
    refine xm 44 (.d (.val (.int .u64 (sL.toNat:Int)))) ?_
    refine xS 45 (B1 sL (256:BitVec 64) ?_)
    refine xS 46 (oY ((sL%(256:BitVec 64)).toNat:Int) TT.uv TT.dw ?_)
    refine xS 47 (eA aa ([(g7 ((sL%(256:BitVec 64)).toNat:Int))]:List UInt8) TT.eV ?_)
    refine xS 48 (nk ([(g7 ((sL%(256:BitVec 64)).toNat:Int))]:List UInt8) TT.bt TT.dw TT.bh ?_)
    obtain ⟨oB,h⟩:=gG h
    refine xS 49 (lZ y5 ([(g7 ((sL%(256:BitVec 64)).toNat:Int))]:List UInt8) oB ?_)
    refine xa 6 (pS (y5++([(g7 ((sL%(256:BitVec 64)).toNat:Int))]:List UInt8))) ?_
    refine XK.nil (iS (cn ?_))
    refine rG ?_
    refine xm 28 (pI lQ) ?_
    obtain ⟨qI,h⟩:=gG h
    refine xS 29 (bE lQ (1:Int) qI ?_)
    refine xz 7 (pI (lQ+(1:Int))) ?_
    exact lb Ia ⟨z0,(y5++([(g7 ((sL%(256:BitVec 64)).toNat:Int))]:List UInt8)),(lQ+(1:Int)),by omega,jG h,rfl⟩ (vM 0 [])
  ·replace h:=ek h kJ
   refine QW.exit zL (eP (eP (kW (cn ?_))))
   refine sR ?_
   refine xm 50 (pS v6) ?_
   refine xz 2 (pS v6) ?_
   refine QW.ret zL ?_
   obtain rfl:=sG h
   exact eO
noncomputable def qj (nA:(List UInt8)):Option (List UInt8):=
  (bif (decide ((32:Int)≤(nA.length:Int))) then
  ((Bq nA).bind fun (x_2:(List UInt8))=>
  some x_2)
  else
  some nA)
theorem Jm (nA:(List UInt8)) (r:(List UInt8)) (h:qj nA=some r):cD Tryz.prog 20 [.val (sV nA)] (.val (sV r)):=by
 refine fQ Tryz.func20 Tryz.ntmps20 TT.VP ?_
 unfold qj at h
 refine sR ?_
 refine xz 2 (pS ([]:List UInt8)) ?_
 refine QW.seq ?_
 refine sR ?_
 refine xm 3 (pS nA) ?_
 refine xS 4 (eU nA TT.bh ?_)
 refine xT 5 (pO (nA.length:Int) (32:Int) ?_)
 refine cT (decide ((32:Int)≤(nA.length:Int))) (fun c8=>?_) (fun c8=>?_)
 ·replace h:=bT h c8
  refine sR ?_
  refine xm 6 (pS nA) ?_
  obtain ⟨x_2,nS,h⟩:=bO h
  refine xS 7 (az (Jl nA _ nS) ?_)
  refine xz 2 (pS x_2) ?_
  refine QW.ret zL (dc ?_)
  obtain rfl:=sO h
  exact eO
 ·replace h:=bF h c8
  refine sk ?_
  refine sR ?_
  refine xm 8 (pS nA) ?_
  refine xz 2 (pS nA) ?_
  refine QW.ret zL ?_
  obtain rfl:=sO h
  exact eO
end Go.Proofs.YtlfjfoknbjcncaaGreat.K
