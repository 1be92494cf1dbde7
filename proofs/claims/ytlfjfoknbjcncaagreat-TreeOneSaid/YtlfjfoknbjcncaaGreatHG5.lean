/- Package node: what it reckons. -/
import Derived.Test.YtlfjfoknbjcncaaGreatHG4
import Derived.KernelRfl
namespace Go.Proofs.YtlfjfoknbjcncaaGreat.K
open Go Go.RowKit
set_option linter.unusedSimpArgs false
set_option linter.unusedVariables false
set_option maxRecDepth 20000
set_option maxHeartbeats 4000000
namespace TT
theorem oP:mw Tryz.prog 56=some (16,1,false):=by kernel_rfl
theorem LU:p8 Tryz.prog 56=some ([Value.string ⟨#[]⟩,Value.string ⟨#[]⟩,Value.string ⟨#[]⟩,Value.string ⟨#[]⟩,Value.string ⟨#[]⟩,Value.string ⟨#[]⟩,Value.string ⟨#[]⟩,Value.string ⟨#[]⟩,Value.string ⟨#[]⟩,Value.string ⟨#[]⟩,Value.string ⟨#[]⟩,Value.string ⟨#[]⟩,Value.string ⟨#[]⟩,Value.string ⟨#[]⟩,Value.string ⟨#[]⟩,Value.string ⟨#[]⟩], .inr 1):=by kernel_rfl
theorem oQ:p8 Tryz.prog 58=some ([Value.int IntKind.i64 0,Value.slice none 0 0,Value.string ⟨#[]⟩,Value.string ⟨#[]⟩,Value.string ⟨#[]⟩,Value.string ⟨#[]⟩,Value.string ⟨#[]⟩,Value.string ⟨#[]⟩,Value.string ⟨#[]⟩,Value.string ⟨#[]⟩,Value.string ⟨#[]⟩,Value.string ⟨#[]⟩,Value.string ⟨#[]⟩,Value.string ⟨#[]⟩,Value.string ⟨#[]⟩,Value.string ⟨#[]⟩,Value.string ⟨#[]⟩,Value.string ⟨#[]⟩,Value.string ⟨#[]⟩], .inl [(0,1),(1,1),(2,1),(3,16)]):=by kernel_rfl
theorem LV:aP Tryz.prog 106=true:=by kernel_rfl
theorem E0:aP Tryz.prog 107=true:=by kernel_rfl
theorem LW:aP Tryz.prog 108=true:=by kernel_rfl
theorem LX:aP Tryz.prog 114=true:=by kernel_rfl
theorem LY:aP Tryz.prog 115=true:=by kernel_rfl
theorem LZ:aP Tryz.prog 116=true:=by kernel_rfl
theorem GM:aP Tryz.prog 30=true:=by kernel_rfl
theorem NV:aP Tryz.prog 41=true:=by kernel_rfl
theorem NW:aP Tryz.prog 42=true:=by kernel_rfl
theorem vK:aP Tryz.prog 43=true:=by kernel_rfl
theorem NX:aP Tryz.prog 51=true:=by kernel_rfl
theorem yW:aP Tryz.prog 52=true:=by kernel_rfl
theorem Cf:aP Tryz.prog 53=true:=by kernel_rfl
theorem GN:aP Tryz.prog 55=true:=by kernel_rfl
theorem NY:aP Tryz.prog 71=true:=by kernel_rfl
theorem NZ:aP Tryz.prog 72=true:=by kernel_rfl
theorem N0:aP Tryz.prog 73=true:=by kernel_rfl
theorem N1:aP Tryz.prog 75=true:=by kernel_rfl
theorem N2:aP Tryz.prog 76=true:=by kernel_rfl
theorem N3:aP Tryz.prog 77=true:=by kernel_rfl
theorem N4:aP Tryz.prog 78=true:=by kernel_rfl
theorem GO:aP Tryz.prog 83=true:=by kernel_rfl
theorem N5:aP Tryz.prog 94=true:=by kernel_rfl
theorem GP:aP Tryz.prog 97=true:=by kernel_rfl
theorem qK:mu Tryz.prog 58 0=some (0,1,false):=by kernel_rfl
theorem qL:mu Tryz.prog 58 1=some (1,1,false):=by kernel_rfl
theorem s5:mu Tryz.prog 58 2=some (2,1,false):=by kernel_rfl
theorem mY:mu Tryz.prog 58 3=some (3,16,true):=by kernel_rfl
theorem SM:Tryz.f106.results.toList=[.cell 4 58]:=rfl
theorem SN:Tryz.f107.results.toList=[.tmp 2]:=rfl
theorem SO:Tryz.f108.results.toList=[.cell 2 58]:=rfl
theorem SP:Tryz.f115.results.toList=[.cell 4 58]:=rfl
theorem SQ:Tryz.f116.results.toList=[.cell 4 58]:=rfl
theorem UJ:Tryz.f30.results.toList=[.tmp 2, .tmp 3]:=rfl
theorem UK:Tryz.f41.results.toList=[.tmp 2]:=rfl
theorem UL:Tryz.f42.results.toList=[.tmp 2]:=rfl
theorem UM:Tryz.f55.results.toList=[.cell 2 82]:=rfl
theorem UN:Tryz.f71.results.toList=[.tmp 2]:=rfl
theorem UO:Tryz.f72.results.toList=[.tmp 2]:=rfl
theorem UP:Tryz.f73.results.toList=[.tmp 2]:=rfl
theorem UQ:Tryz.f75.results.toList=[.tmp 4]:=rfl
theorem UR:Tryz.f76.results.toList=[.tmp 4]:=rfl
theorem US:Tryz.f77.results.toList=[.tmp 2]:=rfl
theorem UT:Tryz.f78.results.toList=[.tmp 2]:=rfl
theorem UU:Tryz.f94.results.toList=[.cell 2 58, .tmp 3]:=rfl
theorem UW:Tryz.f97.results.toList=[.tmp 4]:=rfl
theorem GQ:oH Tryz.prog 90=some (1,16):=by kernel_rfl
theorem SR:Se Tryz.prog 90=true:=by kernel_rfl
theorem tV:mz Tryz.prog 56=none:=by kernel_rfl
theorem Al:mz Tryz.prog 90=some (1,16,false):=by kernel_rfl
theorem Ks:jS Tryz.prog 56=some (true,16):=by kernel_rfl
theorem dW:jS Tryz.prog 58=some (true,19):=by kernel_rfl
theorem Jg:Program.underlying Tryz.prog 56=some (.array 16 9):=by kernel_rfl
theorem yh:Program.underlying Tryz.prog 90=some (.slice 9):=by kernel_rfl
theorem Qk:mb Tryz.prog 56=some [Value.string ⟨#[]⟩,Value.string ⟨#[]⟩,Value.string ⟨#[]⟩,Value.string ⟨#[]⟩,Value.string ⟨#[]⟩,Value.string ⟨#[]⟩,Value.string ⟨#[]⟩,Value.string ⟨#[]⟩,Value.string ⟨#[]⟩,Value.string ⟨#[]⟩,Value.string ⟨#[]⟩,Value.string ⟨#[]⟩,Value.string ⟨#[]⟩,Value.string ⟨#[]⟩,Value.string ⟨#[]⟩,Value.string ⟨#[]⟩]:=by kernel_rfl
theorem j9:mb Tryz.prog 58=some [Value.int IntKind.i64 0,Value.slice none 0 0,Value.string ⟨#[]⟩,Value.string ⟨#[]⟩,Value.string ⟨#[]⟩,Value.string ⟨#[]⟩,Value.string ⟨#[]⟩,Value.string ⟨#[]⟩,Value.string ⟨#[]⟩,Value.string ⟨#[]⟩,Value.string ⟨#[]⟩,Value.string ⟨#[]⟩,Value.string ⟨#[]⟩,Value.string ⟨#[]⟩,Value.string ⟨#[]⟩,Value.string ⟨#[]⟩,Value.string ⟨#[]⟩,Value.string ⟨#[]⟩,Value.string ⟨#[]⟩]:=by kernel_rfl
end TT
noncomputable def rR (eM:(List UInt8)) (iE:(List UInt8)):Option Node:=
  ((cW eM).bind fun (x_1:(List UInt8))=>
  some (⟨1,x_1,iE,(aE.rep 16 ([]:(List UInt8)))⟩:Node))
theorem GR (eM:(List UInt8)) (iE:(List UInt8)) (r:Node) (h:rR eM iE=some r):bI Tryz.prog 115 [.slice (eM.map U), .val (sV iE)] (.agg (cNode r)):=by
 refine bI.aU Tryz.func115 rfl (by simp [Tryz.ntmps115]) ?_
 rw [Tryz.ntmps115,TT.SP]
 refine QW.view (s':=⟨aG [(0, .d (.slice (eM.map U))),(1,pS iE)],aj [],0,[]⟩) (View.init (by rfl)) zL ?_
 unfold rR at h
 refine sR ?_
 refine xs 4 rfl (bB (l:=(([pI (0), .full (([]:(List UInt8)).map U),pS ([]:List UInt8)])++(((aE.rep 16 ([]:(List UInt8))).1.map eS).map PV.d))) rfl TT.j9 rfl rfl ?_)
 refine XK.nz ?_
 refine sR ?_
 refine xm 5 (.d (.slice (eM.map U))) ?_
 obtain ⟨x_1,fB,h⟩:=bO h
 refine xs 6 rfl (aA rfl rfl TT.vK rfl (gW eM _ fB) ?_)
 refine xm 7 (pS iE) ?_
 refine xs 8 rfl (eT (v:= .agg (([pI (1), .d (.slice (x_1.map U)),pS iE])++(((aE.rep 16 ([]:(List UInt8))).1.map eS).map PV.d))) rfl TT.oQ (dG rfl (cw (p:=pI (1)) (cells:=(([pI (0), .full (([]:(List UInt8)).map U),pS ([]:List UInt8)])++(((aE.rep 16 ([]:(List UInt8))).1.map eS).map PV.d))) (cells':=(([pI (1), .full (([]:(List UInt8)).map U),pS ([]:List UInt8)])++(((aE.rep 16 ([]:(List UInt8))).1.map eS).map PV.d))) rfl rfl rfl (bW (aD (A:=[pI (0), .full (([]:(List UInt8)).map U),pS ([]:List UInt8)]) (b:=16) rfl (aq _) rfl) bL) (fy 0 (by first | exact Nat.le_of_ble_eq_true rfl | simp) rfl) (cw (p:= .d (.slice (x_1.map U))) (cells:=(([pI (1), .full (([]:(List UInt8)).map U),pS ([]:List UInt8)])++(((aE.rep 16 ([]:(List UInt8))).1.map eS).map PV.d))) (cells':=(([pI (1), .d (.slice (x_1.map U)),pS ([]:List UInt8)])++(((aE.rep 16 ([]:(List UInt8))).1.map eS).map PV.d))) rfl rfl rfl (bW (aD (A:=[pI (1), .full (([]:(List UInt8)).map U),pS ([]:List UInt8)]) (b:=16) rfl (aq _) rfl) bL) (fy 1 (by first | exact Nat.le_of_ble_eq_true rfl | simp) rfl) (cw (p:=pS iE) (cells:=(([pI (1), .d (.slice (x_1.map U)),pS ([]:List UInt8)])++(((aE.rep 16 ([]:(List UInt8))).1.map eS).map PV.d))) (cells':=(([pI (1), .d (.slice (x_1.map U)),pS iE])++(((aE.rep 16 ([]:(List UInt8))).1.map eS).map PV.d))) rfl rfl rfl (bW (aD (A:=[pI (1), .d (.slice (x_1.map U)),pS ([]:List UInt8)]) (b:=16) rfl (aq _) rfl) bL) (fy 2 (by first | exact Nat.le_of_ble_eq_true rfl | simp) rfl) dF)))) ?_)
 refine XK.st none rfl rfl (bh (c:=(([pI (1), .d (.slice (x_1.map U)),pS iE])++(((aE.rep 16 ([]:(List UInt8))).1.map eS).map PV.d))) (l':=(([pI (1), .d (.slice (x_1.map U)),pS iE])++(((aE.rep 16 ([]:(List UInt8))).1.map eS).map PV.d))) rfl TT.dW rfl rfl rfl rfl rfl (aD (A:=[pI (1), .d (.slice (x_1.map U)),pS iE]) (b:=16) rfl (aq _) rfl) (bW (aD (A:=[pI (0), .full (([]:(List UInt8)).map U),pS ([]:List UInt8)]) (b:=16) rfl (aq _) rfl) bL) (cQ ((aD (A:=[pI (0), .full (([]:(List UInt8)).map U),pS ([]:List UInt8)]) (b:=16) rfl (aq _) rfl).trans (aD (A:=[pI (1), .d (.slice (x_1.map U)),pS iE]) (b:=16) rfl (aq _) rfl).symm)) ?_)
 refine XK.nz ?_
 refine QW.ret zL ?_
 obtain rfl:=sO h
 exact Ends.one (.inr rfl) rfl (aI.cell rfl rfl TT.dW (fP (aD (A:=[pI (1), .d (.slice (x_1.map U)),pS iE]) (b:=16) rfl (aq _) rfl) (Nat.succ_pos _))) (by simp only [PV.dj,PV.ej,iJ,cH,Option.bind_some,Option.map_some,cNode]<;>rfl) rfl
noncomputable def kR (x0:Item):Option (List UInt8):=
  (bif (!(x0).cF) then
  some (x0.fS)
  else
  ((lR x0).bind fun (x_2:((List UInt8)×Int))=>
  some (x_2.1)))
theorem uG (x0:Item) (r:(List UInt8)) (h:kR x0=some r):bI Tryz.prog 107 [.agg (dA x0)] (.val (sV r)):=by
 refine bI.aU Tryz.func107 rfl (by simp [Tryz.ntmps107]) ?_
 rw [Tryz.ntmps107,TT.SN]
 refine QW.view (s':=⟨aG [(0, .d (.agg (dA x0)))],aj [],0,[]⟩) (View.init (by rfl)) zL ?_
 unfold kR at h
 refine sR ?_
 refine XK.fz (some 1) rfl rfl (fl (ds:=dA x0) rfl rfl rfl rfl rfl ?_)
 refine xz 2 (pS ([]:List UInt8)) ?_
 refine QW.seq ?_
 refine sR ?_
 refine xs 5 rfl (aO rfl TT.vB (by decide) rfl ?_)
 refine xs 6 rfl (aC (d:= .val (.bool (x0.cF))) rfl TT.GG rfl (c8.one) ?_)
 refine xs 7 rfl (ou rfl rfl ?_)
 refine XK.nz ?_
 refine QW.cond (t:=(!(x0).cF)) rfl zL (fun dh=>?_) (fun dh=>?_)
 ·replace h:=bT h dh
  refine sR ?_
  refine xs 8 rfl (aO rfl TT.jD (by decide) rfl ?_)
  refine xs 9 rfl (aC (d:= .val (sV (x0.fS))) rfl TT.fJ rfl (c8.one) ?_)
  refine xz 2 (pS (x0.fS)) ?_
  refine QW.ret zL (gm ?_)
  obtain rfl:=sO h
  exact Ends.one (.inr rfl) rfl (aI.tmp rfl) rfl rfl
 ·replace h:=bF h dh
  refine QW.skip zL (aX ?_)
  refine sR ?_
  refine xs 11 rfl (aC (d:= .agg (dA x0)) rfl TT.eC rfl (⟨by simp [dA],rfl⟩) ?_)
  obtain ⟨x_2,nI,h⟩:=bO h
  refine xs 12 rfl (aA rfl rfl TT.yW rfl (uX x0 _ nI) ?_)
  refine xm 10 (.d (.tuple [.val (sV (x_2.1)), .val (.int .i64 (x_2.2))])) ?_
  refine xs 13 rfl (bM rfl rfl rfl ?_)
  refine xs 14 rfl (bM rfl rfl rfl ?_)
  refine xa 3 (pS (x_2.1)) ?_
  refine xz 4 (pI (x_2.2)) ?_
  refine sR ?_
  refine xm 15 (pS (x_2.1)) ?_
  refine xz 2 (pS (x_2.1)) ?_
  refine QW.ret zL ?_
  obtain rfl:=sO h
  exact Ends.one (.inr rfl) rfl (aI.tmp rfl) rfl rfl
noncomputable def tW (eM:(List UInt8)) (w6:(List UInt8)):Option Node:=
  ((cW eM).bind fun (x_1:(List UInt8))=>
  some (⟨2,x_1,([]:List UInt8),(⟨[w6,([]:(List UInt8)),([]:(List UInt8)),([]:(List UInt8)),([]:(List UInt8)),([]:(List UInt8)),([]:(List UInt8)),([]:(List UInt8)),([]:(List UInt8)),([]:(List UInt8)),([]:(List UInt8)),([]:(List UInt8)),([]:(List UInt8)),([]:(List UInt8)),([]:(List UInt8)),([]:(List UInt8))],rfl⟩:(aE 16 (List UInt8)))⟩:Node))
theorem Iu (eM:(List UInt8)) (w6:(List UInt8)) (r:Node) (h:tW eM w6=some r):bI Tryz.prog 116 [.slice (eM.map U), .val (sV w6)] (.agg (cNode r)):=by
 refine bI.aU Tryz.func116 rfl (by simp [Tryz.ntmps116]) ?_
 rw [Tryz.ntmps116,TT.SQ]
 refine QW.view (s':=⟨aG [(0, .d (.slice (eM.map U))),(1,pS w6)],aj [],0,[]⟩) (View.init (by rfl)) zL ?_
 unfold tW at h
 refine sR ?_
 refine xs 4 rfl (bB (l:=(([pI (0), .full (([]:(List UInt8)).map U),pS ([]:List UInt8)])++(((aE.rep 16 ([]:(List UInt8))).1.map eS).map PV.d))) rfl TT.j9 rfl rfl ?_)
 refine XK.nz ?_
 refine sR ?_
 refine xm 5 (.d (.slice (eM.map U))) ?_
 obtain ⟨x_1,fB,h⟩:=bO h
 refine xs 6 rfl (aA rfl rfl TT.vK rfl (gW eM _ fB) ?_)
 refine xm 7 (pS w6) ?_
 refine XK.as (some 8) rfl rfl (vb (v:= .agg [pS w6,pS ([]:List UInt8),pS ([]:List UInt8),pS ([]:List UInt8),pS ([]:List UInt8),pS ([]:List UInt8),pS ([]:List UInt8),pS ([]:List UInt8),pS ([]:List UInt8),pS ([]:List UInt8),pS ([]:List UInt8),pS ([]:List UInt8),pS ([]:List UInt8),pS ([]:List UInt8),pS ([]:List UInt8),pS ([]:List UInt8)]) rfl (by rw [TT.LU];simp [k9,k8,placeOf,ot,aB,PV.cz,PV.hY,Value.oneCell',l6,nM,dQ,List.all,cx,aG,jA,iU,bU,jX]) (by rw [TT.LU];rfl) ⟨.d (.agg ((⟨[w6,([]:(List UInt8)),([]:(List UInt8)),([]:(List UInt8)),([]:(List UInt8)),([]:(List UInt8)),([]:(List UInt8)),([]:(List UInt8)),([]:(List UInt8)),([]:(List UInt8)),([]:(List UInt8)),([]:(List UInt8)),([]:(List UInt8)),([]:(List UInt8)),([]:(List UInt8)),([]:(List UInt8))],rfl⟩:(aE 16 (List UInt8))).1.map eS)),(iH.dj rfl),?_⟩)
 refine xs 9 rfl (eT (v:= .agg (([pI (2), .d (.slice (x_1.map U)),pS ([]:List UInt8)])++(((⟨[w6,([]:(List UInt8)),([]:(List UInt8)),([]:(List UInt8)),([]:(List UInt8)),([]:(List UInt8)),([]:(List UInt8)),([]:(List UInt8)),([]:(List UInt8)),([]:(List UInt8)),([]:(List UInt8)),([]:(List UInt8)),([]:(List UInt8)),([]:(List UInt8)),([]:(List UInt8)),([]:(List UInt8))],rfl⟩:(aE 16 (List UInt8))).1.map eS).map PV.d))) rfl TT.oQ (dG rfl (cw (p:=pI (2)) (cells:=(([pI (0), .full (([]:(List UInt8)).map U),pS ([]:List UInt8)])++(((aE.rep 16 ([]:(List UInt8))).1.map eS).map PV.d))) (cells':=(([pI (2), .full (([]:(List UInt8)).map U),pS ([]:List UInt8)])++(((aE.rep 16 ([]:(List UInt8))).1.map eS).map PV.d))) rfl rfl rfl (bW (aD (A:=[pI (0), .full (([]:(List UInt8)).map U),pS ([]:List UInt8)]) (b:=16) rfl (aq _) rfl) bL) (fy 0 (by first | exact Nat.le_of_ble_eq_true rfl | simp) rfl) (cw (p:= .d (.slice (x_1.map U))) (cells:=(([pI (2), .full (([]:(List UInt8)).map U),pS ([]:List UInt8)])++(((aE.rep 16 ([]:(List UInt8))).1.map eS).map PV.d))) (cells':=(([pI (2), .d (.slice (x_1.map U)),pS ([]:List UInt8)])++(((aE.rep 16 ([]:(List UInt8))).1.map eS).map PV.d))) rfl rfl rfl (bW (aD (A:=[pI (2), .full (([]:(List UInt8)).map U),pS ([]:List UInt8)]) (b:=16) rfl (aq _) rfl) bL) (fy 1 (by first | exact Nat.le_of_ble_eq_true rfl | simp) rfl) (cw (p:= .d (.agg ((⟨[w6,([]:(List UInt8)),([]:(List UInt8)),([]:(List UInt8)),([]:(List UInt8)),([]:(List UInt8)),([]:(List UInt8)),([]:(List UInt8)),([]:(List UInt8)),([]:(List UInt8)),([]:(List UInt8)),([]:(List UInt8)),([]:(List UInt8)),([]:(List UInt8)),([]:(List UInt8)),([]:(List UInt8))],rfl⟩:(aE 16 (List UInt8))).1.map eS))) (cells:=(([pI (2), .d (.slice (x_1.map U)),pS ([]:List UInt8)])++(((aE.rep 16 ([]:(List UInt8))).1.map eS).map PV.d))) (cells':=(([pI (2), .d (.slice (x_1.map U)),pS ([]:List UInt8)])++(((⟨[w6,([]:(List UInt8)),([]:(List UInt8)),([]:(List UInt8)),([]:(List UInt8)),([]:(List UInt8)),([]:(List UInt8)),([]:(List UInt8)),([]:(List UInt8)),([]:(List UInt8)),([]:(List UInt8)),([]:(List UInt8)),([]:(List UInt8)),([]:(List UInt8)),([]:(List UInt8)),([]:(List UInt8))],rfl⟩:(aE 16 (List UInt8))).1.map eS).map PV.d))) rfl rfl (show (((⟨[w6,([]:(List UInt8)),([]:(List UInt8)),([]:(List UInt8)),([]:(List UInt8)),([]:(List UInt8)),([]:(List UInt8)),([]:(List UInt8)),([]:(List UInt8)),([]:(List UInt8)),([]:(List UInt8)),([]:(List UInt8)),([]:(List UInt8)),([]:(List UInt8)),([]:(List UInt8)),([]:(List UInt8))],rfl⟩:(aE 16 (List UInt8))).1.map eS).map PV.d).length=_ from aq _) (bW (aD (A:=[pI (2), .d (.slice (x_1.map U)),pS ([]:List UInt8)]) (b:=16) rfl (aq _) rfl) bL) (qo 3 0 rfl (cQ ((aq _).trans (aq _).symm))) dF)))) ?_)
 refine XK.st none rfl rfl (bh (c:=(([pI (2), .d (.slice (x_1.map U)),pS ([]:List UInt8)])++(((⟨[w6,([]:(List UInt8)),([]:(List UInt8)),([]:(List UInt8)),([]:(List UInt8)),([]:(List UInt8)),([]:(List UInt8)),([]:(List UInt8)),([]:(List UInt8)),([]:(List UInt8)),([]:(List UInt8)),([]:(List UInt8)),([]:(List UInt8)),([]:(List UInt8)),([]:(List UInt8)),([]:(List UInt8))],rfl⟩:(aE 16 (List UInt8))).1.map eS).map PV.d))) (l':=(([pI (2), .d (.slice (x_1.map U)),pS ([]:List UInt8)])++(((⟨[w6,([]:(List UInt8)),([]:(List UInt8)),([]:(List UInt8)),([]:(List UInt8)),([]:(List UInt8)),([]:(List UInt8)),([]:(List UInt8)),([]:(List UInt8)),([]:(List UInt8)),([]:(List UInt8)),([]:(List UInt8)),([]:(List UInt8)),([]:(List UInt8)),([]:(List UInt8)),([]:(List UInt8))],rfl⟩:(aE 16 (List UInt8))).1.map eS).map PV.d))) rfl TT.dW rfl rfl rfl rfl rfl (aD (A:=[pI (2), .d (.slice (x_1.map U)),pS ([]:List UInt8)]) (b:=16) rfl (aq _) rfl) (bW (aD (A:=[pI (0), .full (([]:(List UInt8)).map U),pS ([]:List UInt8)]) (b:=16) rfl (aq _) rfl) bL) (cQ ((aD (A:=[pI (0), .full (([]:(List UInt8)).map U),pS ([]:List UInt8)]) (b:=16) rfl (aq _) rfl).trans (aD (A:=[pI (2), .d (.slice (x_1.map U)),pS ([]:List UInt8)]) (b:=16) rfl (aq _) rfl).symm)) ?_)
 refine XK.nz ?_
 refine QW.ret zL ?_
 obtain rfl:=sO h
 exact Ends.one (.inr rfl) rfl (aI.cell rfl rfl TT.dW (fP (aD (A:=[pI (2), .d (.slice (x_1.map U)),pS ([]:List UInt8)]) (b:=16) rfl (aq _) rfl) (Nat.succ_pos _))) (by simp only [PV.dj,PV.ej,iJ,cH,Option.bind_some,Option.map_some,cNode]<;>rfl) rfl
noncomputable def rS (a0:Item) (b1:Item):Option Node:=
  ((xG (a0.fS)).bind fun (x_1:((List UInt8)×Bool×Int))=>
  (bif x_1.2.1 then
  ((rR (x_1.1) (b1.fS)).bind fun (x_4:Node)=>
  some x_4)
  else
  ((kR b1).bind fun (x_6:(List UInt8))=>
  ((tW (x_1.1) x_6).bind fun (x_8:Node)=>
  some x_8))))
theorem GS (a0:Item) (b1:Item) (r:Node) (h:rS a0 b1=some r):bI Tryz.prog 106 [.agg (dA a0), .agg (dA b1)] (.agg (cNode r)):=by
 refine bI.aU Tryz.func106 rfl (by simp [Tryz.ntmps106]) ?_
 rw [Tryz.ntmps106,TT.SM]
 refine QW.view (s':=⟨aG [(0, .d (.agg (dA a0))),(1, .d (.agg (dA b1)))],aj [],0,[]⟩) (View.init (by rfl)) zL ?_
 unfold rS at h
 refine sR ?_
 refine XK.fz (some 2) rfl rfl (fl (ds:=dA a0) rfl rfl rfl rfl rfl ?_)
 refine XK.fz (some 3) rfl rfl (fl (ds:=dA b1) rfl rfl rfl rfl rfl ?_)
 refine xs 4 rfl (bB (l:=(([pI (0), .full (([]:(List UInt8)).map U),pS ([]:List UInt8)])++(((aE.rep 16 ([]:(List UInt8))).1.map eS).map PV.d))) rfl TT.j9 rfl rfl ?_)
 refine XK.nz ?_
 refine sR ?_
 refine xs 9 rfl (aO rfl TT.jD (by decide) rfl ?_)
 refine xs 10 rfl (aC (d:= .val (sV (a0.fS))) rfl TT.fJ rfl (c8.one) ?_)
 obtain ⟨x_1,fB,h⟩:=bO h
 refine xs 11 rfl (aA rfl rfl TT.LX rfl (Fs (a0.fS) _ fB) ?_)
 refine xm 8 (.d (.tuple [.slice ((x_1.1).map U), .val (.bool (x_1.2.1)), .val (.int .i64 (x_1.2.2))])) ?_
 refine xs 12 rfl (bM rfl rfl rfl ?_)
 refine xs 13 rfl (bM rfl rfl rfl ?_)
 refine xs 14 rfl (bM rfl rfl rfl ?_)
 refine xa 5 (.d (.slice ((x_1.1).map U))) ?_
 refine xa 6 (pB (x_1.2.1)) ?_
 refine xz 7 (pI (x_1.2.2)) ?_
 refine QW.seq ?_
 refine sR ?_
 refine xm 15 (pB (x_1.2.1)) ?_
 refine XK.nz ?_
 refine QW.cond (t:=x_1.2.1) rfl zL (fun dU=>?_) (fun dU=>?_)
 ·replace h:=bT h dU
  refine sR ?_
  refine xm 16 (.d (.slice ((x_1.1).map U))) ?_
  refine xs 17 rfl (aO rfl TT.jD (by decide) rfl ?_)
  refine xs 18 rfl (aC (d:= .val (sV (b1.fS))) rfl TT.fJ rfl (c8.one) ?_)
  obtain ⟨x_4,kZ,h⟩:=bO h
  refine xs 19 rfl (aA rfl rfl TT.LY rfl (GR (x_1.1) (b1.fS) _ kZ) ?_)
  refine XK.st none rfl rfl (bh (c:=(([pI (x_4.bf), .d (.slice ((x_4.av).map U)),pS (x_4.az)])++(((x_4.aR).1.map eS).map PV.d))) (l':=(([pI (x_4.bf), .d (.slice ((x_4.av).map U)),pS (x_4.az)])++(((x_4.aR).1.map eS).map PV.d))) rfl TT.dW rfl rfl rfl rfl (show (cNode x_4).map PV.d=_ by simp only [cNode,List.map_append];rfl) (aD (A:=[pI (x_4.bf), .d (.slice ((x_4.av).map U)),pS (x_4.az)]) (b:=16) rfl (aq _) rfl) (bW (aD (A:=[pI (0), .full (([]:(List UInt8)).map U),pS ([]:List UInt8)]) (b:=16) rfl (aq _) rfl) bL) (cQ ((aD (A:=[pI (0), .full (([]:(List UInt8)).map U),pS ([]:List UInt8)]) (b:=16) rfl (aq _) rfl).trans (aD (A:=[pI (x_4.bf), .d (.slice ((x_4.av).map U)),pS (x_4.az)]) (b:=16) rfl (aq _) rfl).symm)) ?_)
  refine XK.nz ?_
  refine QW.ret zL (gm ?_)
  obtain rfl:=sO h
  exact Ends.one (.inr rfl) rfl (aI.cell rfl rfl TT.dW (fP (aD (A:=[pI (x_4.bf), .d (.slice ((x_4.av).map U)),pS (x_4.az)]) (b:=16) rfl (aq _) rfl) (Nat.succ_pos _))) (by simp only [PV.dj,PV.ej,iJ,cH,Option.bind_some,Option.map_some,cNode]<;>rfl) rfl
 ·replace h:=bF h dU
  refine QW.skip zL (aX ?_)
  refine sR ?_
  refine xm 20 (.d (.slice ((x_1.1).map U))) ?_
  refine xs 21 rfl (aC (d:= .agg (dA b1)) rfl TT.eC rfl (⟨by simp [dA],rfl⟩) ?_)
  obtain ⟨x_6,yg,h⟩:=bO h
  refine xs 22 rfl (aA rfl rfl TT.E0 rfl (uG b1 _ yg) ?_)
  obtain ⟨x_8,Ak,h⟩:=bO h
  refine xs 23 rfl (aA rfl rfl TT.LZ rfl (Iu (x_1.1) x_6 _ Ak) ?_)
  refine XK.st none rfl rfl (bh (c:=(([pI (x_8.bf), .d (.slice ((x_8.av).map U)),pS (x_8.az)])++(((x_8.aR).1.map eS).map PV.d))) (l':=(([pI (x_8.bf), .d (.slice ((x_8.av).map U)),pS (x_8.az)])++(((x_8.aR).1.map eS).map PV.d))) rfl TT.dW rfl rfl rfl rfl (show (cNode x_8).map PV.d=_ by simp only [cNode,List.map_append];rfl) (aD (A:=[pI (x_8.bf), .d (.slice ((x_8.av).map U)),pS (x_8.az)]) (b:=16) rfl (aq _) rfl) (bW (aD (A:=[pI (0), .full (([]:(List UInt8)).map U),pS ([]:List UInt8)]) (b:=16) rfl (aq _) rfl) bL) (cQ ((aD (A:=[pI (0), .full (([]:(List UInt8)).map U),pS ([]:List UInt8)]) (b:=16) rfl (aq _) rfl).trans (aD (A:=[pI (x_8.bf), .d (.slice ((x_8.av).map U)),pS (x_8.az)]) (b:=16) rfl (aq _) rfl).symm)) ?_)
  refine XK.nz ?_
  refine QW.ret zL ?_
  obtain rfl:=sO h
  exact Ends.one (.inr rfl) rfl (aI.cell rfl rfl TT.dW (fP (aD (A:=[pI (x_8.bf), .d (.slice ((x_8.av).map U)),pS (x_8.az)]) (b:=16) rfl (aq _) rfl) (Nat.succ_pos _))) (by simp only [PV.dj,PV.ej,iJ,cH,Option.bind_some,Option.map_some,cNode]<;>rfl) rfl
noncomputable def vL (gS:(aE 16 (List UInt8))):Option Node:=
  some (⟨3,([]:(List UInt8)),([]:List UInt8),gS⟩:Node)
theorem Ee (gS:(aE 16 (List UInt8))) (r:Node) (h:vL gS=some r):bI Tryz.prog 108 [.agg (gS.1.map eS)] (.agg (cNode r)):=by
 refine bI.aU Tryz.func108 rfl (by simp [Tryz.ntmps108]) ?_
 rw [Tryz.ntmps108,TT.SO]
 refine QW.view (s':=⟨aG [(0, .d (.agg (gS.1.map eS)))],aj [],0,[]⟩) (View.init (by rfl)) zL ?_
 unfold vL at h
 refine sR ?_
 refine XK.fz (some 1) rfl rfl (fl (ds:=gS.1.map eS) rfl rfl rfl rfl cH ?_)
 refine xs 2 rfl (bB (l:=(([pI (0), .full (([]:(List UInt8)).map U),pS ([]:List UInt8)])++(((aE.rep 16 ([]:(List UInt8))).1.map eS).map PV.d))) rfl TT.j9 rfl rfl ?_)
 refine XK.nz ?_
 refine sR ?_
 refine xs 3 rfl (aC (d:= .agg (gS.1.map eS)) rfl TT.Ks rfl (qa (by rw [List.length_map,gS.2])) ?_)
 refine xs 4 rfl (eT (v:= .agg (([pI (3), .full (([]:(List UInt8)).map U),pS ([]:List UInt8)])++((gS.1.map eS).map PV.d))) rfl TT.oQ (dG rfl (cw (p:=pI (3)) (cells:=(([pI (0), .full (([]:(List UInt8)).map U),pS ([]:List UInt8)])++(((aE.rep 16 ([]:(List UInt8))).1.map eS).map PV.d))) (cells':=(([pI (3), .full (([]:(List UInt8)).map U),pS ([]:List UInt8)])++(((aE.rep 16 ([]:(List UInt8))).1.map eS).map PV.d))) rfl rfl rfl (bW (aD (A:=[pI (0), .full (([]:(List UInt8)).map U),pS ([]:List UInt8)]) (b:=16) rfl (aq _) rfl) bL) (fy 0 (by first | exact Nat.le_of_ble_eq_true rfl | simp) rfl) (cw (p:= .d (.agg (gS.1.map eS))) (cells:=(([pI (3), .full (([]:(List UInt8)).map U),pS ([]:List UInt8)])++(((aE.rep 16 ([]:(List UInt8))).1.map eS).map PV.d))) (cells':=(([pI (3), .full (([]:(List UInt8)).map U),pS ([]:List UInt8)])++((gS.1.map eS).map PV.d))) rfl rfl (show ((gS.1.map eS).map PV.d).length=_ from aq _) (bW (aD (A:=[pI (3), .full (([]:(List UInt8)).map U),pS ([]:List UInt8)]) (b:=16) rfl (aq _) rfl) bL) (qo 3 0 rfl (cQ ((aq _).trans (aq _).symm))) dF))) ?_)
 refine XK.st none rfl rfl (bh (c:=(([pI (3), .full (([]:(List UInt8)).map U),pS ([]:List UInt8)])++((gS.1.map eS).map PV.d))) (l':=(([pI (3), .full (([]:(List UInt8)).map U),pS ([]:List UInt8)])++((gS.1.map eS).map PV.d))) rfl TT.dW rfl rfl rfl rfl rfl (aD (A:=[pI (3), .full (([]:(List UInt8)).map U),pS ([]:List UInt8)]) (b:=16) rfl (aq _) rfl) (bW (aD (A:=[pI (0), .full (([]:(List UInt8)).map U),pS ([]:List UInt8)]) (b:=16) rfl (aq _) rfl) bL) (cQ ((aD (A:=[pI (0), .full (([]:(List UInt8)).map U),pS ([]:List UInt8)]) (b:=16) rfl (aq _) rfl).trans (aD (A:=[pI (3), .full (([]:(List UInt8)).map U),pS ([]:List UInt8)]) (b:=16) rfl (aq _) rfl).symm)) ?_)
 refine XK.nz ?_
 refine QW.ret zL ?_
 obtain rfl:=sO h
 exact Ends.one (.inr rfl) rfl (aI.cell rfl rfl TT.dW (fP (aD (A:=[pI (3), .full (([]:(List UInt8)).map U),pS ([]:List UInt8)]) (b:=16) rfl (aq _) rfl) (Nat.succ_pos _))) (by simp only [PV.dj,PV.ej,iJ,cH,Option.bind_some,Option.map_some,cNode]<;>rfl) rfl
noncomputable def ke (self:(List UInt8)→Option Bool) (k0:(List UInt8)):Option Bool:=
  ((self k0).bind fun (x_1:Bool)=>
  some (!x_1))
theorem Cg (self:(List UInt8)→Option Bool) (fQ:∀ (y0:(List UInt8)) (rr:Bool),self y0=some rr→bI Tryz.prog 72 [.val (sV y0)] (.val (.bool rr))) (k0:(List UInt8)) (r:Bool) (h:ke self k0=some r):bI Tryz.prog 71 [.val (sV k0)] (.val (.bool r)):=by
 refine bI.aU Tryz.func71 rfl (by simp [Tryz.ntmps71]) ?_
 rw [Tryz.ntmps71,TT.UN]
 refine QW.view (s':=⟨aG [(0,pS k0)],aj [],0,[]⟩) (View.init (by rfl)) zL ?_
 unfold ke at h
 refine sR ?_
 refine xz 2 (pB false) ?_
 refine sR ?_
 refine xm 3 (pS k0) ?_
 obtain ⟨x_1,fB,h⟩:=bO h
 refine xs 4 rfl (aA rfl rfl TT.NZ rfl (fQ k0 _ fB) ?_)
 refine xs 5 rfl (ou rfl rfl ?_)
 refine xz 2 (pB (!x_1)) ?_
 refine QW.ret zL ?_
 obtain rfl:=sO h
 exact Ends.one (.inr rfl) rfl (aI.tmp rfl) rfl rfl
noncomputable def iS (v0:(List (List UInt8))):Option (List (List UInt8)):=
  gO (v0.length*16≤140737488355328) (
  some v0)
theorem sI (v0:(List (List UInt8))) (r:(List (List UInt8))) (h:iS v0=some r):Spec Tryz.prog 77 [.d (.slice (v0.map eS))] (aj []) 0 (lM (.ret (.gD 0 0 r.length)) (aj [.var (bq (r.map eS))]) 1):=by
 refine Spec.qZ Tryz.func77 rfl (by simp [Tryz.ntmps77]) bL ?_
 rw [Tryz.ntmps77,TT.US]
 refine QW.view (s':=⟨aG [(0, .d (.slice (v0.map eS)))],aj [],0,[]⟩) (View.mT zL (by rfl)) zL ?_
 unfold iS at h
 refine sR ?_
 refine xz 2 (.full (([]:(List (List UInt8))).map eS)) ?_
 refine QW.seq ?_
 refine sR ?_
 refine xm 3 (.d (.slice (v0.map eS))) ?_
 refine XK.nt (l:=v0) (some 4) rfl rfl rfl TT.yh rfl (fun e0=>?_) ?_
 ·refine XK.nz ?_
  refine QW.Gj rfl ?_
  refine sR ?_
  refine xz 2 (.full (([]:(List (List UInt8))).map eS)) ?_
  refine QW.ret zL (gm ?_)
  subst e0;obtain ⟨_,h⟩:=bk h;obtain rfl:=sO h
  exact gh.one (s':=⟨aG [(2, .gD 0 0 0)],aj [.var (bq (([]:(List (List UInt8))).map eS))],1,[]⟩) (.inr rfl) (View.trans (View.YJ 2 rfl zL) (View.mk 1 [0] _ _ _ rfl rfl (by decide) (iC trivial) (And.intro (by simp only [cv,bq,PV.bK];rfl) trivial) rfl zL rfl)) rfl bL (fun i hi=>dX [.var (bq (([]:(List (List UInt8))).map eS))] [] i hi) rfl (by simp [HO.bz,HO.bP,PV.bz,PV.bP,cD,bq]) (aI.tmp rfl) (by simp [PV.bz,PV.bP,cD])
 ·refine XK.nz ?_
  refine QW.Nx rfl ?_
  refine QW.skip zL (aX ?_)
  refine sR ?_
  refine xs 5 rfl (ef (en:=eS) (l:=([]:List (List UInt8))) rfl TT.GQ z7 rfl rfl (by decide) (by simp [dw,cU,aB,dQ,PV.cz,cx,aG,jA,iU,jX,bU,Value.oneCell']) ?_)
  refine xm 6 (.d (.slice (v0.map eS))) ?_
  obtain ⟨nV,h⟩:=bk h
  refine XK.so (some 7) rfl rfl (Si (en:=eS) (l2:=v0) rfl TT.GQ TT.yh rfl z7 rfl rfl nV (by decide) ?_)
  refine xz 2 (.gD 0 0 v0.length) ?_
  refine QW.ret zL ?_
  obtain rfl:=sO h
  exact gh.one (s':=⟨aG [(2, .gD 0 0 v0.length)],aj [.var (bq (v0.map eS))],1,[]⟩) (.inr rfl) (View.mk 1 [0] _ _ _ rfl rfl (by decide) (iC trivial) (And.intro (by simp only [cv,bq,PV.bK];rfl) trivial) rfl zL rfl) rfl bL (fun i hi=>dX [.var (bq (v0.map eS))] [] i hi) rfl (by simp [HO.bz,HO.bP,PV.bz,PV.bP,cD,bq]) (aI.tmp rfl) (by simp [PV.bz,PV.bP,cD])
inductive l8 where
 | S
 | L1 (v8:Int)
noncomputable def cI (v0:(List (List UInt8))) (f1:(List UInt8)→Option Bool):l8→Option (l8⊕Int)
 | .S=>
  some (.inl (.L1 (0)))
 | .L1 v8=>
  (bif (decide (v8<(v0.length:Int))) then
  gO (0≤v8∧v8<(v0.length:Int)) (
  ((f1 (idx v0 v8)).bind fun (x_4:Bool)=>
  (bif x_4 then
  some (.inr v8)
  else
  gO (bw (v8+(1:Int))) (
  some (.inl (.L1 (v8+(1:Int))))))))
  else
  some (.inr (-1)))
noncomputable def gL (v0:(List (List UInt8))) (f1:(List UInt8)→Option Bool):Option Int:=g9 (cI v0 f1) .S
theorem lB (v0:(List (List UInt8))) (f1:(List UInt8)→Option Bool) (me:Nat) (nE:List D) (Ir:aP Tryz.prog me=true) (Is:∀ y0 r,f1 y0=some r→bI Tryz.prog me ([.val (sV y0)]++nE) (.val (.bool r))) (r:Int) (h:gL v0 f1=some r):bI Tryz.prog 97 [.slice (v0.map eS), .gT me nE] (.val (.int .i64 r)):=by
 refine bI.aU Tryz.func97 rfl (by simp [Tryz.ntmps97]) ?_
 rw [Tryz.ntmps97,TT.UW]
 refine QW.view (s':=⟨aG [(0, .d (.slice (v0.map eS))),(1, .d (.gT me nE))],aj [],0,[]⟩) (View.init (by rfl)) zL ?_
 replace h:=cL h
 obtain ⟨_,h⟩:=h
 obtain ⟨dm,rfl,h9⟩:=aQ h;replace h:=h9;clear h9;rw [cI] at h
 refine sR ?_
 refine xz 4 (pI (0)) ?_
 refine QW.seq ?_
 refine sR ?_
 refine xm 6 (.d (.slice (v0.map eS))) ?_
 refine xs 7 rfl (cM (en:=eS) (l:=v0) rfl TT.yh rfl ?_)
 refine xm 8 (pI (0)) ?_
 refine XK.nz ?_
 refine QW.block ?_
 refine QW.loop (fun k σ=>∃ v8:Int,k≤dm∧run (cI v0 f1) k (.L1 v8)=some r∧σ=⟨aG [(0, .d (.slice (v0.map eS))),(1, .d (.gT me nE)),(7,pI (v0.length:Int)),(8,pI v8)],aj [],0,[]⟩) dm zL ⟨⟨aG [(0, .d (.slice (v0.map eS))),(1, .d (.gT me nE)),(7,pI (v0.length:Int)),(8,pI (0))],aj [],0,[]⟩,View.mk 0 [] _ _ _ rfl rfl (by decide) (iC (iC (iC (iC trivial)))) trivial rfl zL rfl,0,Nat.le_refl _,jG h,rfl⟩ ?_
 rintro rO _ ⟨v8,rP,h,rfl⟩
 obtain ⟨k_1,rfl,h9⟩:=aQ h;replace h:=h9;clear h9;rw [cI] at h
 refine sR ?_
 refine xs 9 rfl (cJ (a:=v8) (b:=(v0.length:Int)) rfl rfl rfl ?_)
 refine XK.nz ?_
 refine QW.seq ?_
 refine QW.cond (t:=(decide (v8<(v0.length:Int)))) rfl zL (fun cB=>?_) (fun cB=>?_)
 ·replace h:=fF h cB
  refine QW.skip zL (aX ?_)
  refine QW.seq ?_
  refine QW.block ?_
  refine sR ?_
  refine xm 10 (pI v8) ?_
  refine xz 5 (pI v8) ?_
  refine sR ?_
  refine xm 11 (.d (.gT me nE)) ?_
  refine xm 12 (.d (.slice (v0.map eS))) ?_
  refine xm 13 (pI v8) ?_
  obtain ⟨dS,h⟩:=gG h
  refine xs 14 rfl (bC (l:=v0) (i:=v8) rfl TT.Al z7 rfl rfl dS ?_)
  refine xs 15 rfl (aC (d:= .val (sV (idx v0 v8))) rfl TT.fJ rfl (c8.one) ?_)
  obtain ⟨x_4,kZ,h⟩:=bG h
  refine xs 16 rfl (wW rfl rfl rfl Ir rfl (Is (idx v0 v8) _ kZ) ?_)
  refine XK.nz ?_
  refine QW.cond (t:=x_4) rfl zL (fun kF=>?_) (fun kF=>?_)
  ·replace h:=fF h kF
   refine sR ?_
   refine xm 17 (pI v8) ?_
   refine xz 4 (pI v8) ?_
   refine QW.ret zL (sZ (gm (gm (sZ (gm ?_)))))
   obtain rfl:=sG h
   exact Ends.one (.inr rfl) rfl (aI.tmp rfl) rfl rfl
  ·replace h:=fG h kF
   refine QW.skip zL (g6 (aX ?_))
   refine rG ?_
   obtain ⟨lQ,h⟩:=gG h
   refine xs 18 rfl (bX (a:=v8) (b:=(1:Int)) rfl rfl rfl lQ ?_)
   refine xm 8 (pI (v8+(1:Int))) ?_
   refine XK.nz ?_
   exact ⟨k_1,by omega,⟨aG [(0, .d (.slice (v0.map eS))),(1, .d (.gT me nE)),(7,pI (v0.length:Int)),(8,pI (v8+(1:Int)))],aj [],0,[]⟩,View.mk 0 [] _ _ _ rfl rfl (by decide) (iC (iC (iC (iC trivial)))) trivial rfl zL rfl,(v8+(1:Int)),by omega,jG h,rfl⟩
 ·replace h:=fG h cB
  refine QW.exit zL (eD (eD (j3 (aX ?_))))
  refine sR ?_
  refine xz 4 (pI (-1)) ?_
  refine QW.ret zL ?_
  obtain rfl:=sG h
  exact Ends.one (.inr rfl) rfl (aI.tmp rfl) rfl rfl
inductive lS where
 | S
 | L1 (fN:Int) (cT:Int) (m6:(List (List UInt8)))
noncomputable def cg (f1:(List UInt8)→Option Bool) (v0:(List (List UInt8))):lS→Option (lS⊕(List (List UInt8)))
 | .S=>
  ((gL v0 f1).bind fun (x_1:Int)=>
  (bif (decide (x_1=(-1:Int))) then
  some (.inr v0)
  else
  gO (bw (x_1+(1:Int))) (
  some (.inl (.L1 x_1 (x_1+(1:Int)) v0)))))
 | .L1 fN cT m6=>
  (bif (decide (cT<((v0.length:Nat):Int))) then
  ((gO (0≤cT∧cT<((v0.length:Nat):Int)) (
  gO (0≤cT∧cT<(m6.length:Int)) (
  ((f1 (idx m6 cT)).bind fun (x_9:Bool)=>
  (bif (!x_9) then
  gO (0≤fN∧fN<((v0.length:Nat):Int)) (
  gO (0≤fN∧fN<(m6.length:Int)) (
  gO (bw (fN+(1:Int))) (
  some ((fN+(1:Int)),(m6.set fN.toNat (idx m6 cT))))))
  else
  some (fN,m6))))):Option (Int×(List (List UInt8)))).bind fun (sM,L0)=>
  gO (bw (cT+(1:Int))) (
  some (.inl (.L1 sM (cT+(1:Int)) L0))))
  else
  gO (0≤fN∧fN≤((v0.length:Nat):Int)∧((v0.length:Nat):Int)≤((v0.length:Nat):Int)) (
  gO ((v0.length)=m6.length) (
  gO (0≤(0:Int)∧(0:Int)≤fN∧fN≤((v0.length:Nat):Int)) (
  gO (((fN-(0:Int)).toNat)=(m6.take fN.toNat).length) (
  some (.inr (m6.take fN.toNat)))))))
noncomputable def jh (f1:(List UInt8)→Option Bool) (v0:(List (List UInt8))):Option (List (List UInt8)):=g9 (cg f1 v0) .S
theorem p6 (f1:(List UInt8)→Option Bool) (me:Nat) (nE:List D) (Ir:aP Tryz.prog me=true) (Is:∀ y0 r,f1 y0=some r→bI Tryz.prog me ([.val (sV y0)]++nE) (.val (.bool r))) (v0:(List (List UInt8))) (r:(List (List UInt8))) (h:jh f1 v0=some r):Spec Tryz.prog 76 [.gD 0 0 v0.length, .d (.gT me nE)] (aj [.var (bq (v0.map eS))]) 1 (lM (.ret (.d (.slice (r.map eS)))) (aj [.dead]) 1):=by
 refine Spec.qZ Tryz.func76 rfl (by simp [Tryz.ntmps76]) bL ?_
 rw [Tryz.ntmps76,TT.UR]
 refine QW.view (s':=⟨aG [(0, .gD 0 0 v0.length),(1, .d (.gT me nE))],aj [.var (bq (v0.map eS))],1,[]⟩) (View.mT bL (by rfl)) bL ?_
 replace h:=cL h
 obtain ⟨_,h⟩:=h
 obtain ⟨dm,rfl,h9⟩:=aQ h;replace h:=h9;clear h9;rw [cg] at h
 refine lN ?_
 refine xz 4 (.full (([]:(List (List UInt8))).map eS)) ?_
 refine lN ?_
 refine xm 8 (.gD 0 0 v0.length) ?_
 refine xm 9 (.d (.gT me nE)) ?_
 obtain ⟨x_1,fB,h⟩:=bG h
 refine XK.so (some 10) rfl rfl (Sf (l:=v0.map eS) rfl rfl rfl TT.GP rfl rfl (by simp) rfl (lB v0 f1 me nE Ir Is _ fB) ?_)
 refine xz 5 (pI x_1) ?_
 refine QW.seq ?_
 refine lN ?_
 refine xm 11 (pI x_1) ?_
 refine xs 12 rfl (eF (a:=x_1) (b:=(-1:Int)) rfl rfl rfl ?_)
 refine XK.nz ?_
 refine QW.cond (t:=(decide (x_1=(-1:Int)))) rfl bL (fun dU=>?_) (fun dU=>?_)
 ·replace h:=fF h dU
  refine lN ?_
  refine xm 13 (.gD 0 0 v0.length) ?_
  refine xz 4 (.gD 0 0 v0.length) ?_
  refine QW.ret bL (gm ?_)
  obtain rfl:=sG h
  exact gh.one (s':=⟨aG [(4, .d (.slice (v0.map eS)))],aj [.dead],1,[]⟩) (.inr rfl) (View.trans (View.Jc (en:=eS) (l:=v0) 0 4 rfl rfl rfl bL) (View.mk 1 [0] _ _ _ rfl rfl (by decide) (iC trivial) (And.intro trivial trivial) rfl bL rfl)) rfl bL (fun i hi=>dX [.dead] [] i hi) rfl (by simp [HO.bz,HO.bP,PV.bz,PV.bP,cD,bq]) (aI.tmp rfl) (by simp [PV.bz,PV.bP,cD])
 ·replace h:=fG h dU
  refine QW.skip bL (aX ?_)
  refine QW.seq ?_
  refine lN ?_
  refine xm 14 (pI x_1) ?_
  obtain ⟨mH,h⟩:=gG h
  refine xs 15 rfl (bX (a:=x_1) (b:=(1:Int)) rfl rfl rfl mH ?_)
  refine xz 6 (pI (x_1+(1:Int))) ?_
  refine QW.block ?_
  refine QW.loop (fun k σ=>∃ fN:Int,∃ cT:Int,∃ m6:(List (List UInt8)),k≤dm∧run (cg f1 v0) k (.L1 fN cT m6)=some r∧σ=⟨aG [(0, .gD 0 0 v0.length),(1, .d (.gT me nE)),(5,pI fN),(6,pI cT)],aj [.var (bq (m6.map eS))],1,[]⟩) dm bL ⟨⟨aG [(0, .gD 0 0 v0.length),(1, .d (.gT me nE)),(5,pI x_1),(6,pI (x_1+(1:Int)))],aj [.var (bq (v0.map eS))],1,[]⟩,View.mk 1 [0] _ _ _ rfl rfl (by decide) (iC (iC (iC (iC trivial)))) (And.intro (by simp only [cv,bq,PV.bK];rfl) trivial) rfl bL rfl,x_1,(x_1+(1:Int)),v0,Nat.le_refl _,jG h,rfl⟩ ?_
  rintro Pg _ ⟨fN,cT,m6,Ph,h,rfl⟩
  obtain ⟨Br,rfl,h9⟩:=aQ h;replace h:=h9;clear h9;rw [cg] at h
  refine QW.seq ?_
  refine lN ?_
  refine xm 16 (pI cT) ?_
  refine xm 17 (.gD 0 0 v0.length) ?_
  refine XK.so (some 18) rfl rfl (Sd rfl TT.yh rfl ?_)
  refine xs 19 rfl (cJ (a:=cT) (b:=((v0.length:Nat):Int)) rfl rfl rfl ?_)
  refine XK.nz ?_
  refine QW.cond (t:=(decide (cT<((v0.length:Nat):Int)))) rfl bL (fun kF=>?_) (fun kF=>?_)
  ·replace h:=fF h kF
   refine QW.skip bL (aX ?_)
   obtain ⟨⟨sM,L0⟩,hq,h⟩:=bG h
   refine QW.qY (fun s'=>s'=⟨aG [(0, .gD 0 0 v0.length),(1, .d (.gT me nE)),(5,pI sM),(6,pI cT)],aj [.var (bq (L0.map eS))],1,[]⟩) ?_ ?_
   ·replace h:=hq;clear hq
    refine QW.block ?_
    refine lN ?_
    refine xm 22 (.gD 0 0 v0.length) ?_
    refine xm 23 (pI cT) ?_
    obtain ⟨lQ,h⟩:=bk h
    obtain ⟨p5,h⟩:=bk h
    refine XK.so (some 24) rfl rfl (LC (i:=cT) rfl TT.Al rfl rfl lQ ?_)
    refine xs 25 rfl (bD (v:=pS (idx m6 cT)) rfl TT.fJ rfl rfl (Qa z7 p5) ?_)
    refine xz 7 (pS (idx m6 cT)) ?_
    refine lN ?_
    refine xm 26 (.d (.gT me nE)) ?_
    refine xm 27 (pS (idx m6 cT)) ?_
    obtain ⟨x_9,Ch,h⟩:=bO h
    refine xs 28 rfl (wW rfl rfl rfl Ir rfl (Is (idx m6 cT) _ Ch) ?_)
    refine xs 29 rfl (ou rfl rfl ?_)
    refine XK.nz ?_
    refine QW.cond (t:=(!x_9)) rfl bL (fun vM=>?_) (fun vM=>?_)
    ·replace h:=bT h vM
     refine lN ?_
     refine xm 30 (.gD 0 0 v0.length) ?_
     refine xm 31 (pI fN) ?_
     refine xm 32 (pS (idx m6 cT)) ?_
     obtain ⟨m5,h⟩:=bk h
     obtain ⟨nJ,h⟩:=bk h
     refine XK.so (some 33) rfl rfl (LC (i:=fN) rfl TT.Al rfl rfl m5 ?_)
     refine XK.st none rfl rfl (bh (c:=([.val (sV (idx m6 cT))]).map .d) (l':=(bq ((m6.set fN.toNat (idx m6 cT)).map eS))) rfl TT.fJ rfl rfl rfl rfl rfl rfl (Uq z7 nJ) (Sc z7 nJ) ?_)
     refine XK.nz ?_
     refine Fq ?_
     refine xm 34 (pI fN) ?_
     obtain ⟨rQ,h⟩:=bk h
     refine xs 35 rfl (bX (a:=fN) (b:=(1:Int)) rfl rfl rfl rQ ?_)
     refine xa 5 (pI (fN+(1:Int))) ?_
     refine XK.nil (g6 (aX ?_))
     simp only [Option.some.injEq,Prod.mk.injEq] at h
     obtain ⟨rfl,rfl⟩:=h
     exact ⟨⟨aG [(0, .gD 0 0 v0.length),(1, .d (.gT me nE)),(5,pI (fN+(1:Int))),(6,pI cT)],aj [.var (bq ((m6.set fN.toNat (idx m6 cT)).map eS))],1,[]⟩,View.mk 1 [0] _ _ _ rfl rfl (by decide) (iC (iC (iC (iC trivial)))) (And.intro (by simp only [cv,bq,PV.bK];rfl) trivial) rfl bL rfl,rfl⟩
    ·replace h:=bF h vM
     refine QW.skip bL (g6 (aX ?_))
     simp only [Option.some.injEq,Prod.mk.injEq] at h
     obtain ⟨rfl,rfl⟩:=h
     exact ⟨⟨aG [(0, .gD 0 0 v0.length),(1, .d (.gT me nE)),(5,pI fN),(6,pI cT)],aj [.var (bq (m6.map eS))],1,[]⟩,View.mk 1 [0] _ _ _ rfl rfl (by decide) (iC (iC (iC (iC trivial)))) (And.intro (by simp only [cv,bq,PV.bK];rfl) trivial) rfl bL rfl,rfl⟩
   ·rintro _ rfl
    refine Fq ?_
    refine xm 20 (pI cT) ?_
    obtain ⟨tR,h⟩:=gG h
    refine xs 21 rfl (bX (a:=cT) (b:=(1:Int)) rfl rfl rfl tR ?_)
    refine xz 6 (pI (cT+(1:Int))) ?_
    exact ⟨Br,by omega,⟨aG [(0, .gD 0 0 v0.length),(1, .d (.gT me nE)),(5,pI sM),(6,pI (cT+(1:Int)))],aj [.var (bq (L0.map eS))],1,[]⟩,View.mk 1 [0] _ _ _ rfl rfl (by decide) (iC (iC (iC (iC trivial)))) (And.intro (by simp only [cv,bq,PV.bK];rfl) trivial) rfl bL rfl,sM,(cT+(1:Int)),L0,by omega,jG h,rfl⟩
  ·replace h:=fG h kF
   refine QW.exit bL (eD (eD (j3 (aX ?_))))
   refine lN ?_
   refine xm 36 (.gD 0 0 v0.length) ?_
   refine xm 37 (pI fN) ?_
   obtain ⟨oR,h⟩:=gG h
   refine XK.so (some 38) rfl rfl (Pe (p:=fN) (q:=((v0.length:Nat):Int)) rfl TT.Al rfl rfl rfl oR ?_)
   obtain ⟨pT,h⟩:=gG h
   refine XK.so none rfl rfl (Qb (l':=(bq ((m6.take fN.toNat).map eS))) rfl TT.GQ TT.SR rfl rfl (Us z7 oR pT) (Qc z7 oR pT) ?_)
   refine XK.nz ?_
   refine lN ?_
   refine xm 39 (.gD 0 0 v0.length) ?_
   refine xm 40 (pI fN) ?_
   obtain ⟨rA,h⟩:=gG h
   refine XK.so (some 41) rfl rfl (Pe (p:=(0:Int)) (q:=fN) rfl TT.Al rfl rfl rfl rA ?_)
   refine xz 4 (.gD 0 0 (fN-(0:Int)).toNat) ?_
   refine QW.ret bL ?_
   obtain ⟨yj,h⟩:=gG h
   obtain rfl:=sG h
   exact gh.one (s':=⟨aG [(4, .d (.slice ((m6.take fN.toNat).map eS)))],aj [.dead],1,[]⟩) (.inr rfl) (View.trans (View.Jc (en:=eS) (l:=(m6.take fN.toNat)) 0 4 rfl rfl yj bL) (View.mk 1 [0] _ _ _ rfl rfl (by decide) (iC trivial) (And.intro trivial trivial) rfl bL rfl)) rfl bL (fun i hi=>dX [.dead] [] i hi) rfl (by simp [HO.bz,HO.bP,PV.bz,PV.bP,cD,bq]) (aI.tmp rfl) (by simp [PV.bz,PV.bP,cD])
noncomputable def oS (k0:(List UInt8)):Option Bool:=
  some (k0==([]:List UInt8))
theorem Ef (k0:(List UInt8)) (r:Bool) (h:oS k0=some r):bI Tryz.prog 78 [.val (sV k0)] (.val (.bool r)):=by
 refine bI.aU Tryz.func78 rfl (by simp [Tryz.ntmps78]) ?_
 rw [Tryz.ntmps78,TT.UT]
 refine QW.view (s':=⟨aG [(0,pS k0)],aj [],0,[]⟩) (View.init (by rfl)) zL ?_
 unfold oS at h
 refine sR ?_
 refine xz 2 (pB false) ?_
 refine sR ?_
 refine xm 3 (pS k0) ?_
 refine xs 4 rfl (nR (a:=k0) (b:=([]:List UInt8)) rfl rfl rfl ?_)
 refine xz 2 (pB (k0==([]:List UInt8))) ?_
 refine QW.ret zL ?_
 obtain rfl:=sO h
 exact Ends.one (.inr rfl) rfl (aI.tmp rfl) rfl rfl
noncomputable def rU (n0:Node):Option (List (List UInt8)):=
  ((iS ((n0.aR).1)).bind fun (SS:(List (List UInt8)))=>
  ((jh (fun y0=>oS y0) SS).bind fun (UX:(List (List UInt8)))=>
  some UX))
theorem GU (n0:Node) (r:(List (List UInt8))) (h:rU n0=some r):bI Tryz.prog 42 [.agg (cNode n0)] (.slice (r.map eS)):=by
 refine bI.aU Tryz.func42 rfl (by simp [Tryz.ntmps42]) ?_
 rw [Tryz.ntmps42,TT.UL]
 refine QW.view (s':=⟨aG [(0, .d (.agg (cNode n0)))],aj [],0,[]⟩) (View.init (by rfl)) zL ?_
 unfold rU at h
 refine sR ?_
 refine XK.fz (some 1) rfl rfl (fl (ds:=cNode n0) rfl rfl rfl rfl cH ?_)
 refine xz 2 (.full (([]:(List (List UInt8))).map eS)) ?_
 refine sR ?_
 refine xs 3 rfl (aO rfl TT.mY (by decide) rfl ?_)
 refine XK.as (some 4) rfl rfl (D4 (en:=eS) (a:=n0.aR) rfl TT.Jg TT.oP (ri _) (Gt (GK _)) rfl ⟨.d (.slice (((n0.aR).1).map eS)),(iH.dj rfl),?_⟩)
 obtain ⟨SS,fB,h⟩:=bO h
 refine XK.fr (p:= .gD 0 0 SS.length) (H2:=cG _ 0 (some (.var (bq (SS.map eS))))) (mG:=1) (some 5) rfl rfl (b8 [] rfl rfl TT.N3 (sI ((n0.aR).1) _ fB) rfl rfl (by decide) trivial bL) rfl (by simp only [iB,lv,HO.re,bq,PV.bK,eZ];rfl) rfl ?_
 obtain ⟨UX,kZ,h⟩:=bO h
 refine XK.fr (p:= .d (.slice (UX.map eS))) (H2:=cG _ 0 none) (mG:=1) (some 6) rfl rfl (b8 [0] rfl rfl TT.N2 (p6 (fun y0=>oS y0) 78 [] TT.N4 (fun y0 _ h=>Ef y0 _ h) SS _ kZ) rfl rfl (by decide) (And.intro (by simp only [HO.re,bq,PV.bK];rfl) trivial) bL) rfl rfl rfl ?_
 refine xz 2 (.d (.slice (UX.map eS))) ?_
 refine QW.ret zL ?_
 obtain rfl:=sO h
 exact Ends.one (.inr rfl) rfl (aI.tmp rfl) rfl rfl
noncomputable def qd (n0:Node):Option Bool:=
  ((rU n0).bind fun (x_1:(List (List UInt8)))=>
  (bif (decide ((n0.bf)=(1:Int))) then
  some (((!(n0.az==([]:List UInt8)))&&(decide (((n0.az).length:Int)≤(65552:Int))))&&(decide ((x_1.length:Int)=(0:Int))))
  else
  (bif (decide ((n0.bf)=(2:Int))) then
  some ((((n0.az==([]:List UInt8))&&(decide ((0:Int)<((n0.av).length:Int))))&&(decide ((x_1.length:Int)=(1:Int))))&&(!((idx (n0.aR).1 (0:Int))==([]:List UInt8))))
  else
  (bif (decide ((n0.bf)=(3:Int))) then
  some (((n0.az==([]:List UInt8))&&(decide (((n0.av).length:Int)=(0:Int))))&&(decide ((1:Int)<(x_1.length:Int))))
  else
  some false))))
theorem Ft (n0:Node) (r:Bool) (h:qd n0=some r):bI Tryz.prog 73 [.agg (cNode n0)] (.val (.bool r)):=by
 refine bI.aU Tryz.func73 rfl (by simp [Tryz.ntmps73]) ?_
 rw [Tryz.ntmps73,TT.UP]
 refine QW.view (s':=⟨aG [(0, .d (.agg (cNode n0)))],aj [],0,[]⟩) (View.init (by rfl)) zL ?_
 unfold qd at h
 refine sR ?_
 refine XK.fz (some 1) rfl rfl (fl (ds:=cNode n0) rfl rfl rfl rfl cH ?_)
 refine xz 2 (pB false) ?_
 refine sR ?_
 refine xs 4 rfl (aC (d:= .agg (cNode n0)) rfl TT.dW rfl (⟨by rw [ve.len];decide,congrArg D.agg (List.take_of_length_le (by rw [ve.len];decide))⟩) ?_)
 obtain ⟨x_1,fB,h⟩:=bO h
 refine xs 5 rfl (aA rfl rfl TT.NW rfl (GU n0 _ fB) ?_)
 refine xs 6 rfl (cM (en:=eS) (l:=x_1) rfl TT.yh rfl ?_)
 refine xz 3 (pI (x_1.length:Int)) ?_
 refine QW.seq ?_
 refine sR ?_
 refine xs 7 rfl (aO rfl TT.qK (by decide) rfl ?_)
 refine xs 8 rfl (aC (d:= .val (.int .i64 (n0.bf))) rfl TT.mW rfl (q8 _) ?_)
 refine XK.nz ?_
 refine QW.block ?_
 refine sR ?_
 refine xs 10 rfl (eF (a:=(n0.bf)) (b:=(1:Int)) rfl rfl rfl ?_)
 refine xz 9 (pB (decide ((n0.bf)=(1:Int)))) ?_
 refine QW.cond (t:=(decide ((n0.bf)=(1:Int)))) rfl zL (fun dU=>?_) (fun dU=>?_)
 ·replace h:=bT h dU
  refine sR ?_
  refine xs 11 rfl (aO rfl TT.s5 (by decide) rfl ?_)
  refine xs 12 rfl (aC (d:= .val (sV (n0.az))) rfl TT.fJ rfl (q9 _) ?_)
  refine xs 13 rfl (yO (a:=n0.az) (b:=([]:List UInt8)) rfl rfl rfl ?_)
  refine xm 14 (pB (!(n0.az==([]:List UInt8)))) ?_
  refine xg 15 (.d (.cA ((cNode n0).drop 2))) rfl rfl (fun hg=>aO rfl TT.s5 (by decide) rfl g3) ?_
  refine xg 16 (pS (n0.az)) rfl rfl (fun hg=>aC (d:= .val (sV (n0.az))) rfl TT.fJ rfl (q9 _) g3) ?_
  refine xg 17 (pI ((n0.az).length:Int)) rfl rfl (fun hg=>gE (l:=n0.az) rfl TT.bY rfl g3) ?_
  refine xg 18 (pB (decide (((n0.az).length:Int)≤(65552:Int)))) rfl rfl (fun hg=>yN (a:=((n0.az).length:Int)) (b:=(65552:Int)) rfl rfl rfl g3) ?_
  refine xs 19 rfl (fu rfl rfl rfl rfl (fun hb=>by rw [hb];rfl) (fun _=>rfl) ?_)
  refine xm 20 (pB ((!(n0.az==([]:List UInt8)))&&(decide (((n0.az).length:Int)≤(65552:Int))))) ?_
  refine xg 21 (pI (x_1.length:Int)) rfl rfl (fun hg=>au (v:=pI (x_1.length:Int)) rfl rfl g3) ?_
  refine xg 22 (pB (decide ((x_1.length:Int)=(0:Int)))) rfl rfl (fun hg=>eF (a:=(x_1.length:Int)) (b:=(0:Int)) rfl rfl rfl g3) ?_
  refine xs 23 rfl (fu rfl rfl rfl rfl (fun hb=>by rw [hb];rfl) (fun _=>rfl) ?_)
  refine xz 2 (pB (((!(n0.az==([]:List UInt8)))&&(decide (((n0.az).length:Int)≤(65552:Int))))&&(decide ((x_1.length:Int)=(0:Int))))) ?_
  refine QW.ret zL (sZ (gm ?_))
  obtain rfl:=sO h
  exact Ends.one (.inr rfl) rfl (aI.tmp rfl) rfl rfl
 ·replace h:=bF h dU
  refine sR ?_
  refine xs 25 rfl (eF (a:=(n0.bf)) (b:=(2:Int)) rfl rfl rfl ?_)
  refine xz 24 (pB (decide ((n0.bf)=(2:Int)))) ?_
  refine QW.cond (t:=(decide ((n0.bf)=(2:Int)))) rfl zL (fun jb=>?_) (fun jb=>?_)
  ·replace h:=bT h jb
   refine sR ?_
   refine xs 26 rfl (aO rfl TT.s5 (by decide) rfl ?_)
   refine xs 27 rfl (aC (d:= .val (sV (n0.az))) rfl TT.fJ rfl (q9 _) ?_)
   refine xs 28 rfl (nR (a:=n0.az) (b:=([]:List UInt8)) rfl rfl rfl ?_)
   refine xm 29 (pB (n0.az==([]:List UInt8))) ?_
   refine xg 30 (.d (.cA ((cNode n0).drop 1))) rfl rfl (fun hg=>aO rfl TT.qL (by decide) rfl g3) ?_
   refine xg 31 (.d (.slice ((n0.av).map U))) rfl rfl (fun hg=>aC (d:= .slice ((n0.av).map U)) rfl TT.fh rfl (oM _) g3) ?_
   refine xg 32 (pI ((n0.av).length:Int)) rfl rfl (fun hg=>cM (en:=U) (l:=n0.av) rfl TT.bA rfl g3) ?_
   refine xg 33 (pB (decide ((0:Int)<((n0.av).length:Int)))) rfl rfl (fun hg=>nQ (a:=((n0.av).length:Int)) (b:=(0:Int)) rfl rfl rfl g3) ?_
   refine xs 34 rfl (fu rfl rfl rfl rfl (fun hb=>by rw [hb];rfl) (fun _=>rfl) ?_)
   refine xm 35 (pB ((n0.az==([]:List UInt8))&&(decide ((0:Int)<((n0.av).length:Int))))) ?_
   refine xg 36 (pI (x_1.length:Int)) rfl rfl (fun hg=>au (v:=pI (x_1.length:Int)) rfl rfl g3) ?_
   refine xg 37 (pB (decide ((x_1.length:Int)=(1:Int)))) rfl rfl (fun hg=>eF (a:=(x_1.length:Int)) (b:=(1:Int)) rfl rfl rfl g3) ?_
   refine xs 38 rfl (fu rfl rfl rfl rfl (fun hb=>by rw [hb];rfl) (fun _=>rfl) ?_)
   refine xm 39 (pB (((n0.az==([]:List UInt8))&&(decide ((0:Int)<((n0.av).length:Int))))&&(decide ((x_1.length:Int)=(1:Int))))) ?_
   refine xg 40 (.d (.cA ((cNode n0).drop 3))) rfl rfl (fun hg=>aO rfl TT.mY (by decide) rfl g3) ?_
   refine xg 41 (.d (.cA (((cNode n0).drop 3).drop ((0:Int).toNat*1)))) rfl rfl (fun hg=>mF (i:=(0:Int)) rfl TT.tV TT.oP rfl rfl (by decide) g3) ?_
   refine xg 42 (pS (idx (n0.aR).1 (0:Int))) rfl rfl (fun hg=>aC (d:= .val (sV (idx (n0.aR).1 (0:Int)))) rfl TT.fJ rfl (ov (ri _) (by decide)) g3) ?_
   refine xg 43 (pB (!((idx (n0.aR).1 (0:Int))==([]:List UInt8)))) rfl rfl (fun hg=>yO (a:=(idx (n0.aR).1 (0:Int))) (b:=([]:List UInt8)) rfl rfl rfl g3) ?_
   refine xs 44 rfl (fu rfl rfl rfl rfl (fun hb=>by rw [hb];rfl) (fun _=>rfl) ?_)
   refine xz 2 (pB ((((n0.az==([]:List UInt8))&&(decide ((0:Int)<((n0.av).length:Int))))&&(decide ((x_1.length:Int)=(1:Int))))&&(!((idx (n0.aR).1 (0:Int))==([]:List UInt8))))) ?_
   refine QW.ret zL (sZ (gm ?_))
   obtain rfl:=sO h
   exact Ends.one (.inr rfl) rfl (aI.tmp rfl) rfl rfl
  ·replace h:=bF h jb
   refine sR ?_
   refine xs 46 rfl (eF (a:=(n0.bf)) (b:=(3:Int)) rfl rfl rfl ?_)
   refine xz 45 (pB (decide ((n0.bf)=(3:Int)))) ?_
   refine QW.cond (t:=(decide ((n0.bf)=(3:Int)))) rfl zL (fun jH=>?_) (fun jH=>?_)
   ·replace h:=bT h jH
    refine sR ?_
    refine xs 47 rfl (aO rfl TT.s5 (by decide) rfl ?_)
    refine xs 48 rfl (aC (d:= .val (sV (n0.az))) rfl TT.fJ rfl (q9 _) ?_)
    refine xs 49 rfl (nR (a:=n0.az) (b:=([]:List UInt8)) rfl rfl rfl ?_)
    refine xm 50 (pB (n0.az==([]:List UInt8))) ?_
    refine xg 51 (.d (.cA ((cNode n0).drop 1))) rfl rfl (fun hg=>aO rfl TT.qL (by decide) rfl g3) ?_
    refine xg 52 (.d (.slice ((n0.av).map U))) rfl rfl (fun hg=>aC (d:= .slice ((n0.av).map U)) rfl TT.fh rfl (oM _) g3) ?_
    refine xg 53 (pI ((n0.av).length:Int)) rfl rfl (fun hg=>cM (en:=U) (l:=n0.av) rfl TT.bA rfl g3) ?_
    refine xg 54 (pB (decide (((n0.av).length:Int)=(0:Int)))) rfl rfl (fun hg=>eF (a:=((n0.av).length:Int)) (b:=(0:Int)) rfl rfl rfl g3) ?_
    refine xs 55 rfl (fu rfl rfl rfl rfl (fun hb=>by rw [hb];rfl) (fun _=>rfl) ?_)
    refine xm 56 (pB ((n0.az==([]:List UInt8))&&(decide (((n0.av).length:Int)=(0:Int))))) ?_
    refine xg 57 (pI (x_1.length:Int)) rfl rfl (fun hg=>au (v:=pI (x_1.length:Int)) rfl rfl g3) ?_
    refine xg 58 (pB (decide ((1:Int)<(x_1.length:Int)))) rfl rfl (fun hg=>nQ (a:=(x_1.length:Int)) (b:=(1:Int)) rfl rfl rfl g3) ?_
    refine xs 59 rfl (fu rfl rfl rfl rfl (fun hb=>by rw [hb];rfl) (fun _=>rfl) ?_)
    refine xz 2 (pB (((n0.az==([]:List UInt8))&&(decide (((n0.av).length:Int)=(0:Int))))&&(decide ((1:Int)<(x_1.length:Int))))) ?_
    refine QW.ret zL (sZ (gm ?_))
    obtain rfl:=sO h
    exact Ends.one (.inr rfl) rfl (aI.tmp rfl) rfl rfl
   ·replace h:=bF h jH
    refine QW.skip zL (g6 (aX ?_))
    refine sR ?_
    refine xz 2 (pB false) ?_
    refine QW.ret zL ?_
    obtain rfl:=sO h
    exact Ends.one (.inr rfl) rfl (aI.tmp rfl) rfl rfl
noncomputable def eU (v0:(List (List UInt8))) (f1:(List UInt8)→Option Bool):Option Bool:=
  ((gL v0 f1).bind fun (x_1:Int)=>
  some (decide ((0:Int)≤x_1)))
theorem oT (v0:(List (List UInt8))) (f1:(List UInt8)→Option Bool) (me:Nat) (nE:List D) (Ir:aP Tryz.prog me=true) (Is:∀ y0 r,f1 y0=some r→bI Tryz.prog me ([.val (sV y0)]++nE) (.val (.bool r))) (r:Bool) (h:eU v0 f1=some r):bI Tryz.prog 75 [.slice (v0.map eS), .gT me nE] (.val (.bool r)):=by
 refine bI.aU Tryz.func75 rfl (by simp [Tryz.ntmps75]) ?_
 rw [Tryz.ntmps75,TT.UQ]
 refine QW.view (s':=⟨aG [(0, .d (.slice (v0.map eS))),(1, .d (.gT me nE))],aj [],0,[]⟩) (View.init (by rfl)) zL ?_
 unfold eU at h
 refine sR ?_
 refine xz 4 (pB false) ?_
 refine sR ?_
 refine xm 5 (.d (.slice (v0.map eS))) ?_
 refine xm 6 (.d (.gT me nE)) ?_
 obtain ⟨x_1,fB,h⟩:=bO h
 refine xs 7 rfl (aA rfl rfl TT.GP rfl (lB v0 f1 me nE Ir Is _ fB) ?_)
 refine xs 8 rfl (uU (a:=x_1) (b:=(0:Int)) rfl rfl rfl ?_)
 refine xz 4 (pB (decide ((0:Int)≤x_1))) ?_
 refine QW.ret zL ?_
 obtain rfl:=sO h
 exact Ends.one (.inr rfl) rfl (aI.tmp rfl) rfl rfl
noncomputable def oU (self:(List UInt8)→Option Bool) (n0:Node):Option Int:=
  ((qd n0).bind fun (x_1:Bool)=>
  ((bif ((!x_1)==false) then pG (n0.av) else some default).bind fun (x_3:Bool)=>
  ((bif ((((!x_1)||(!x_3))||(decide ((64:Int)<((n0.av).length:Int))))==false) then eU ((n0.aR).1) (fun y0=>ke self y0) else some default).bind fun (x_5:Bool)=>
  (bif ((((!x_1)||(!x_3))||(decide ((64:Int)<((n0.av).length:Int))))||x_5) then
  some (2)
  else
  some (0)))))
theorem Eg (self:(List UInt8)→Option Bool) (fQ:∀ (y0:(List UInt8)) (rr:Bool),self y0=some rr→bI Tryz.prog 72 [.val (sV y0)] (.val (.bool rr))) (n0:Node) (r:Int) (h:oU self n0=some r):bI Tryz.prog 41 [.agg (cNode n0)] (.val (.int .i64 r)):=by
 refine bI.aU Tryz.func41 rfl (by simp [Tryz.ntmps41]) ?_
 rw [Tryz.ntmps41,TT.UK]
 refine QW.view (s':=⟨aG [(0, .d (.agg (cNode n0)))],aj [],0,[]⟩) (View.init (by rfl)) zL ?_
 unfold oU at h
 refine sR ?_
 refine XK.fz (some 1) rfl rfl (fl (ds:=cNode n0) rfl rfl rfl rfl cH ?_)
 refine xz 2 (pI (0)) ?_
 refine sR ?_
 refine xz 3 (.d (.gT 71 [])) ?_
 refine QW.seq ?_
 refine sR ?_
 refine xs 4 rfl (aC (d:= .agg (cNode n0)) rfl TT.dW rfl (⟨by rw [ve.len];decide,congrArg D.agg (List.take_of_length_le (by rw [ve.len];decide))⟩) ?_)
 obtain ⟨x_1,fB,h⟩:=bO h
 refine xs 5 rfl (aA rfl rfl TT.N0 rfl (Ft n0 _ fB) ?_)
 refine xs 6 rfl (ou rfl rfl ?_)
 refine xm 7 (pB (!x_1)) ?_
 refine xg 8 (.d (.cA ((cNode n0).drop 1))) rfl rfl (fun hg=>aO rfl TT.qL (by decide) rfl g3) ?_
 refine xg 9 (.d (.slice ((n0.av).map U))) rfl rfl (fun hg=>aC (d:= .slice ((n0.av).map U)) rfl TT.fh rfl (oM _) g3) ?_
 obtain ⟨x_3,tX,h⟩:=bO h
 refine xg 10 (pB x_3) rfl rfl (fun hg=>aA rfl rfl TT.GC rfl (Ai (n0.av) _ (bT tX hg)) g3) ?_
 refine xg 11 (pB (!x_3)) rfl rfl (fun hg=>ou rfl rfl g3) ?_
 refine xs 12 rfl (jt rfl rfl rfl rfl (fun _=>rfl) (fun hb=>by rw [hb];rfl) ?_)
 refine xm 13 (pB ((!x_1)||(!x_3))) ?_
 refine xg 14 (.d (.cA ((cNode n0).drop 1))) rfl rfl (fun hg=>aO rfl TT.qL (by decide) rfl g3) ?_
 refine xg 15 (.d (.slice ((n0.av).map U))) rfl rfl (fun hg=>aC (d:= .slice ((n0.av).map U)) rfl TT.fh rfl (oM _) g3) ?_
 refine xg 16 (pI ((n0.av).length:Int)) rfl rfl (fun hg=>cM (en:=U) (l:=n0.av) rfl TT.bA rfl g3) ?_
 refine xg 17 (pB (decide ((64:Int)<((n0.av).length:Int)))) rfl rfl (fun hg=>nQ (a:=((n0.av).length:Int)) (b:=(64:Int)) rfl rfl rfl g3) ?_
 refine xs 18 rfl (jt rfl rfl rfl rfl (fun _=>rfl) (fun hb=>by rw [hb];rfl) ?_)
 refine xm 19 (pB (((!x_1)||(!x_3))||(decide ((64:Int)<((n0.av).length:Int))))) ?_
 refine xg 20 (.d (.cA ((cNode n0).drop 3))) rfl rfl (fun hg=>aO rfl TT.mY (by decide) rfl g3) ?_
 refine xg 21 (.full (((n0.aR).1).map eS)) rfl rfl (fun hg=>D4 (en:=eS) (a:=n0.aR) rfl TT.Jg TT.oP (ri _) (Gt (GK _)) rfl g3) ?_
 refine xg 22 (.d (.gT 71 [])) rfl rfl (fun hg=>au (v:= .d (.gT 71 [])) rfl rfl g3) ?_
 obtain ⟨x_5,sJ,h⟩:=bO h
 refine xg 23 (pB x_5) rfl rfl (fun hg=>aA rfl rfl TT.N1 rfl (oT ((n0.aR).1) (fun y0=>ke self y0) 71 [] TT.NY (fun y0 _ h=>Cg self fQ y0 _ h) _ (bT sJ hg)) g3) ?_
 refine xs 24 rfl (jt rfl rfl rfl rfl (fun _=>rfl) (fun hb=>by rw [hb];rfl) ?_)
 refine XK.nz ?_
 refine QW.cond (t:=((((!x_1)||(!x_3))||(decide ((64:Int)<((n0.av).length:Int))))||x_5)) rfl zL (fun rV=>?_) (fun rV=>?_)
 ·replace h:=bT h rV
  refine sR ?_
  refine xz 2 (pI (2)) ?_
  refine QW.ret zL (gm ?_)
  obtain rfl:=sO h
  exact Ends.one (.inr rfl) rfl (aI.tmp rfl) rfl rfl
 ·replace h:=bF h rV
  refine QW.skip zL (aX ?_)
  refine sR ?_
  refine xz 2 (pI (0)) ?_
  refine QW.ret zL ?_
  obtain rfl:=sO h
  exact Ends.one (.inr rfl) rfl (aI.tmp rfl) rfl rfl
noncomputable def mK (oV:(List UInt8)):Option Item:=
  (bif ((oV==([]:List UInt8))||(decide ((oV.length:Int)=(32:Int)))) then
  ((iR oV).bind fun (x_2:Item)=>
  some x_2)
  else
  ((ku oV).bind fun (x_4:(Item×Int))=>
  some (x_4.1)))
theorem Am (oV:(List UInt8)) (r:Item) (h:mK oV=some r):bI Tryz.prog 55 [.val (sV oV)] (.agg (dA r)):=by
 refine bI.aU Tryz.func55 rfl (by simp [Tryz.ntmps55]) ?_
 rw [Tryz.ntmps55,TT.UM]
 refine QW.view (s':=⟨aG [(0,pS oV)],aj [],0,[]⟩) (View.init (by rfl)) zL ?_
 unfold mK at h
 refine sR ?_
 refine xs 2 rfl (bB (l:=[pB false,pS ([]:List UInt8), .full (([]:(List Item)).map bu)]) rfl TT.mj rfl rfl ?_)
 refine XK.nz ?_
 refine QW.seq ?_
 refine sR ?_
 refine xm 5 (pS oV) ?_
 refine xs 6 rfl (nR (a:=oV) (b:=([]:List UInt8)) rfl rfl rfl ?_)
 refine xm 7 (pB (oV==([]:List UInt8))) ?_
 refine xg 8 (pS oV) rfl rfl (fun hg=>au (v:=pS oV) rfl rfl g3) ?_
 refine xg 9 (pI (oV.length:Int)) rfl rfl (fun hg=>gE (l:=oV) rfl TT.bY rfl g3) ?_
 refine xg 10 (pB (decide ((oV.length:Int)=(32:Int)))) rfl rfl (fun hg=>eF (a:=(oV.length:Int)) (b:=(32:Int)) rfl rfl rfl g3) ?_
 refine xs 11 rfl (jt rfl rfl rfl rfl (fun _=>rfl) (fun hb=>by rw [hb];rfl) ?_)
 refine XK.nz ?_
 refine QW.cond (t:=((oV==([]:List UInt8))||(decide ((oV.length:Int)=(32:Int))))) rfl zL (fun dh=>?_) (fun dh=>?_)
 ·replace h:=bT h dh
  refine sR ?_
  refine xm 12 (pS oV) ?_
  obtain ⟨x_2,nI,h⟩:=bO h
  refine xs 13 rfl (aA rfl rfl TT.qD rfl (mX oV _ nI) ?_)
  refine XK.st none rfl rfl (bh (l':=[pB (x_2.cF),pS (x_2.fS), .d (.slice ((x_2.fL).map bu))]) rfl TT.eC rfl rfl rfl rfl rfl rfl (by simp) rfl ?_)
  refine XK.nz ?_
  refine QW.ret zL (gm ?_)
  obtain rfl:=sO h
  exact Ends.one (.inr rfl) rfl (aI.cell rfl rfl TT.eC ⟨⟨by simp,by simp⟩,rfl⟩) rfl rfl
 ·replace h:=bF h dh
  refine QW.skip zL (aX ?_)
  refine sR ?_
  refine xm 15 (pS oV) ?_
  obtain ⟨x_4,kZ,h⟩:=bO h
  refine xs 16 rfl (aA rfl rfl TT.GO rfl (Ah oV _ kZ) ?_)
  refine xm 14 (.d (.tuple [.agg (dA (x_4.1)), .val (.int .i64 (x_4.2))])) ?_
  refine xs 17 rfl (bM rfl rfl rfl ?_)
  refine xs 18 rfl (bM rfl rfl rfl ?_)
  refine xs 3 rfl (bB (l:=[pB false,pS ([]:List UInt8), .full (([]:(List Item)).map bu)]) rfl TT.mj rfl rfl ?_)
  refine XK.st none rfl rfl (bh (l':=[pB ((x_4.1).cF),pS ((x_4.1).fS), .d (.slice (((x_4.1).fL).map bu))]) rfl TT.eC rfl rfl rfl rfl rfl rfl (by simp) rfl ?_)
  refine xz 4 (pI (x_4.2)) ?_
  refine sR ?_
  refine XK.as (some 19) rfl rfl (bD (v:= .agg [pB ((x_4.1).cF),pS ((x_4.1).fS), .d (.slice (((x_4.1).fL).map bu))]) rfl TT.eC rfl rfl ⟨⟨by simp,by simp⟩,rfl⟩ ⟨.d (.agg (dA (x_4.1))),(iH.dj rfl),?_⟩)
  refine XK.st none rfl rfl (bh (l':=[pB ((x_4.1).cF),pS ((x_4.1).fS), .d (.slice (((x_4.1).fL).map bu))]) rfl TT.eC rfl rfl rfl rfl rfl rfl (by simp) rfl ?_)
  refine XK.nz ?_
  refine QW.ret zL ?_
  obtain rfl:=sO h
  exact Ends.one (.inr rfl) rfl (aI.cell rfl rfl TT.eC ⟨⟨by simp,by simp⟩,rfl⟩) rfl rfl
inductive E1 where
 | S
 | L1 (v7:(List Item)) (xI:Int)
noncomputable def gH (self:(List UInt8)→Option Bool) (n0:Node):E1→Option (E1⊕((List UInt8)×Int))
 | .S=>
  ((oU self n0).bind fun (x_1:Int)=>
  (bif (!decide (x_1=(0:Int))) then
  some (.inr (([]:List UInt8),x_1))
  else
  ((tU (n0.av) (decide ((n0.bf)=(1:Int)))).bind fun (x_4:((List UInt8)×Int))=>
  (bif (decide ((n0.bf)=(1:Int))) then
  ((iR (x_4.1)).bind fun (x_7:Item)=>
  ((iR (n0.az)).bind fun (x_9:Item)=>
  ((oO ([x_7,x_9]:List Item)).bind fun (x_11:Item)=>
  ((lR x_11).bind fun (x_13:((List UInt8)×Int))=>
  some (.inr (x_13.1,x_13.2))))))
  else
  (bif (decide ((n0.bf)=(2:Int))) then
  ((iR (x_4.1)).bind fun (x_16:Item)=>
  ((mK (idx (n0.aR).1 (0:Int))).bind fun (x_18:Item)=>
  ((oO ([x_16,x_18]:List Item)).bind fun (x_20:Item)=>
  ((lR x_20).bind fun (x_22:((List UInt8)×Int))=>
  some (.inr (x_22.1,x_22.2))))))
  else
  some (.inl (.L1 ([]:(List Item)) (0))))))))
 | .L1 v7 xI=>
  (bif (decide (xI<(16:Int))) then
  gO (0≤xI∧xI<((16:Nat):Int)) (
  ((mK (idx (n0.aR).1 xI)).bind fun (vN:Item)=>
  gO ((v7.length+([vN]:List Item).length)*48≤140737488355328) (
  gO (bw (xI+(1:Int))) (
  some (.inl (.L1 (v7++([vN]:List Item)) (xI+(1:Int))))))))
  else
  ((iR ([]:List UInt8)).bind fun (Jh:Item)=>
  gO ((v7.length+([Jh]:List Item).length)*48≤140737488355328) (
  ((oO (v7++([Jh]:List Item))).bind fun (SU:Item)=>
  ((lR SU).bind fun (GV:((List UInt8)×Int))=>
  some (.inr (GV.1,GV.2)))))))
noncomputable def uZ (self:(List UInt8)→Option Bool) (n0:Node):Option ((List UInt8)×Int):=g9 (gH self n0) .S
theorem An (self:(List UInt8)→Option Bool) (fQ:∀ (y0:(List UInt8)) (rr:Bool),self y0=some rr→bI Tryz.prog 72 [.val (sV y0)] (.val (.bool rr))) (n0:Node) (r:((List UInt8)×Int)) (h:uZ self n0=some r):bI Tryz.prog 30 [.agg (cNode n0)] (.tuple [.val (sV (r.1)), .val (.int .i64 (r.2))]):=by
 refine bI.aU Tryz.func30 rfl (by simp [Tryz.ntmps30]) ?_
 rw [Tryz.ntmps30,TT.UJ]
 refine QW.view (s':=⟨aG [(0, .d (.agg (cNode n0)))],aj [],0,[]⟩) (View.init (by rfl)) zL ?_
 replace h:=cL h
 obtain ⟨_,h⟩:=h
 obtain ⟨dm,rfl,h9⟩:=aQ h;replace h:=h9;clear h9;rw [gH] at h
 refine sR ?_
 refine XK.fz (some 1) rfl rfl (fl (ds:=cNode n0) rfl rfl rfl rfl cH ?_)
 refine xa 2 (pS ([]:List UInt8)) ?_
 refine xz 3 (pI (0)) ?_
 refine QW.seq ?_
 refine sR ?_
 refine xs 10 rfl (aC (d:= .agg (cNode n0)) rfl TT.dW rfl (⟨by rw [ve.len];decide,congrArg D.agg (List.take_of_length_le (by rw [ve.len];decide))⟩) ?_)
 obtain ⟨x_1,fB,h⟩:=bG h
 refine xs 11 rfl (aA rfl rfl TT.NV rfl (Eg self fQ n0 _ fB) ?_)
 refine xz 4 (pI x_1) ?_
 refine sR ?_
 refine xm 12 (pI x_1) ?_
 refine xs 13 rfl (qA (a:=x_1) (b:=(0:Int)) rfl rfl rfl ?_)
 refine XK.nz ?_
 refine QW.cond (t:=(!decide (x_1=(0:Int)))) rfl zL (fun dU=>?_) (fun dU=>?_)
 ·replace h:=fF h dU
  refine sR ?_
  refine xm 14 (pI x_1) ?_
  refine xa 2 (pS ([]:List UInt8)) ?_
  refine xz 3 (pI x_1) ?_
  refine QW.ret zL (gm ?_)
  obtain rfl:=sG h
  exact Ends.more (.inr rfl) rfl (ps:=[pS ([]:List UInt8),pI x_1]) (And.intro (aI.tmp rfl) (And.intro (aI.tmp rfl) trivial)) rfl rfl
 ·replace h:=fG h dU
  refine QW.skip zL (aX ?_)
  refine sR ?_
  refine xs 16 rfl (aO rfl TT.qL (by decide) rfl ?_)
  refine xs 17 rfl (aC (d:= .slice ((n0.av).map U)) rfl TT.fh rfl (oM _) ?_)
  refine xs 18 rfl (aO rfl TT.qK (by decide) rfl ?_)
  refine xs 19 rfl (aC (d:= .val (.int .i64 (n0.bf))) rfl TT.mW rfl (q8 _) ?_)
  refine xs 20 rfl (eF (a:=(n0.bf)) (b:=(1:Int)) rfl rfl rfl ?_)
  obtain ⟨x_4,kZ,h⟩:=bG h
  refine xs 21 rfl (aA rfl rfl TT.NX rfl (It (n0.av) (decide ((n0.bf)=(1:Int))) _ kZ) ?_)
  refine xm 15 (.d (.tuple [.val (sV (x_4.1)), .val (.int .i64 (x_4.2))])) ?_
  refine xs 22 rfl (bM rfl rfl rfl ?_)
  refine xs 23 rfl (bM rfl rfl rfl ?_)
  refine xa 5 (pS (x_4.1)) ?_
  refine xz 6 (pI (x_4.2)) ?_
  refine QW.seq ?_
  refine sR ?_
  refine xs 24 rfl (aO rfl TT.qK (by decide) rfl ?_)
  refine xs 25 rfl (aC (d:= .val (.int .i64 (n0.bf))) rfl TT.mW rfl (q8 _) ?_)
  refine XK.nz ?_
  refine QW.block ?_
  refine sR ?_
  refine xs 27 rfl (eF (a:=(n0.bf)) (b:=(1:Int)) rfl rfl rfl ?_)
  refine xz 26 (pB (decide ((n0.bf)=(1:Int)))) ?_
  refine QW.cond (t:=(decide ((n0.bf)=(1:Int)))) rfl zL (fun kF=>?_) (fun kF=>?_)
  ·replace h:=fF h kF
   refine QW.seq ?_
   refine QW.region zL (PW.kX (id:=7) dc (M:=_) rfl (by kernel_rfl) ?_)
   refine RQ.st (some 28) rfl rfl (au (v:=pS (x_4.1)) rfl rfl ⟨⟨rfl,rfl⟩,?_⟩)
   obtain ⟨x_7,pR,h⟩:=bG h
   refine RQ.st (some 29) rfl rfl (aA rfl rfl TT.qD rfl (mX (x_4.1) _ pR) ⟨⟨rfl,rfl⟩,?_⟩)
   refine RQ.st (some 30) rfl rfl (aO rfl TT.s5 (by decide) rfl ⟨⟨rfl,rfl⟩,?_⟩)
   refine RQ.st (some 31) rfl rfl (aC (d:= .val (sV (n0.az))) rfl TT.fJ rfl (q9 _) ⟨⟨rfl,rfl⟩,?_⟩)
   obtain ⟨x_9,Ch,h⟩:=bG h
   refine RQ.st (some 32) rfl rfl (aA rfl rfl TT.qD rfl (mX (n0.az) _ Ch) ⟨⟨rfl,rfl⟩,?_⟩)
   refine RQ.st (some 33) rfl rfl (ef (en:=bu) (l:=([x_7,x_9]:List Item)) rfl TT.rN kQ (by first | rfl | (simp only [List.map_cons,List.map_nil,vf];rfl)) rfl (by decide) (by simp [dw,cU,aB,dQ,PV.cz,cx,aG,jA,iU,jX,bU,Value.oneCell']) ⟨⟨rfl,rfl⟩,?_⟩)
   obtain ⟨x_11,pY,h⟩:=bG h
   refine RQ.st (some 34) rfl rfl (aA rfl rfl TT.Cf rfl (xH ([x_7,x_9]:List Item) _ pY) ⟨⟨rfl,rfl⟩,?_⟩)
   obtain ⟨x_13,Ci,h⟩:=bG h
   refine RQ.st (some 35) rfl rfl (aA rfl rfl TT.yW rfl (uX x_11 _ Ci) ⟨⟨rfl,rfl⟩,?_⟩)
   refine RQ.st (some 36) rfl rfl (bM rfl rfl rfl ⟨⟨rfl,rfl⟩,?_⟩)
   refine RQ.st (some 37) rfl rfl (bM rfl rfl rfl ⟨⟨rfl,rfl⟩,?_⟩)
   refine RQ.st (some 2) rfl rfl (cq (v:=pS (x_13.1)) rfl rfl ⟨⟨rfl,rfl⟩,?_⟩)
   refine RQ.st (some 3) rfl rfl (cq (v:=pI (x_13.2)) rfl rfl ⟨⟨rfl,rfl⟩,?_⟩)
   refine RQ.nil (aX ?_)
   refine QW.ret zL (sZ (gm ?_))
   obtain rfl:=sG h
   exact Ends.more (.inr rfl) rfl (ps:=[pS (x_13.1),pI (x_13.2)]) (And.intro (aI.tmp rfl) (And.intro (aI.tmp rfl) trivial)) rfl rfl
  ·replace h:=fG h kF
   refine sR ?_
   refine xs 39 rfl (eF (a:=(n0.bf)) (b:=(2:Int)) rfl rfl rfl ?_)
   refine xz 38 (pB (decide ((n0.bf)=(2:Int)))) ?_
   refine QW.cond (t:=(decide ((n0.bf)=(2:Int)))) rfl zL (fun vO=>?_) (fun vO=>?_)
   ·replace h:=fF h vO
    refine QW.seq ?_
    refine QW.region zL (PW.kX (id:=9) dc (M:=_) rfl (by kernel_rfl) ?_)
    refine RQ.st (some 40) rfl rfl (au (v:=pS (x_4.1)) rfl rfl ⟨⟨rfl,rfl⟩,?_⟩)
    obtain ⟨x_16,GW,h⟩:=bG h
    refine RQ.st (some 41) rfl rfl (aA rfl rfl TT.qD rfl (mX (x_4.1) _ GW) ⟨⟨rfl,rfl⟩,?_⟩)
    refine RQ.st (some 42) rfl rfl (aO rfl TT.mY (by decide) rfl ⟨⟨rfl,rfl⟩,?_⟩)
    refine RQ.st (some 43) rfl rfl (mF (i:=(0:Int)) rfl TT.tV TT.oP rfl rfl (by decide) ⟨⟨rfl,rfl⟩,?_⟩)
    refine RQ.st (some 44) rfl rfl (aC (d:= .val (sV (idx (n0.aR).1 (0:Int)))) rfl TT.fJ rfl (ov (ri _) (by decide)) ⟨⟨rfl,rfl⟩,?_⟩)
    obtain ⟨x_18,xF,h⟩:=bG h
    refine RQ.st (some 45) rfl rfl (aA rfl rfl TT.GN rfl (Am (idx (n0.aR).1 (0:Int)) _ xF) ⟨⟨rfl,rfl⟩,?_⟩)
    refine RQ.st (some 46) rfl rfl (ef (en:=bu) (l:=([x_16,x_18]:List Item)) rfl TT.rN kQ (by first | rfl | (simp only [List.map_cons,List.map_nil,vf];rfl)) rfl (by decide) (by simp [dw,cU,aB,dQ,PV.cz,cx,aG,jA,iU,jX,bU,Value.oneCell']) ⟨⟨rfl,rfl⟩,?_⟩)
    obtain ⟨x_20,yV,h⟩:=bG h
    refine RQ.st (some 47) rfl rfl (aA rfl rfl TT.Cf rfl (xH ([x_16,x_18]:List Item) _ yV) ⟨⟨rfl,rfl⟩,?_⟩)
    obtain ⟨x_22,yX,h⟩:=bG h
    refine RQ.st (some 48) rfl rfl (aA rfl rfl TT.yW rfl (uX x_20 _ yX) ⟨⟨rfl,rfl⟩,?_⟩)
    refine RQ.st (some 49) rfl rfl (bM rfl rfl rfl ⟨⟨rfl,rfl⟩,?_⟩)
    refine RQ.st (some 50) rfl rfl (bM rfl rfl rfl ⟨⟨rfl,rfl⟩,?_⟩)
    refine RQ.st (some 2) rfl rfl (cq (v:=pS (x_22.1)) rfl rfl ⟨⟨rfl,rfl⟩,?_⟩)
    refine RQ.st (some 3) rfl rfl (cq (v:=pI (x_22.2)) rfl rfl ⟨⟨rfl,rfl⟩,?_⟩)
    refine RQ.nil (aX ?_)
    refine QW.ret zL (sZ (gm ?_))
    obtain rfl:=sG h
    exact Ends.more (.inr rfl) rfl (ps:=[pS (x_22.1),pI (x_22.2)]) (And.intro (aI.tmp rfl) (And.intro (aI.tmp rfl) trivial)) rfl rfl
   ·replace h:=fG h vO
    refine QW.skip zL (g6 (aX ?_))
    refine sR ?_
    refine xz 7 (.full (([]:(List Item)).map bu)) ?_
    refine QW.seq ?_
    refine sR ?_
    refine xs 51 rfl (aO rfl TT.mY (by decide) rfl ?_)
    refine xs 52 rfl (aC (d:= .agg ((n0.aR).1.map eS)) rfl TT.Ks rfl (LP _) ?_)
    refine xm 53 (pI (0)) ?_
    refine XK.nz ?_
    refine QW.block ?_
    refine QW.loop (fun k σ=>∃ v7:(List Item),∃ xI:Int,k≤dm∧run (gH self n0) k (.L1 v7 xI)=some r∧σ=⟨aG [(7, .own 0 (v7.map bu)),(52, .d (.agg ((n0.aR).1.map eS))),(53,pI xI)],aj [.spare 3 v7.length],1,[]⟩) dm zL ⟨⟨aG [(7, .own 0 (([]:(List Item)).map bu)),(52, .d (.agg ((n0.aR).1.map eS))),(53,pI (0))],aj [.spare 3 ([]:(List Item)).length],1,[]⟩,View.trans (View.buf 7 3 rfl zL) (View.mk 1 [0] _ _ _ rfl rfl (by decide) (iC (iC (iC trivial))) (And.intro rfl trivial) rfl zL rfl),([]:(List Item)),0,Nat.le_refl _,jG h,rfl⟩ ?_
    rintro aax _ ⟨v7,xI,aay,h,rfl⟩
    obtain ⟨YX,rfl,h9⟩:=aQ h;replace h:=h9;clear h9;rw [gH] at h
    refine sR ?_
    refine xs 54 rfl (cJ (a:=xI) (b:=(16:Int)) rfl rfl rfl ?_)
    refine XK.nz ?_
    refine QW.seq ?_
    refine QW.cond (t:=(decide (xI<(16:Int)))) rfl zL (fun N6=>?_) (fun N6=>?_)
    ·replace h:=fF h N6
     refine QW.skip zL (aX ?_)
     refine QW.seq ?_
     refine QW.block ?_
     refine sR ?_
     obtain ⟨ye,h⟩:=gG h
     refine xs 55 rfl (x5 (a:=n0.aR) (i:=xI) rfl TT.oP rfl rfl ye ?_)
     refine xz 9 (pS (idx (n0.aR).1 xI)) ?_
     refine rG ?_
     refine xm 56 (.own 0 (v7.map bu)) ?_
     refine xm 57 (pS (idx (n0.aR).1 xI)) ?_
     obtain ⟨vN,yU,h⟩:=bG h
     refine xs 58 rfl (aA rfl rfl TT.GN rfl (Am (idx (n0.aR).1 xI) _ yU) ?_)
     refine xs 59 rfl (ef (en:=bu) (l:=([vN]:List Item)) rfl TT.rN kQ (by first | rfl | (simp only [List.map_cons,List.map_nil,vf];rfl)) rfl (by decide) (by simp [dw,cU,aB,dQ,PV.cz,cx,aG,jA,iU,jX,bU,Value.oneCell']) ?_)
     obtain ⟨rz,h⟩:=gG h
     refine xs 60 rfl (iY (en:=bu) (l:=v7) (l2:=([vN]:List Item)) rfl TT.rN TT.q7 rfl kQ rfl rfl rfl rz (by decide) ?_)
     refine xa 7 (.own 1 ((v7++([vN]:List Item)).map bu)) ?_
     refine XK.nil (g6 (aX ?_))
     refine rG ?_
     obtain ⟨zE,h⟩:=gG h
     refine xs 61 rfl (bX (a:=xI) (b:=(1:Int)) rfl rfl rfl zE ?_)
     refine xm 53 (pI (xI+(1:Int))) ?_
     refine XK.nz ?_
     exact ⟨YX,by omega,⟨aG [(7, .own 0 ((v7++([vN]:List Item)).map bu)),(52, .d (.agg ((n0.aR).1.map eS))),(53,pI (xI+(1:Int)))],aj [.spare 3 (v7++([vN]:List Item)).length],1,[]⟩,View.mk 1 [1] _ _ _ rfl rfl (by decide) (iC (iC (iC trivial))) (And.intro rfl trivial) rfl zL rfl,(v7++([vN]:List Item)),(xI+(1:Int)),by omega,jG h,rfl⟩
    ·replace h:=fG h N6
     refine QW.exit zL (eD (eD (j3 (aX ?_))))
     refine sR ?_
     refine xm 62 (.own 0 (v7.map bu)) ?_
     obtain ⟨Jh,Xi,h⟩:=bG h
     refine xs 63 rfl (aA rfl rfl TT.qD rfl (mX ([]:List UInt8) _ Xi) ?_)
     refine xs 64 rfl (ef (en:=bu) (l:=([Jh]:List Item)) rfl TT.rN kQ (by first | rfl | (simp only [List.map_cons,List.map_nil,vf];rfl)) rfl (by decide) (by simp [dw,cU,aB,dQ,PV.cz,cx,aG,jA,iU,jX,bU,Value.oneCell']) ?_)
     obtain ⟨LR,h⟩:=gG h
     refine xs 65 rfl (iY (en:=bu) (l:=v7) (l2:=([Jh]:List Item)) rfl TT.rN TT.q7 rfl kQ rfl rfl rfl LR (by decide) ?_)
     obtain ⟨SU,Kp,h⟩:=bG h
     refine xs 66 rfl (aA rfl rfl TT.Cf rfl (xH (v7++([Jh]:List Item)) _ Kp) ?_)
     obtain ⟨GV,Xj,h⟩:=bG h
     refine xs 67 rfl (aA rfl rfl TT.yW rfl (uX SU _ Xj) ?_)
     refine xs 68 rfl (bM rfl rfl rfl ?_)
     refine xs 69 rfl (bM rfl rfl rfl ?_)
     refine xa 2 (pS (GV.1)) ?_
     refine xz 3 (pI (GV.2)) ?_
     refine QW.ret zL ?_
     obtain rfl:=sG h
     exact Ends.more (.inr rfl) rfl (ps:=[pS (GV.1),pI (GV.2)]) (And.intro (aI.tmp rfl) (And.intro (aI.tmp rfl) trivial)) rfl rfl
inductive E2 where
 | S
 | L2 (ji:Int) (w7:Bool) (w8:(List UInt8)) (ox:(List Item)) (yl:(aE 16 (List UInt8)))
 | J1 (qe:Int) (qf:(List UInt8)) (cT:(List UInt8)) (k6:(aE 16 (List UInt8)))
noncomputable def fM (self:(List UInt8)→Option Bool) (s0:(List UInt8)):E2→Option (E2⊕(Node×Int))
 | .S=>
  ((ku s0).bind fun (x_1:(Item×Int))=>
  (bif (!decide ((x_1.2)=(0:Int))) then
  some (.inr ((⟨0,([]:(List UInt8)),([]:List UInt8),(aE.rep 16 ([]:(List UInt8)))⟩:Node),x_1.2))
  else
  (bif (decide ((((x_1.1).fL).length:Int)=(2:Int))) then
  gO (0≤(0:Int)∧(0:Int)<(((x_1.1).fL).length:Int)) (
  gO (0≤(1:Int)∧(1:Int)<(((x_1.1).fL).length:Int)) (
  ((rS (idx ((x_1.1).fL) (0:Int)) (idx ((x_1.1).fL) (1:Int))).bind fun (x_7:Node)=>
  some (.inl (.J1 (x_7.bf) (x_7.av) (x_7.az) (x_7.aR))))))
  else
  (bif (decide ((((x_1.1).fL).length:Int)=(17:Int))) then
  some (.inl (.L2 (0) ((x_1.1).cF) ((x_1.1).fS) ((x_1.1).fL) (aE.rep 16 ([]:(List UInt8)))))
  else
  some (.inl (.J1 (0) ([]:(List UInt8)) ([]:List UInt8) (aE.rep 16 ([]:(List UInt8)))))))))
 | .L2 ji w7 w8 ox yl=>
  (bif (decide (ji<(16:Int))) then
  gO (0≤ji∧ji<(ox.length:Int)) (
  ((kR (idx ox ji)).bind fun (x_13:(List UInt8))=>
  gO (0≤ji∧ji<((16:Nat):Int)) (
  gO (bw (ji+(1:Int))) (
  some (.inl (.L2 (ji+(1:Int)) w7 w8 ox (yl.put ji x_13)))))))
  else
  ((vL yl).bind fun (x_17:Node)=>
  some (.inl (.J1 (x_17.bf) (x_17.av) (x_17.az) (x_17.aR)))))
 | .J1 qe qf cT k6=>
  ((uZ self (⟨qe,qf,cT,k6⟩:Node)).bind fun (x_20:((List UInt8)×Int))=>
  (bif ((!decide ((x_20.2)=(0:Int)))||(!(x_20.1==s0))) then
  some (.inr ((⟨0,([]:(List UInt8)),([]:List UInt8),(aE.rep 16 ([]:(List UInt8)))⟩:Node),6))
  else
  some (.inr ((⟨qe,qf,cT,k6⟩:Node),0))))
noncomputable def rW (self:(List UInt8)→Option Bool) (s0:(List UInt8)):Option (Node×Int):=g9 (fM self s0) .S
theorem GX (self:(List UInt8)→Option Bool) (fQ:∀ (y0:(List UInt8)) (rr:Bool),self y0=some rr→bI Tryz.prog 72 [.val (sV y0)] (.val (.bool rr))) (s0:(List UInt8)) (r:(Node×Int)) (h:rW self s0=some r):bI Tryz.prog 94 [.val (sV s0)] (.tuple [.agg (cNode (r.1)), .val (.int .i64 (r.2))]):=by
 refine bI.aU Tryz.func94 rfl (by simp [Tryz.ntmps94]) ?_
 rw [Tryz.ntmps94,TT.UU]
 refine QW.view (s':=⟨aG [(0,pS s0)],aj [],0,[]⟩) (View.init (by rfl)) zL ?_
 replace h:=cL h
 obtain ⟨_,h⟩:=h
 obtain ⟨dm,rfl,h9⟩:=aQ h;replace h:=h9;clear h9;rw [fM] at h
 refine sR ?_
 refine xs 2 rfl (bB (l:=(([pI (0), .full (([]:(List UInt8)).map U),pS ([]:List UInt8)])++(((aE.rep 16 ([]:(List UInt8))).1.map eS).map PV.d))) rfl TT.j9 rfl rfl ?_)
 refine xz 3 (pI (0)) ?_
 refine sR ?_
 refine xm 12 (pS s0) ?_
 obtain ⟨x_1,fB,h⟩:=bG h
 refine xs 13 rfl (aA rfl rfl TT.GO rfl (Ah s0 _ fB) ?_)
 refine xm 11 (.d (.tuple [.agg (dA (x_1.1)), .val (.int .i64 (x_1.2))])) ?_
 refine xs 14 rfl (bM rfl rfl rfl ?_)
 refine xs 15 rfl (bM rfl rfl rfl ?_)
 refine xs 4 rfl (bB (l:=[pB false,pS ([]:List UInt8), .full (([]:(List Item)).map bu)]) rfl TT.mj rfl rfl ?_)
 refine XK.st none rfl rfl (bh (l':=[pB ((x_1.1).cF),pS ((x_1.1).fS), .d (.slice (((x_1.1).fL).map bu))]) rfl TT.eC rfl rfl rfl rfl rfl rfl (by simp) rfl ?_)
 refine xz 5 (pI (x_1.2)) ?_
 refine QW.seq ?_
 refine sR ?_
 refine xm 16 (pI (x_1.2)) ?_
 refine xs 17 rfl (qA (a:=(x_1.2)) (b:=(0:Int)) rfl rfl rfl ?_)
 refine XK.nz ?_
 refine QW.cond (t:=(!decide ((x_1.2)=(0:Int)))) rfl zL (fun dU=>?_) (fun dU=>?_)
 ·replace h:=fF h dU
  refine sR ?_
  refine xs 18 rfl (eT (v:= .agg (([pI (0), .full (([]:(List UInt8)).map U),pS ([]:List UInt8)])++(((aE.rep 16 ([]:(List UInt8))).1.map eS).map PV.d))) rfl TT.oQ (dG rfl dF) ?_)
  refine xm 19 (pI (x_1.2)) ?_
  refine XK.st none rfl rfl (bh (c:=(([pI (0), .full (([]:(List UInt8)).map U),pS ([]:List UInt8)])++(((aE.rep 16 ([]:(List UInt8))).1.map eS).map PV.d))) (l':=(([pI (0), .full (([]:(List UInt8)).map U),pS ([]:List UInt8)])++(((aE.rep 16 ([]:(List UInt8))).1.map eS).map PV.d))) rfl TT.dW rfl rfl rfl rfl rfl (aD (A:=[pI (0), .full (([]:(List UInt8)).map U),pS ([]:List UInt8)]) (b:=16) rfl (aq _) rfl) (bW (aD (A:=[pI (0), .full (([]:(List UInt8)).map U),pS ([]:List UInt8)]) (b:=16) rfl (aq _) rfl) bL) (cQ ((aD (A:=[pI (0), .full (([]:(List UInt8)).map U),pS ([]:List UInt8)]) (b:=16) rfl (aq _) rfl).trans (aD (A:=[pI (0), .full (([]:(List UInt8)).map U),pS ([]:List UInt8)]) (b:=16) rfl (aq _) rfl).symm)) ?_)
  refine xz 3 (pI (x_1.2)) ?_
  refine QW.ret zL (gm ?_)
  obtain rfl:=sG h
  exact Ends.more (.inr rfl) rfl (ps:=[.agg (([pI (0), .full (([]:(List UInt8)).map U),pS ([]:List UInt8)])++(((aE.rep 16 ([]:(List UInt8))).1.map eS).map PV.d)),pI (x_1.2)]) (And.intro (aI.cell rfl rfl TT.dW (fP (aD (A:=[pI (0), .full (([]:(List UInt8)).map U),pS ([]:List UInt8)]) (b:=16) rfl (aq _) rfl) (Nat.succ_pos _))) (And.intro (aI.tmp rfl) trivial)) (by simp only [PV.dj,PV.ej,iJ,cH,Option.bind_some,Option.map_some,cNode]<;>rfl) rfl
 ·replace h:=fG h dU
  refine QW.skip zL (aX ?_)
  refine sR ?_
  refine xs 6 rfl (bB (l:=(([pI (0), .full (([]:(List UInt8)).map U),pS ([]:List UInt8)])++(((aE.rep 16 ([]:(List UInt8))).1.map eS).map PV.d))) rfl TT.j9 rfl rfl ?_)
  refine XK.nz ?_
  refine QW.qY (fun s'=>∃ qe:Int,∃ qf:(List UInt8),∃ cT:(List UInt8),∃ k6:(aE 16 (List UInt8)),∃ k:Nat,k≤dm∧run (fM self s0) k (.J1 qe qf cT k6)=some r∧s'=⟨aG [(0,pS s0),(2, .aF 0 0),(6, .aF 1 0)],aj [.var (([pI (0), .full (([]:(List UInt8)).map U),pS ([]:List UInt8)])++(((aE.rep 16 ([]:(List UInt8))).1.map eS).map PV.d)), .var (([pI qe, .d (.slice (qf.map U)),pS cT])++((k6.1.map eS).map PV.d))],2,[]⟩) ?_ ?_
  ·refine sR ?_
   refine xs 20 rfl (gF rfl TT.mV (by decide) rfl ?_)
   refine xs 21 rfl (bD (v:= .d (.slice (((x_1.1).fL).map bu))) rfl TT.tv rfl rfl ⟨⟨by simp,by simp⟩,rfl⟩ ?_)
   refine xs 22 rfl (cM (en:=bu) (l:=(x_1.1).fL) rfl TT.q7 rfl ?_)
   refine XK.nz ?_
   refine QW.block ?_
   refine sR ?_
   refine xs 24 rfl (eF (a:=(((x_1.1).fL).length:Int)) (b:=(2:Int)) rfl rfl rfl ?_)
   refine xz 23 (pB (decide ((((x_1.1).fL).length:Int)=(2:Int)))) ?_
   refine QW.cond (t:=(decide ((((x_1.1).fL).length:Int)=(2:Int)))) rfl zL (fun jb=>?_) (fun jb=>?_)
   ·replace h:=fF h jb
    refine QW.region zL (PW.rL (id:=7) dc (M:=_) rfl (by kernel_rfl) ?_)
    refine RK.st (some 25) rfl rfl (gF rfl TT.mV (by decide) rfl ?_)
    refine RK.st (some 26) rfl rfl (bD (v:= .d (.slice (((x_1.1).fL).map bu))) rfl TT.tv rfl rfl ⟨⟨by simp,by simp⟩,rfl⟩ ?_)
    obtain ⟨nU,h⟩:=gG h
    refine RK.st (some 27) rfl rfl (bC (l:=(x_1.1).fL) (i:=(0:Int)) rfl TT.Ac kQ rfl rfl nU ?_)
    refine RK.st (some 28) rfl rfl (aC (d:= .agg (dA (idx ((x_1.1).fL) (0:Int)))) rfl TT.eC rfl (⟨by simp [dA],rfl⟩) ?_)
    refine RK.st (some 29) rfl rfl (gF rfl TT.mV (by decide) rfl ?_)
    refine RK.st (some 30) rfl rfl (bD (v:= .d (.slice (((x_1.1).fL).map bu))) rfl TT.tv rfl rfl ⟨⟨by simp,by simp⟩,rfl⟩ ?_)
    obtain ⟨mJ,h⟩:=gG h
    refine RK.st (some 31) rfl rfl (bC (l:=(x_1.1).fL) (i:=(1:Int)) rfl TT.Ac kQ rfl rfl mJ ?_)
    refine RK.st (some 32) rfl rfl (aC (d:= .agg (dA (idx ((x_1.1).fL) (1:Int)))) rfl TT.eC rfl (⟨by simp [dA],rfl⟩) ?_)
    obtain ⟨x_7,pR,h⟩:=bG h
    refine RK.st (some 33) rfl rfl (aA rfl rfl TT.LV rfl (GS (idx ((x_1.1).fL) (0:Int)) (idx ((x_1.1).fL) (1:Int)) _ pR) ?_)
    refine RK.st none rfl rfl (bh (c:=(([pI (x_7.bf), .d (.slice ((x_7.av).map U)),pS (x_7.az)])++(((x_7.aR).1.map eS).map PV.d))) (l':=(([pI (x_7.bf), .d (.slice ((x_7.av).map U)),pS (x_7.az)])++(((x_7.aR).1.map eS).map PV.d))) rfl TT.dW rfl rfl rfl rfl (show (cNode x_7).map PV.d=_ by simp only [cNode,List.map_append];rfl) (aD (A:=[pI (x_7.bf), .d (.slice ((x_7.av).map U)),pS (x_7.az)]) (b:=16) rfl (aq _) rfl) (bW (aD (A:=[pI (0), .full (([]:(List UInt8)).map U),pS ([]:List UInt8)]) (b:=16) rfl (aq _) rfl) bL) (cQ ((aD (A:=[pI (0), .full (([]:(List UInt8)).map U),pS ([]:List UInt8)]) (b:=16) rfl (aq _) rfl).trans (aD (A:=[pI (x_7.bf), .d (.slice ((x_7.av).map U)),pS (x_7.az)]) (b:=16) rfl (aq _) rfl).symm)) ?_)
    refine RK.nil ⟨fT.comp (by rfl),(g6 (aX ?_))⟩
    exact ⟨⟨aG [(0,pS s0),(2, .aF 0 0),(6, .aF 1 0)],aj [.var (([pI (0), .full (([]:(List UInt8)).map U),pS ([]:List UInt8)])++(((aE.rep 16 ([]:(List UInt8))).1.map eS).map PV.d)), .var (([pI (x_7.bf), .d (.slice ((x_7.av).map U)),pS (x_7.az)])++(((x_7.aR).1.map eS).map PV.d))],2,[]⟩,View.mk 2 [0,2] _ _ _ rfl rfl (by decide) (iC (iC (iC trivial))) (And.intro (by simp only [cv,eZ,PV.bK];rfl) (And.intro (by simp only [cv,eZ,PV.bK];rfl) trivial)) rfl zL rfl,x_7.bf,x_7.av,x_7.az,x_7.aR,dm,by omega,jG h,rfl⟩
   ·replace h:=fG h jb
    refine sR ?_
    refine xs 35 rfl (eF (a:=(((x_1.1).fL).length:Int)) (b:=(17:Int)) rfl rfl rfl ?_)
    refine xz 34 (pB (decide ((((x_1.1).fL).length:Int)=(17:Int)))) ?_
    refine QW.cond (t:=(decide ((((x_1.1).fL).length:Int)=(17:Int)))) rfl zL (fun rX=>?_) (fun rX=>?_)
    ·replace h:=fF h rX
     refine sR ?_
     refine xs 7 rfl (bB (l:=(((aE.rep 16 ([]:(List UInt8))).1.map eS).map .d)) rfl TT.Qk rfl rfl ?_)
     refine XK.nz ?_
     refine QW.seq ?_
     refine sR ?_
     refine xm 36 (pI (0)) ?_
     refine XK.nz ?_
     refine QW.block ?_
     refine QW.loop (fun k σ=>∃ ji:Int,∃ w7:Bool,∃ w8:(List UInt8),∃ ox:(List Item),∃ yl:(aE 16 (List UInt8)),k≤dm∧run (fM self s0) k (.L2 ji w7 w8 ox yl)=some r∧σ=⟨aG [(0,pS s0),(2, .aF 0 0),(4, .aF 1 0),(6, .aF 2 0),(7, .aF 3 0),(36,pI ji)],aj [.var (([pI (0), .full (([]:(List UInt8)).map U),pS ([]:List UInt8)])++(((aE.rep 16 ([]:(List UInt8))).1.map eS).map PV.d)), .var [pB w7,pS w8, .d (.slice (ox.map bu))], .var (([pI (0), .full (([]:(List UInt8)).map U),pS ([]:List UInt8)])++(((aE.rep 16 ([]:(List UInt8))).1.map eS).map PV.d)), .var ((yl.1.map eS).map .d)],4,[]⟩) dm zL ⟨⟨aG [(0,pS s0),(2, .aF 0 0),(4, .aF 1 0),(6, .aF 2 0),(7, .aF 3 0),(36,pI (0))],aj [.var (([pI (0), .full (([]:(List UInt8)).map U),pS ([]:List UInt8)])++(((aE.rep 16 ([]:(List UInt8))).1.map eS).map PV.d)), .var [pB ((x_1.1).cF),pS ((x_1.1).fS), .d (.slice (((x_1.1).fL).map bu))], .var (([pI (0), .full (([]:(List UInt8)).map U),pS ([]:List UInt8)])++(((aE.rep 16 ([]:(List UInt8))).1.map eS).map PV.d)), .var (((aE.rep 16 ([]:(List UInt8))).1.map eS).map .d)],4,[]⟩,View.mk 4 [0,1,2,3] _ _ _ rfl rfl (by decide) (iC (iC (iC (iC (iC (iC trivial)))))) (And.intro (by simp only [cv,eZ,PV.bK];rfl) (And.intro rfl (And.intro (by simp only [cv,eZ,PV.bK];rfl) (And.intro (by simp only [cv,bq,PV.bK];rfl) trivial)))) rfl zL rfl,0,(x_1.1).cF,(x_1.1).fS,(x_1.1).fL,(aE.rep 16 ([]:(List UInt8))),Nat.le_refl _,jG h,rfl⟩ ?_
     rintro Xk _ ⟨ji,w7,w8,ox,yl,Xl,h,rfl⟩
     obtain ⟨L6,rfl,h9⟩:=aQ h;replace h:=h9;clear h9;rw [fM] at h
     refine sR ?_
     refine xs 37 rfl (cJ (a:=ji) (b:=(16:Int)) rfl rfl rfl ?_)
     refine XK.nz ?_
     refine QW.seq ?_
     refine QW.cond (t:=(decide (ji<(16:Int)))) rfl zL (fun vM=>?_) (fun vM=>?_)
     ·replace h:=fF h vM
      refine QW.skip zL (aX ?_)
      refine QW.seq ?_
      refine QW.block ?_
      refine sR ?_
      refine xm 38 (pI ji) ?_
      refine xz 8 (pI ji) ?_
      refine rG ?_
      refine xm 39 (pI ji) ?_
      refine xs 40 rfl (gF rfl TT.mV (by decide) rfl ?_)
      refine xs 41 rfl (bD (v:= .d (.slice (ox.map bu))) rfl TT.tv rfl rfl ⟨⟨by simp,by simp⟩,rfl⟩ ?_)
      refine xm 42 (pI ji) ?_
      obtain ⟨m5,h⟩:=gG h
      refine xs 43 rfl (bC (l:=ox) (i:=ji) rfl TT.Ac kQ rfl rfl m5 ?_)
      refine xs 44 rfl (aC (d:= .agg (dA (idx ox ji))) rfl TT.eC rfl (⟨by simp [dA],rfl⟩) ?_)
      obtain ⟨x_13,Ci,h⟩:=bG h
      refine xs 45 rfl (aA rfl rfl TT.E0 rfl (uG (idx ox ji) _ Ci) ?_)
      obtain ⟨tR,h⟩:=gG h
      refine xs 46 rfl (cV (i:=ji) rfl TT.tV TT.oP rfl rfl tR ?_)
      refine XK.st none rfl rfl (bh (l':=(((yl.put ji x_13).1.map eS).map .d)) rfl TT.fJ rfl rfl rfl rfl rfl rfl (rM tR) (p9 tR) ?_)
      refine XK.nil (g6 (aX ?_))
      refine rG ?_
      obtain ⟨oR,h⟩:=gG h
      refine xs 47 rfl (bX (a:=ji) (b:=(1:Int)) rfl rfl rfl oR ?_)
      refine xm 36 (pI (ji+(1:Int))) ?_
      refine XK.nz ?_
      exact ⟨L6,by omega,⟨aG [(0,pS s0),(2, .aF 0 0),(4, .aF 1 0),(6, .aF 2 0),(7, .aF 3 0),(36,pI (ji+(1:Int)))],aj [.var (([pI (0), .full (([]:(List UInt8)).map U),pS ([]:List UInt8)])++(((aE.rep 16 ([]:(List UInt8))).1.map eS).map PV.d)), .var [pB w7,pS w8, .d (.slice (ox.map bu))], .var (([pI (0), .full (([]:(List UInt8)).map U),pS ([]:List UInt8)])++(((aE.rep 16 ([]:(List UInt8))).1.map eS).map PV.d)), .var (((yl.put ji x_13).1.map eS).map .d)],4,[]⟩,View.mk 4 [0,1,2,3] _ _ _ rfl rfl (by decide) (iC (iC (iC (iC (iC (iC trivial)))))) (And.intro (by simp only [cv,eZ,PV.bK];rfl) (And.intro rfl (And.intro (by simp only [cv,eZ,PV.bK];rfl) (And.intro (by simp only [cv,bq,PV.bK];rfl) trivial)))) rfl zL rfl,(ji+(1:Int)),w7,w8,ox,(yl.put ji x_13),by omega,jG h,rfl⟩
     ·replace h:=fG h vM
      refine QW.exit zL (eD (eD (j3 (aX ?_))))
      refine rG ?_
      refine XK.as (some 48) rfl rfl (bD (v:= .agg ((yl.1.map eS).map .d)) rfl TT.Ks rfl rfl (ju (by decide)) ⟨.d (.agg (yl.1.map eS)),gV,?_⟩)
      obtain ⟨x_17,Cj,h⟩:=bG h
      refine xs 49 rfl (aA rfl rfl TT.LW rfl (Ee yl _ Cj) ?_)
      refine XK.st none rfl rfl (bh (c:=(([pI (x_17.bf), .d (.slice ((x_17.av).map U)),pS (x_17.az)])++(((x_17.aR).1.map eS).map PV.d))) (l':=(([pI (x_17.bf), .d (.slice ((x_17.av).map U)),pS (x_17.az)])++(((x_17.aR).1.map eS).map PV.d))) rfl TT.dW rfl rfl rfl rfl (show (cNode x_17).map PV.d=_ by simp only [cNode,List.map_append];rfl) (aD (A:=[pI (x_17.bf), .d (.slice ((x_17.av).map U)),pS (x_17.az)]) (b:=16) rfl (aq _) rfl) (bW (aD (A:=[pI (0), .full (([]:(List UInt8)).map U),pS ([]:List UInt8)]) (b:=16) rfl (aq _) rfl) bL) (cQ ((aD (A:=[pI (0), .full (([]:(List UInt8)).map U),pS ([]:List UInt8)]) (b:=16) rfl (aq _) rfl).trans (aD (A:=[pI (x_17.bf), .d (.slice ((x_17.av).map U)),pS (x_17.az)]) (b:=16) rfl (aq _) rfl).symm)) ?_)
      refine XK.nil (g6 (aX ?_))
      exact ⟨⟨aG [(0,pS s0),(2, .aF 0 0),(6, .aF 1 0)],aj [.var (([pI (0), .full (([]:(List UInt8)).map U),pS ([]:List UInt8)])++(((aE.rep 16 ([]:(List UInt8))).1.map eS).map PV.d)), .var (([pI (x_17.bf), .d (.slice ((x_17.av).map U)),pS (x_17.az)])++(((x_17.aR).1.map eS).map PV.d))],2,[]⟩,View.mk 2 [0,2] _ _ _ rfl rfl (by decide) (iC (iC (iC trivial))) (And.intro (by simp only [cv,eZ,PV.bK];rfl) (And.intro (by simp only [cv,eZ,PV.bK];rfl) trivial)) rfl zL rfl,x_17.bf,x_17.av,x_17.az,x_17.aR,L6,by omega,jG h,rfl⟩
    ·replace h:=fG h rX
     refine QW.skip zL (g6 (aX ?_))
     exact ⟨⟨aG [(0,pS s0),(2, .aF 0 0),(6, .aF 1 0)],aj [.var (([pI (0), .full (([]:(List UInt8)).map U),pS ([]:List UInt8)])++(((aE.rep 16 ([]:(List UInt8))).1.map eS).map PV.d)), .var (([pI (0), .d (.slice (([]:(List UInt8)).map U)),pS ([]:List UInt8)])++(((aE.rep 16 ([]:(List UInt8))).1.map eS).map PV.d))],2,[]⟩,View.trans (View.R8 2 1 rfl (I8 rfl) rfl (I9 bL rfl) zL) (View.mk 2 [0,2] _ _ _ rfl rfl (by decide) (iC (iC (iC trivial))) (And.intro (by simp only [cv,eZ,PV.bK];rfl) (And.intro (by simp only [cv,eZ,PV.bK];rfl) trivial)) rfl zL rfl),0,([]:(List UInt8)),([]:List UInt8),(aE.rep 16 ([]:(List UInt8))),dm,by omega,jG h,rfl⟩
  ·rintro _ ⟨qe,qf,cT,k6,Xm,Xn,h,rfl⟩
   obtain ⟨SV,rfl,h9⟩:=aQ h;replace h:=h9;clear h9;rw [fM] at h
   refine QW.seq ?_
   refine sR ?_
   refine XK.as (some 51) rfl rfl (bD (v:= .agg (([pI qe, .d (.slice (qf.map U)),pS cT])++((k6.1.map eS).map PV.d))) rfl TT.dW rfl rfl (fP (aD (A:=[pI qe, .d (.slice (qf.map U)),pS cT]) (b:=16) rfl (aq _) rfl) (Nat.succ_pos _)) ⟨.d (.agg (cNode (⟨qe,qf,cT,k6⟩:Node))),(iH.dj (oK (mh rfl cH))),?_⟩)
   obtain ⟨x_20,yV,h⟩:=bG h
   refine xs 52 rfl (aA rfl rfl TT.GM rfl (An self fQ (⟨qe,qf,cT,k6⟩:Node) _ yV) ?_)
   refine xm 50 (.d (.tuple [.val (sV (x_20.1)), .val (.int .i64 (x_20.2))])) ?_
   refine xs 53 rfl (bM rfl rfl rfl ?_)
   refine xs 54 rfl (bM rfl rfl rfl ?_)
   refine xa 9 (pS (x_20.1)) ?_
   refine xz 10 (pI (x_20.2)) ?_
   refine sR ?_
   refine xm 55 (pI (x_20.2)) ?_
   refine xs 56 rfl (qA (a:=(x_20.2)) (b:=(0:Int)) rfl rfl rfl ?_)
   refine xm 57 (pB (!decide ((x_20.2)=(0:Int)))) ?_
   refine xg 58 (pS (x_20.1)) rfl rfl (fun hg=>au (v:=pS (x_20.1)) rfl rfl g3) ?_
   refine xg 59 (pS s0) rfl rfl (fun hg=>au (v:=pS s0) rfl rfl g3) ?_
   refine xg 60 (pB (!(x_20.1==s0))) rfl rfl (fun hg=>yO (a:=x_20.1) (b:=s0) rfl rfl rfl g3) ?_
   refine xs 61 rfl (jt rfl rfl rfl rfl (fun _=>rfl) (fun hb=>by rw [hb];rfl) ?_)
   refine XK.nz ?_
   refine QW.cond (t:=((!decide ((x_20.2)=(0:Int)))||(!(x_20.1==s0)))) rfl zL (fun Ck=>?_) (fun Ck=>?_)
   ·replace h:=fF h Ck
    refine sR ?_
    refine xs 62 rfl (eT (v:= .agg (([pI (0), .full (([]:(List UInt8)).map U),pS ([]:List UInt8)])++(((aE.rep 16 ([]:(List UInt8))).1.map eS).map PV.d))) rfl TT.oQ (dG rfl dF) ?_)
    refine XK.st none rfl rfl (bh (c:=(([pI (0), .full (([]:(List UInt8)).map U),pS ([]:List UInt8)])++(((aE.rep 16 ([]:(List UInt8))).1.map eS).map PV.d))) (l':=(([pI (0), .full (([]:(List UInt8)).map U),pS ([]:List UInt8)])++(((aE.rep 16 ([]:(List UInt8))).1.map eS).map PV.d))) rfl TT.dW rfl rfl rfl rfl rfl (aD (A:=[pI (0), .full (([]:(List UInt8)).map U),pS ([]:List UInt8)]) (b:=16) rfl (aq _) rfl) (bW (aD (A:=[pI (0), .full (([]:(List UInt8)).map U),pS ([]:List UInt8)]) (b:=16) rfl (aq _) rfl) bL) (cQ ((aD (A:=[pI (0), .full (([]:(List UInt8)).map U),pS ([]:List UInt8)]) (b:=16) rfl (aq _) rfl).trans (aD (A:=[pI (0), .full (([]:(List UInt8)).map U),pS ([]:List UInt8)]) (b:=16) rfl (aq _) rfl).symm)) ?_)
    refine xz 3 (pI (6)) ?_
    refine QW.ret zL (gm ?_)
    obtain rfl:=sG h
    exact Ends.more (.inr rfl) rfl (ps:=[.agg (([pI (0), .full (([]:(List UInt8)).map U),pS ([]:List UInt8)])++(((aE.rep 16 ([]:(List UInt8))).1.map eS).map PV.d)),pI (6)]) (And.intro (aI.cell rfl rfl TT.dW (fP (aD (A:=[pI (0), .full (([]:(List UInt8)).map U),pS ([]:List UInt8)]) (b:=16) rfl (aq _) rfl) (Nat.succ_pos _))) (And.intro (aI.tmp rfl) trivial)) (by simp only [PV.dj,PV.ej,iJ,cH,Option.bind_some,Option.map_some,cNode]<;>rfl) rfl
   ·replace h:=fG h Ck
    refine QW.skip zL (aX ?_)
    refine sR ?_
    refine XK.as (some 63) rfl rfl (bD (v:= .agg (([pI qe, .d (.slice (qf.map U)),pS cT])++((k6.1.map eS).map PV.d))) rfl TT.dW rfl rfl (fP (aD (A:=[pI qe, .d (.slice (qf.map U)),pS cT]) (b:=16) rfl (aq _) rfl) (Nat.succ_pos _)) ⟨.d (.agg (cNode (⟨qe,qf,cT,k6⟩:Node))),(iH.dj (oK (mh rfl cH))),?_⟩)
    refine XK.st none rfl rfl (bh (c:=(([pI qe, .d (.slice (qf.map U)),pS cT])++((k6.1.map eS).map PV.d))) (l':=(([pI qe, .d (.slice (qf.map U)),pS cT])++((k6.1.map eS).map PV.d))) rfl TT.dW rfl rfl rfl rfl (show (cNode (⟨qe,qf,cT,k6⟩:Node)).map PV.d=_ by simp only [cNode,List.map_append];rfl) (aD (A:=[pI qe, .d (.slice (qf.map U)),pS cT]) (b:=16) rfl (aq _) rfl) (bW (aD (A:=[pI (0), .full (([]:(List UInt8)).map U),pS ([]:List UInt8)]) (b:=16) rfl (aq _) rfl) bL) (cQ ((aD (A:=[pI (0), .full (([]:(List UInt8)).map U),pS ([]:List UInt8)]) (b:=16) rfl (aq _) rfl).trans (aD (A:=[pI qe, .d (.slice (qf.map U)),pS cT]) (b:=16) rfl (aq _) rfl).symm)) ?_)
    refine xz 3 (pI (0)) ?_
    refine QW.ret zL ?_
    obtain rfl:=sG h
    exact Ends.more (.inr rfl) rfl (ps:=[.agg (([pI qe, .d (.slice (qf.map U)),pS cT])++((k6.1.map eS).map PV.d)),pI (0)]) (And.intro (aI.cell rfl rfl TT.dW (fP (aD (A:=[pI qe, .d (.slice (qf.map U)),pS cT]) (b:=16) rfl (aq _) rfl) (Nat.succ_pos _))) (And.intro (aI.tmp rfl) trivial)) (by simp only [PV.dj,PV.ej,iJ,cH,Option.bind_some,Option.map_some,cNode]<;>rfl) rfl
noncomputable def eP (self:(List UInt8)→Option Bool) (s0:(List UInt8)):Option Bool:=
  (bif ((s0==([]:List UInt8))||(decide ((s0.length:Int)=(32:Int)))) then
  some true
  else
  ((rW self s0).bind fun (x_2:(Node×Int))=>
  some ((decide ((s0.length:Int)<(32:Int)))&&(decide ((x_2.2)=(0:Int))))))
theorem Ao (self:(List UInt8)→Option Bool) (fQ:∀ (y0:(List UInt8)) (rr:Bool),self y0=some rr→bI Tryz.prog 72 [.val (sV y0)] (.val (.bool rr))) (s0:(List UInt8)) (r:Bool) (h:eP self s0=some r):bI Tryz.prog 72 [.val (sV s0)] (.val (.bool r)):=by
 refine bI.aU Tryz.func72 rfl (by simp [Tryz.ntmps72]) ?_
 rw [Tryz.ntmps72,TT.UO]
 refine QW.view (s':=⟨aG [(0,pS s0)],aj [],0,[]⟩) (View.init (by rfl)) zL ?_
 unfold eP at h
 refine sR ?_
 refine xz 2 (pB false) ?_
 refine QW.seq ?_
 refine sR ?_
 refine xm 5 (pS s0) ?_
 refine xs 6 rfl (nR (a:=s0) (b:=([]:List UInt8)) rfl rfl rfl ?_)
 refine xm 7 (pB (s0==([]:List UInt8))) ?_
 refine xg 8 (pS s0) rfl rfl (fun hg=>au (v:=pS s0) rfl rfl g3) ?_
 refine xg 9 (pI (s0.length:Int)) rfl rfl (fun hg=>gE (l:=s0) rfl TT.bY rfl g3) ?_
 refine xg 10 (pB (decide ((s0.length:Int)=(32:Int)))) rfl rfl (fun hg=>eF (a:=(s0.length:Int)) (b:=(32:Int)) rfl rfl rfl g3) ?_
 refine xs 11 rfl (jt rfl rfl rfl rfl (fun _=>rfl) (fun hb=>by rw [hb];rfl) ?_)
 refine XK.nz ?_
 refine QW.cond (t:=((s0==([]:List UInt8))||(decide ((s0.length:Int)=(32:Int))))) rfl zL (fun dh=>?_) (fun dh=>?_)
 ·replace h:=bT h dh
  refine sR ?_
  refine xz 2 (pB true) ?_
  refine QW.ret zL (gm ?_)
  obtain rfl:=sO h
  exact Ends.one (.inr rfl) rfl (aI.tmp rfl) rfl rfl
 ·replace h:=bF h dh
  refine QW.skip zL (aX ?_)
  refine sR ?_
  refine xm 13 (pS s0) ?_
  obtain ⟨x_2,nI,h⟩:=bO h
  refine xs 14 rfl (aA rfl rfl TT.N5 rfl (GX self fQ s0 _ nI) ?_)
  refine xm 12 (.d (.tuple [.agg (cNode (x_2.1)), .val (.int .i64 (x_2.2))])) ?_
  refine xs 15 rfl (bM rfl rfl rfl ?_)
  refine xs 16 rfl (bM rfl rfl rfl ?_)
  refine xs 3 rfl (bB (l:=(([pI (0), .full (([]:(List UInt8)).map U),pS ([]:List UInt8)])++(((aE.rep 16 ([]:(List UInt8))).1.map eS).map PV.d))) rfl TT.j9 rfl rfl ?_)
  refine XK.st none rfl rfl (bh (c:=(([pI ((x_2.1).bf), .d (.slice (((x_2.1).av).map U)),pS ((x_2.1).az)])++((((x_2.1).aR).1.map eS).map PV.d))) (l':=(([pI ((x_2.1).bf), .d (.slice (((x_2.1).av).map U)),pS ((x_2.1).az)])++((((x_2.1).aR).1.map eS).map PV.d))) rfl TT.dW rfl rfl rfl rfl (show (cNode (x_2.1)).map PV.d=_ by simp only [cNode,List.map_append];rfl) (aD (A:=[pI ((x_2.1).bf), .d (.slice (((x_2.1).av).map U)),pS ((x_2.1).az)]) (b:=16) rfl (aq _) rfl) (bW (aD (A:=[pI (0), .full (([]:(List UInt8)).map U),pS ([]:List UInt8)]) (b:=16) rfl (aq _) rfl) bL) (cQ ((aD (A:=[pI (0), .full (([]:(List UInt8)).map U),pS ([]:List UInt8)]) (b:=16) rfl (aq _) rfl).trans (aD (A:=[pI ((x_2.1).bf), .d (.slice (((x_2.1).av).map U)),pS ((x_2.1).az)]) (b:=16) rfl (aq _) rfl).symm)) ?_)
  refine xz 4 (pI (x_2.2)) ?_
  refine sR ?_
  refine xm 17 (pS s0) ?_
  refine xs 18 rfl (gE (l:=s0) rfl TT.bY rfl ?_)
  refine xs 19 rfl (cJ (a:=(s0.length:Int)) (b:=(32:Int)) rfl rfl rfl ?_)
  refine xm 20 (pB (decide ((s0.length:Int)<(32:Int)))) ?_
  refine xg 21 (pI (x_2.2)) rfl rfl (fun hg=>au (v:=pI (x_2.2)) rfl rfl g3) ?_
  refine xg 22 (pB (decide ((x_2.2)=(0:Int)))) rfl rfl (fun hg=>eF (a:=(x_2.2)) (b:=(0:Int)) rfl rfl rfl g3) ?_
  refine xs 23 rfl (fu rfl rfl rfl rfl (fun hb=>by rw [hb];rfl) (fun _=>rfl) ?_)
  refine xz 2 (pB ((decide ((s0.length:Int)<(32:Int)))&&(decide ((x_2.2)=(0:Int))))) ?_
  refine QW.ret zL ?_
  obtain rfl:=sO h
  exact Ends.one (.inr rfl) rfl (aI.tmp rfl) rfl rfl
noncomputable def dY:Nat→(List UInt8)→Option Bool
 | 0=>fun _=>none
 | n+1=>fun y0=>eP (dY n) y0
theorem tY:∀ (n:Nat) (y0:(List UInt8)) (rr:Bool),dY n y0=some rr→bI Tryz.prog 72 [.val (sV y0)] (.val (.bool rr))
 | 0,_,_,h=>by cases h
 | n+1,y0,rr,h=>Ao (dY n) (tY n) y0 rr h
noncomputable def mL (y0:(List UInt8)):Option Bool:=wX (fun n=>dY n y0)
theorem Bs (y0:(List UInt8)) (rr:Bool) (h:mL y0=some rr):bI Tryz.prog 72 [.val (sV y0)] (.val (.bool rr)):=by
 obtain ⟨n,hn⟩:=oe h
 exact tY n y0 rr hn
noncomputable def Ap (n0:Node):Option ((List UInt8)×Int):=uZ mL n0
theorem Iv (n0:Node) (r:((List UInt8)×Int)) (h:Ap n0=some r):bI Tryz.prog 30 [.agg (cNode n0)] (.tuple [.val (sV (r.1)), .val (.int .i64 (r.2))]):=An mL Bs n0 r h
end Go.Proofs.YtlfjfoknbjcncaaGreat.K
namespace Go.Proofs.YtlfjfoknbjcncaaGreat.K
open Go Go.RowKit
set_option linter.unusedSimpArgs false
set_option linter.unusedVariables false
set_option maxRecDepth 20000
set_option maxHeartbeats 4000000
namespace TT
theorem Ji:mw Tryz.prog 110=some (32,1,false):=by kernel_rfl
theorem fV:mw Tryz.prog 132=some (8,1,false):=by kernel_rfl
theorem rB:mw Tryz.prog 152=some (64,1,false):=by kernel_rfl
theorem Jj:mw Tryz.prog 161=some (8,1,false):=by kernel_rfl
theorem A6:p8 Tryz.prog 132=some ([Value.int IntKind.u32 0,Value.int IntKind.u32 0,Value.int IntKind.u32 0,Value.int IntKind.u32 0,Value.int IntKind.u32 0,Value.int IntKind.u32 0,Value.int IntKind.u32 0,Value.int IntKind.u32 0], .inr 1):=by kernel_rfl
theorem Jk:p8 Tryz.prog 152=some ([Value.int IntKind.u32 0,Value.int IntKind.u32 0,Value.int IntKind.u32 0,Value.int IntKind.u32 0,Value.int IntKind.u32 0,Value.int IntKind.u32 0,Value.int IntKind.u32 0,Value.int IntKind.u32 0,Value.int IntKind.u32 0,Value.int IntKind.u32 0,Value.int IntKind.u32 0,Value.int IntKind.u32 0,Value.int IntKind.u32 0,Value.int IntKind.u32 0,Value.int IntKind.u32 0,Value.int IntKind.u32 0,Value.int IntKind.u32 0,Value.int IntKind.u32 0,Value.int IntKind.u32 0,Value.int IntKind.u32 0,Value.int IntKind.u32 0,Value.int IntKind.u32 0,Value.int IntKind.u32 0,Value.int IntKind.u32 0,Value.int IntKind.u32 0,Value.int IntKind.u32 0,Value.int IntKind.u32 0,Value.int IntKind.u32 0,Value.int IntKind.u32 0,Value.int IntKind.u32 0,Value.int IntKind.u32 0,Value.int IntKind.u32 0,Value.int IntKind.u32 0,Value.int IntKind.u32 0,Value.int IntKind.u32 0,Value.int IntKind.u32 0,Value.int IntKind.u32 0,Value.int IntKind.u32 0,Value.int IntKind.u32 0,Value.int IntKind.u32 0,Value.int IntKind.u32 0,Value.int IntKind.u32 0,Value.int IntKind.u32 0,Value.int IntKind.u32 0,Value.int IntKind.u32 0,Value.int IntKind.u32 0,Value.int IntKind.u32 0,Value.int IntKind.u32 0,Value.int IntKind.u32 0,Value.int IntKind.u32 0,Value.int IntKind.u32 0,Value.int IntKind.u32 0,Value.int IntKind.u32 0,Value.int IntKind.u32 0,Value.int IntKind.u32 0,Value.int IntKind.u32 0,Value.int IntKind.u32 0,Value.int IntKind.u32 0,Value.int IntKind.u32 0,Value.int IntKind.u32 0,Value.int IntKind.u32 0,Value.int IntKind.u32 0,Value.int IntKind.u32 0,Value.int IntKind.u32 0], .inr 1):=by kernel_rfl
theorem L7:aP Tryz.prog 102=true:=by kernel_rfl
theorem L8:aP Tryz.prog 103=true:=by kernel_rfl
theorem L9:aP Tryz.prog 104=true:=by kernel_rfl
theorem w9:aP Tryz.prog 105=true:=by kernel_rfl
theorem Ma:aP Tryz.prog 111=true:=by kernel_rfl
theorem tZ:aP Tryz.prog 112=true:=by kernel_rfl
theorem Mb:aP Tryz.prog 113=true:=by kernel_rfl
theorem N7:aP Tryz.prog 63=true:=by kernel_rfl
theorem N8:aP Tryz.prog 64=true:=by kernel_rfl
theorem N9:aP Tryz.prog 87=true:=by kernel_rfl
theorem Oa:aP Tryz.prog 88=true:=by kernel_rfl
theorem Ob:aP Tryz.prog 89=true:=by kernel_rfl
theorem SW:Tryz.f102.results.toList=[.tmp 4]:=rfl
theorem SX:Tryz.f103.results.toList=[.cell 2 152]:=rfl
theorem SY:Tryz.f104.results.toList=[.cell 0 152]:=rfl
theorem SZ:Tryz.f105.results.toList=[.tmp 10]:=rfl
theorem S0:Tryz.f111.results.toList=[.tmp 2]:=rfl
theorem S1:Tryz.f112.results.toList=[.tmp 3]:=rfl
theorem S2:Tryz.f113.results.toList=[.tmp 4]:=rfl
theorem UY:Tryz.f35.results.toList=[.tmp 2]:=rfl
theorem UZ:Tryz.f63.results.toList=[.tmp 2]:=rfl
theorem U0:Tryz.f64.results.toList=[.cell 2 110]:=rfl
theorem U1:Tryz.f87.results.toList=[.cell 0 132]:=rfl
theorem U2:Tryz.f88.results.toList=[.tmp 2]:=rfl
theorem U3:Tryz.f89.results.toList=[.cell 4 132]:=rfl
theorem Ql:mz Tryz.prog 110=none:=by kernel_rfl
theorem fW:mz Tryz.prog 132=none:=by kernel_rfl
theorem rC:mz Tryz.prog 152=none:=by kernel_rfl
theorem Qm:mz Tryz.prog 161=none:=by kernel_rfl
theorem GY:jS Tryz.prog 110=some (true,32):=by kernel_rfl
theorem eN:jS Tryz.prog 131=some (false,1):=by kernel_rfl
theorem oW:jS Tryz.prog 132=some (true,8):=by kernel_rfl
theorem vP:jS Tryz.prog 152=some (true,64):=by kernel_rfl
theorem Oc:Program.underlying Tryz.prog 110=some (.array 32 5):=by kernel_rfl
theorem s6:Program.underlying Tryz.prog 112=some (.int .u64):=by kernel_rfl
theorem vQ:Program.underlying Tryz.prog 131=some (.int .u32):=by kernel_rfl
theorem Qn:Program.underlying Tryz.prog 97=some (.int .u64):=by kernel_rfl
theorem GZ:mb Tryz.prog 110=some [Value.int IntKind.u8 0,Value.int IntKind.u8 0,Value.int IntKind.u8 0,Value.int IntKind.u8 0,Value.int IntKind.u8 0,Value.int IntKind.u8 0,Value.int IntKind.u8 0,Value.int IntKind.u8 0,Value.int IntKind.u8 0,Value.int IntKind.u8 0,Value.int IntKind.u8 0,Value.int IntKind.u8 0,Value.int IntKind.u8 0,Value.int IntKind.u8 0,Value.int IntKind.u8 0,Value.int IntKind.u8 0,Value.int IntKind.u8 0,Value.int IntKind.u8 0,Value.int IntKind.u8 0,Value.int IntKind.u8 0,Value.int IntKind.u8 0,Value.int IntKind.u8 0,Value.int IntKind.u8 0,Value.int IntKind.u8 0,Value.int IntKind.u8 0,Value.int IntKind.u8 0,Value.int IntKind.u8 0,Value.int IntKind.u8 0,Value.int IntKind.u8 0,Value.int IntKind.u8 0,Value.int IntKind.u8 0,Value.int IntKind.u8 0]:=by kernel_rfl
theorem yY:mb Tryz.prog 132=some [Value.int IntKind.u32 0,Value.int IntKind.u32 0,Value.int IntKind.u32 0,Value.int IntKind.u32 0,Value.int IntKind.u32 0,Value.int IntKind.u32 0,Value.int IntKind.u32 0,Value.int IntKind.u32 0]:=by kernel_rfl
theorem vR:mb Tryz.prog 152=some [Value.int IntKind.u32 0,Value.int IntKind.u32 0,Value.int IntKind.u32 0,Value.int IntKind.u32 0,Value.int IntKind.u32 0,Value.int IntKind.u32 0,Value.int IntKind.u32 0,Value.int IntKind.u32 0,Value.int IntKind.u32 0,Value.int IntKind.u32 0,Value.int IntKind.u32 0,Value.int IntKind.u32 0,Value.int IntKind.u32 0,Value.int IntKind.u32 0,Value.int IntKind.u32 0,Value.int IntKind.u32 0,Value.int IntKind.u32 0,Value.int IntKind.u32 0,Value.int IntKind.u32 0,Value.int IntKind.u32 0,Value.int IntKind.u32 0,Value.int IntKind.u32 0,Value.int IntKind.u32 0,Value.int IntKind.u32 0,Value.int IntKind.u32 0,Value.int IntKind.u32 0,Value.int IntKind.u32 0,Value.int IntKind.u32 0,Value.int IntKind.u32 0,Value.int IntKind.u32 0,Value.int IntKind.u32 0,Value.int IntKind.u32 0,Value.int IntKind.u32 0,Value.int IntKind.u32 0,Value.int IntKind.u32 0,Value.int IntKind.u32 0,Value.int IntKind.u32 0,Value.int IntKind.u32 0,Value.int IntKind.u32 0,Value.int IntKind.u32 0,Value.int IntKind.u32 0,Value.int IntKind.u32 0,Value.int IntKind.u32 0,Value.int IntKind.u32 0,Value.int IntKind.u32 0,Value.int IntKind.u32 0,Value.int IntKind.u32 0,Value.int IntKind.u32 0,Value.int IntKind.u32 0,Value.int IntKind.u32 0,Value.int IntKind.u32 0,Value.int IntKind.u32 0,Value.int IntKind.u32 0,Value.int IntKind.u32 0,Value.int IntKind.u32 0,Value.int IntKind.u32 0,Value.int IntKind.u32 0,Value.int IntKind.u32 0,Value.int IntKind.u32 0,Value.int IntKind.u32 0,Value.int IntKind.u32 0,Value.int IntKind.u32 0,Value.int IntKind.u32 0,Value.int IntKind.u32 0]:=by kernel_rfl
theorem Od:mb Tryz.prog 161=some [Value.int IntKind.u8 0,Value.int IntKind.u8 0,Value.int IntKind.u8 0,Value.int IntKind.u8 0,Value.int IntKind.u8 0,Value.int IntKind.u8 0,Value.int IntKind.u8 0,Value.int IntKind.u8 0]:=by kernel_rfl
end TT
noncomputable def yZ:Option (aE 8 (BitVec 32)):=
  some (⟨[(1779033703:BitVec 32),(3144134277:BitVec 32),(1013904242:BitVec 32),(2773480762:BitVec 32),(1359893119:BitVec 32),(2600822924:BitVec 32),(528734635:BitVec 32),(1541459225:BitVec 32)],rfl⟩:(aE 8 (BitVec 32)))
theorem G0 (r:(aE 8 (BitVec 32))) (h:yZ=some r):bI Tryz.prog 87 [] (.agg (r.1.map eK)):=by
 refine bI.aU Tryz.func87 rfl (by simp [Tryz.ntmps87]) ?_
 rw [Tryz.ntmps87,TT.U1]
 refine QW.view (s':=⟨aG [],aj [],0,[]⟩) (View.init (by rfl)) zL ?_
 unfold yZ at h
 refine sR ?_
 refine xs 0 rfl (bB (l:=(((aE.rep 8 (0:BitVec 32)).1.map eK).map .d)) rfl TT.yY rfl rfl ?_)
 refine XK.nz ?_
 refine sR ?_
 refine XK.as (some 1) rfl rfl (vb (v:= .agg [.d (.val (.int .u32 ((1779033703:BitVec 32).toNat:Int))), .d (.val (.int .u32 ((3144134277:BitVec 32).toNat:Int))), .d (.val (.int .u32 ((1013904242:BitVec 32).toNat:Int))), .d (.val (.int .u32 ((2773480762:BitVec 32).toNat:Int))), .d (.val (.int .u32 ((1359893119:BitVec 32).toNat:Int))), .d (.val (.int .u32 ((2600822924:BitVec 32).toNat:Int))), .d (.val (.int .u32 ((528734635:BitVec 32).toNat:Int))), .d (.val (.int .u32 ((1541459225:BitVec 32).toNat:Int)))]) rfl (by rw [TT.A6];simp [k9,k8,placeOf,ot,aB,PV.cz,PV.hY,Value.oneCell',l6,nM,dQ,List.all,cx,aG,jA,iU,bU,jX]) (by rw [TT.A6];rfl) ⟨.d (.agg ((⟨[(1779033703:BitVec 32),(3144134277:BitVec 32),(1013904242:BitVec 32),(2773480762:BitVec 32),(1359893119:BitVec 32),(2600822924:BitVec 32),(528734635:BitVec 32),(1541459225:BitVec 32)],rfl⟩:(aE 8 (BitVec 32))).1.map eK)),(iH.dj rfl),?_⟩)
 refine XK.st none rfl rfl (bh (l':=(((⟨[(1779033703:BitVec 32),(3144134277:BitVec 32),(1013904242:BitVec 32),(2773480762:BitVec 32),(1359893119:BitVec 32),(2600822924:BitVec 32),(528734635:BitVec 32),(1541459225:BitVec 32)],rfl⟩:(aE 8 (BitVec 32))).1.map eK).map .d)) rfl TT.oW rfl rfl rfl rfl rfl (aq _) (nh _) (cQ ((aq _).trans (aq _).symm)) ?_)
 refine XK.nz ?_
 refine QW.ret zL ?_
 obtain rfl:=sO h
 exact Ends.one (.inr rfl) rfl (aI.cell rfl rfl TT.oW (ju (by decide))) (oK cH) rfl
inductive E3 where
 | S
 | L1 (jc:(BitVec 64)) (j4:Int) (v5:(aE 8 UInt8))
noncomputable def kG (n0:(BitVec 64)) (ia:Int):E3→Option (E3⊕(List UInt8))
 | .S=>
  some (.inl (.L1 n0 (0) (aE.rep 8 (0:UInt8))))
 | .L1 jc j4 v5=>
  (bif (decide (j4<(eY (gQ ia (0:Int)) (8:Int)))) then
  gO (0≤j4∧j4<((8:Nat):Int)) (
  gO (bw (j4+(1:Int))) (
  some (.inl (.L1 (oL jc (8:Int)) (j4+(1:Int)) (v5.put j4 (gf (jc.toNat:Int)))))))
  else
  gO (0≤(0:Int)∧(0:Int)≤(eY (gQ ia (0:Int)) (8:Int))∧(eY (gQ ia (0:Int)) (8:Int))≤((8:Nat):Int)) (
  some (.inr (sub v5.1 0 (eY (gQ ia (0:Int)) (8:Int))))))
noncomputable def xd (n0:(BitVec 64)) (ia:Int):Option (List UInt8):=g9 (kG n0 ia) .S
theorem Iw (n0:(BitVec 64)) (ia:Int) (r:(List UInt8)) (h:xd n0 ia=some r):bI Tryz.prog 102 [.val (.int .u64 (n0.toNat:Int)), .val (.int .i64 ia)] (.val (sV r)):=by
 refine bI.aU Tryz.func102 rfl (by simp [Tryz.ntmps102]) ?_
 rw [Tryz.ntmps102,TT.SW]
 refine QW.view (s':=⟨aG [(0, .d (.val (.int .u64 (n0.toNat:Int)))),(1,pI ia)],aj [],0,[]⟩) (View.init (by rfl)) zL ?_
 replace h:=cL h
 obtain ⟨_,h⟩:=h
 obtain ⟨dm,rfl,h9⟩:=aQ h;replace h:=h9;clear h9;rw [kG] at h
 refine sR ?_
 refine xz 4 (pS ([]:List UInt8)) ?_
 refine sR ?_
 refine xs 5 rfl (bB (l:=(((aE.rep 8 (0:UInt8)).1.map U).map .d)) rfl TT.Od rfl rfl ?_)
 refine XK.nz ?_
 refine sR ?_
 refine xm 8 (pI ia) ?_
 refine xs 9 rfl (Pc (a:=ia) (b:=(0:Int)) rfl rfl rfl ?_)
 refine xs 10 rfl (FI (a:=(gQ ia (0:Int))) (b:=(8:Int)) rfl rfl rfl ?_)
 refine xz 6 (pI (eY (gQ ia (0:Int)) (8:Int))) ?_
 refine QW.seq ?_
 refine sR ?_
 refine xm 11 (pI (eY (gQ ia (0:Int)) (8:Int))) ?_
 refine xm 12 (pI (0)) ?_
 refine XK.nz ?_
 refine QW.block ?_
 refine QW.loop (fun k σ=>∃ jc:(BitVec 64),∃ j4:Int,∃ v5:(aE 8 UInt8),k≤dm∧run (kG n0 ia) k (.L1 jc j4 v5)=some r∧σ=⟨aG [(0, .d (.val (.int .u64 (jc.toNat:Int)))),(5, .aF 0 0),(6,pI (eY (gQ ia (0:Int)) (8:Int))),(11,pI (eY (gQ ia (0:Int)) (8:Int))),(12,pI j4)],aj [.var ((v5.1.map U).map .d)],1,[]⟩) dm zL ⟨⟨aG [(0, .d (.val (.int .u64 (n0.toNat:Int)))),(5, .aF 0 0),(6,pI (eY (gQ ia (0:Int)) (8:Int))),(11,pI (eY (gQ ia (0:Int)) (8:Int))),(12,pI (0))],aj [.var (((aE.rep 8 (0:UInt8)).1.map U).map .d)],1,[]⟩,View.mk 1 [0] _ _ _ rfl rfl (by decide) (iC (iC (iC (iC (iC trivial))))) (And.intro (by simp only [cv,bq,PV.bK];rfl) trivial) rfl zL rfl,n0,0,(aE.rep 8 (0:UInt8)),Nat.le_refl _,jG h,rfl⟩ ?_
 rintro rO _ ⟨jc,j4,v5,rP,h,rfl⟩
 obtain ⟨k_1,rfl,h9⟩:=aQ h;replace h:=h9;clear h9;rw [kG] at h
 refine sR ?_
 refine xs 13 rfl (cJ (a:=j4) (b:=(eY (gQ ia (0:Int)) (8:Int))) rfl rfl rfl ?_)
 refine XK.nz ?_
 refine QW.seq ?_
 refine QW.cond (t:=(decide (j4<(eY (gQ ia (0:Int)) (8:Int))))) rfl zL (fun cB=>?_) (fun cB=>?_)
 ·replace h:=fF h cB
  refine QW.skip zL (aX ?_)
  refine QW.seq ?_
  refine QW.block ?_
  refine sR ?_
  refine xm 14 (pI j4) ?_
  refine xz 7 (pI j4) ?_
  refine sR ?_
  refine xm 15 (pI j4) ?_
  refine xm 16 (.d (.val (.int .u64 (jc.toNat:Int)))) ?_
  refine xs 17 rfl (n6 (n:=(jc.toNat:Int)) rfl TT.s6 TT.dR rfl ?_)
  obtain ⟨dS,h⟩:=gG h
  refine xs 18 rfl (cV (i:=j4) rfl TT.Qm TT.Jj rfl rfl dS ?_)
  refine XK.st none rfl rfl (bh (l':=(((v5.put j4 (gf (jc.toNat:Int))).1.map U).map .d)) rfl TT.jx rfl rfl rfl rfl rfl rfl (rM dS) (p9 dS) ?_)
  refine XK.nz ?_
  refine rG ?_
  refine xm 19 (.d (.val (.int .u64 (jc.toNat:Int)))) ?_
  refine xs 20 rfl (A4 (a:=jc) (c:=(8:Int)) rfl rfl rfl (by decide) ?_)
  refine xa 0 (.d (.val (.int .u64 ((oL jc (8:Int)).toNat:Int)))) ?_
  refine XK.nil (g6 (aX ?_))
  refine rG ?_
  obtain ⟨mH,h⟩:=gG h
  refine xs 21 rfl (bX (a:=j4) (b:=(1:Int)) rfl rfl rfl mH ?_)
  refine xm 12 (pI (j4+(1:Int))) ?_
  refine XK.nz ?_
  exact ⟨k_1,by omega,⟨aG [(0, .d (.val (.int .u64 ((oL jc (8:Int)).toNat:Int)))),(5, .aF 0 0),(6,pI (eY (gQ ia (0:Int)) (8:Int))),(11,pI (eY (gQ ia (0:Int)) (8:Int))),(12,pI (j4+(1:Int)))],aj [.var (((v5.put j4 (gf (jc.toNat:Int))).1.map U).map .d)],1,[]⟩,View.mk 1 [0] _ _ _ rfl rfl (by decide) (iC (iC (iC (iC (iC trivial))))) (And.intro (by simp only [cv,bq,PV.bK];rfl) trivial) rfl zL rfl,(oL jc (8:Int)),(j4+(1:Int)),(v5.put j4 (gf (jc.toNat:Int))),by omega,jG h,rfl⟩
 ·replace h:=fG h cB
  refine QW.exit zL (eD (eD (j3 (aX ?_))))
  refine sR ?_
  refine xm 22 (pI (eY (gQ ia (0:Int)) (8:Int))) ?_
  obtain ⟨nU,h⟩:=gG h
  refine XK.so (some 23) rfl rfl (Uk (p:=(0:Int)) (q:=(eY (gQ ia (0:Int)) (8:Int))) rfl TT.Jj rfl rfl rfl nU ?_)
  refine XK.so (some 24) rfl rfl (Ul (bs:=(sub v5.1 0 (eY (gQ ia (0:Int)) (8:Int)))) rfl TT.bA TT.dR TT.bY rfl rfl (Sb (a:=v5) nU) (P9 (a:=v5) nU) ?_)
  refine xz 4 (pS (sub v5.1 0 (eY (gQ ia (0:Int)) (8:Int)))) ?_
  refine QW.ret zL ?_
  obtain rfl:=sG h
  exact Ends.one (.inr rfl) rfl (aI.tmp rfl) rfl rfl
inductive BM where
 | S
 | L1 (v3:(List UInt8))
 | L2 (eJ:(List UInt8)) (cZ:(List UInt8)) (v5:Int)
noncomputable def fc (s0:(List UInt8)):BM→Option (BM⊕(List UInt8))
 | .S=>
  gO (s0.length≤9223372036854775807) (
  gO ((s0.length+([(128:UInt8)]:List UInt8).length)*1≤140737488355328) (
  some (.inl (.L1 (s0++([(128:UInt8)]:List UInt8))))))
 | .L1 v3=>
  (bif (!decide (((v3.length:Int).tmod (64:Int))=(56:Int))) then
  gO ((v3.length+([(0:UInt8)]:List UInt8).length)*1≤140737488355328) (
  some (.inl (.L1 (v3++([(0:UInt8)]:List UInt8)))))
  else
  ((xd ((BitVec.ofInt 64 (s0.length:Int))*(8:BitVec 64)) (8)).bind fun (x_6:(List UInt8))=>
  some (.inl (.L2 v3 x_6 (7)))))
 | .L2 eJ cZ v5=>
  (bif (decide ((0:Int)≤v5)) then
  gO (0≤v5∧v5<(cZ.length:Int)) (
  gO ((eJ.length+([(idx cZ v5)]:List UInt8).length)*1≤140737488355328) (
  gO (bw (v5-(1:Int))) (
  some (.inl (.L2 (eJ++([(idx cZ v5)]:List UInt8)) cZ (v5-(1:Int)))))))
  else
  some (.inr eJ))
noncomputable def xJ (s0:(List UInt8)):Option (List UInt8):=g9 (fc s0) .S
theorem Fu (s0:(List UInt8)) (r:(List UInt8)) (h:xJ s0=some r):bI Tryz.prog 88 [.val (sV s0)] (.val (sV r)):=by
 refine bI.aU Tryz.func88 rfl (by simp [Tryz.ntmps88]) ?_
 rw [Tryz.ntmps88,TT.U2]
 refine QW.view (s':=⟨aG [(0,pS s0)],aj [],0,[]⟩) (View.init (by rfl)) zL ?_
 replace h:=cL h
 obtain ⟨_,h⟩:=h
 obtain ⟨dm,rfl,h9⟩:=aQ h;replace h:=h9;clear h9;rw [fc] at h
 refine sR ?_
 refine xz 2 (pS ([]:List UInt8)) ?_
 refine sR ?_
 refine xm 6 (pS s0) ?_
 obtain ⟨nV,h⟩:=gG h
 refine XK.s2r (l:=s0) (some 7) rfl rfl rfl TT.bY TT.bA TT.dR rfl nV ?_
 refine xs 8 rfl (ef (en:=U) (l:=([(128:UInt8)]:List UInt8)) rfl TT.e8 bx rfl rfl (by decide) (by simp [dw,cU,aB,dQ,PV.cz,cx,aG,jA,iU,jX,bU,Value.oneCell']) ?_)
 obtain ⟨xE,h⟩:=gG h
 refine xs 9 rfl (iY (en:=U) (l:=s0) (l2:=([(128:UInt8)]:List UInt8)) rfl TT.e8 TT.bA rfl bx rfl rfl rfl xE (by decide) ?_)
 refine xz 3 (.own 1 ((s0++([(128:UInt8)]:List UInt8)).map U)) ?_
 refine QW.seq ?_
 refine QW.block ?_
 refine QW.loop (fun k σ=>∃ v3:(List UInt8),k≤dm∧run (fc s0) k (.L1 v3)=some r∧σ=⟨aG [(0,pS s0),(3, .own 0 (v3.map U))],aj [.spare 1 v3.length],1,[]⟩) dm zL ⟨⟨aG [(0,pS s0),(3, .own 0 ((s0++([(128:UInt8)]:List UInt8)).map U))],aj [.spare 1 (s0++([(128:UInt8)]:List UInt8)).length],1,[]⟩,View.mk 1 [1] _ _ _ rfl rfl (by decide) (iC (iC trivial)) (And.intro rfl trivial) rfl zL rfl,(s0++([(128:UInt8)]:List UInt8)),Nat.le_refl _,jG h,rfl⟩ ?_
 rintro YY _ ⟨v3,YZ,h,rfl⟩
 obtain ⟨Oe,rfl,h9⟩:=aQ h;replace h:=h9;clear h9;rw [fc] at h
 refine QW.seq ?_
 refine sR ?_
 refine xm 10 (.own 0 (v3.map U)) ?_
 refine xs 11 rfl (cM (en:=U) (l:=v3) rfl TT.bA rfl ?_)
 refine xs 12 rfl (uT (a:=(v3.length:Int)) (b:=(64:Int)) rfl rfl rfl (by decide) ?_)
 refine xs 13 rfl (qA (a:=((v3.length:Int).tmod (64:Int))) (b:=(56:Int)) rfl rfl rfl ?_)
 refine XK.nz ?_
 refine QW.cond (t:=(!decide (((v3.length:Int).tmod (64:Int))=(56:Int)))) rfl zL (fun jb=>?_) (fun jb=>?_)
 ·replace h:=fF h jb
  refine QW.skip zL (aX ?_)
  refine QW.block ?_
  refine rG ?_
  refine xm 14 (.own 0 (v3.map U)) ?_
  refine xs 15 rfl (ef (en:=U) (l:=([(0:UInt8)]:List UInt8)) rfl TT.e8 bx rfl rfl (by decide) (by simp [dw,cU,aB,dQ,PV.cz,cx,aG,jA,iU,jX,bU,Value.oneCell']) ?_)
  obtain ⟨nU,h⟩:=gG h
  refine xs 16 rfl (iY (en:=U) (l:=v3) (l2:=([(0:UInt8)]:List UInt8)) rfl TT.e8 TT.bA rfl bx rfl rfl rfl nU (by decide) ?_)
  refine xa 3 (.own 1 ((v3++([(0:UInt8)]:List UInt8)).map U)) ?_
  refine XK.nil (g6 (aX ?_))
  exact ⟨Oe,by omega,⟨aG [(0,pS s0),(3, .own 0 ((v3++([(0:UInt8)]:List UInt8)).map U))],aj [.spare 1 (v3++([(0:UInt8)]:List UInt8)).length],1,[]⟩,View.mk 1 [1] _ _ _ rfl rfl (by decide) (iC (iC trivial)) (And.intro rfl trivial) rfl zL rfl,(v3++([(0:UInt8)]:List UInt8)),by omega,jG h,rfl⟩
 ·replace h:=fG h jb
  refine QW.exit zL (eD (eD (j3 (aX ?_))))
  refine sR ?_
  refine xm 17 (pS s0) ?_
  refine xs 18 rfl (gE (l:=s0) rfl TT.bY rfl ?_)
  refine xs 19 rfl (wY (n:=(s0.length:Int)) rfl TT.kC TT.s6 rfl ?_)
  refine xs 20 rfl (Ea (a:=(BitVec.ofInt 64 (s0.length:Int))) (b:=(8:BitVec 64)) rfl rfl rfl ?_)
  obtain ⟨x_6,yg,h⟩:=bG h
  refine xs 21 rfl (aA rfl rfl TT.L7 rfl (Iw ((BitVec.ofInt 64 (s0.length:Int))*(8:BitVec 64)) (8) _ yg) ?_)
  refine xz 4 (pS x_6) ?_
  refine QW.seq ?_
  refine sR ?_
  refine xz 5 (pI (7)) ?_
  refine QW.block ?_
  refine QW.loop (fun k σ=>∃ eJ:(List UInt8),∃ cZ:(List UInt8),∃ v5:Int,k≤Oe∧run (fc s0) k (.L2 eJ cZ v5)=some r∧σ=⟨aG [(3, .own 0 (eJ.map U)),(4,pS cZ),(5,pI v5)],aj [.spare 1 eJ.length],1,[]⟩) Oe zL ⟨⟨aG [(3, .own 0 (v3.map U)),(4,pS x_6),(5,pI (7))],aj [.spare 1 v3.length],1,[]⟩,View.mk 1 [0] _ _ _ rfl rfl (by decide) (iC (iC (iC trivial))) (And.intro rfl trivial) rfl zL rfl,v3,x_6,7,Nat.le_refl _,jG h,rfl⟩ ?_
  rintro abi _ ⟨eJ,cZ,v5,abj,h,rfl⟩
  obtain ⟨k_8,rfl,h9⟩:=aQ h;replace h:=h9;clear h9;rw [fc] at h
  refine QW.seq ?_
  refine sR ?_
  refine xm 22 (pI v5) ?_
  refine xs 23 rfl (uU (a:=v5) (b:=(0:Int)) rfl rfl rfl ?_)
  refine XK.nz ?_
  refine QW.cond (t:=(decide ((0:Int)≤v5))) rfl zL (fun rX=>?_) (fun rX=>?_)
  ·replace h:=fF h rX
   refine QW.skip zL (aX ?_)
   refine QW.seq ?_
   refine QW.block ?_
   refine rG ?_
   refine xm 26 (.own 0 (eJ.map U)) ?_
   refine xm 27 (pS cZ) ?_
   refine xm 28 (pI v5) ?_
   obtain ⟨ow,h⟩:=gG h
   refine xs 29 rfl (lK (l:=cZ) (i:=v5) rfl TT.bY TT.nT rfl rfl ow ?_)
   refine xs 30 rfl (ef (en:=U) (l:=([(idx cZ v5)]:List UInt8)) rfl TT.e8 bx rfl rfl (by decide) (by simp [dw,cU,aB,dQ,PV.cz,cx,aG,jA,iU,jX,bU,Value.oneCell']) ?_)
   obtain ⟨vH,h⟩:=gG h
   refine xs 31 rfl (iY (en:=U) (l:=eJ) (l2:=([(idx cZ v5)]:List UInt8)) rfl TT.e8 TT.bA rfl bx rfl rfl rfl vH (by decide) ?_)
   refine xa 3 (.own 1 ((eJ++([(idx cZ v5)]:List UInt8)).map U)) ?_
   refine XK.nil (g6 (aX ?_))
   refine rG ?_
   refine xm 24 (pI v5) ?_
   obtain ⟨m5,h⟩:=gG h
   refine xs 25 rfl (mE (a:=v5) (b:=(1:Int)) rfl rfl rfl m5 ?_)
   refine xz 5 (pI (v5-(1:Int))) ?_
   exact ⟨k_8,by omega,⟨aG [(3, .own 0 ((eJ++([(idx cZ v5)]:List UInt8)).map U)),(4,pS cZ),(5,pI (v5-(1:Int)))],aj [.spare 1 (eJ++([(idx cZ v5)]:List UInt8)).length],1,[]⟩,View.mk 1 [1] _ _ _ rfl rfl (by decide) (iC (iC (iC trivial))) (And.intro rfl trivial) rfl zL rfl,(eJ++([(idx cZ v5)]:List UInt8)),cZ,(v5-(1:Int)),by omega,jG h,rfl⟩
  ·replace h:=fG h rX
   refine QW.exit zL (eD (eD (j3 (aX ?_))))
   refine sR ?_
   refine xm 32 (.own 0 (eJ.map U)) ?_
   refine xs 33 rfl (nS (l:=eJ) rfl TT.bA TT.dR TT.bY rfl ?_)
   refine xz 2 (pS eJ) ?_
   refine QW.ret zL ?_
   obtain rfl:=sG h
   exact Ends.one (.inr rfl) rfl (aI.tmp rfl) rfl rfl
noncomputable def ua (s0:(List UInt8)):Option (BitVec 32):=
  gO (0≤(0:Int)∧(0:Int)<(s0.length:Int)) (
  gO (0≤(1:Int)∧(1:Int)<(s0.length:Int)) (
  gO (0≤(2:Int)∧(2:Int)<(s0.length:Int)) (
  gO (0≤(3:Int)∧(3:Int)<(s0.length:Int)) (
  some ((((q6 (BitVec.ofInt 32 ((idx s0 (0:Int)).toNat:Int)) (24:Int))||| (q6 (BitVec.ofInt 32 ((idx s0 (1:Int)).toNat:Int)) (16:Int)))||| (q6 (BitVec.ofInt 32 ((idx s0 (2:Int)).toNat:Int)) (8:Int)))||| (BitVec.ofInt 32 ((idx s0 (3:Int)).toNat:Int)))))))
theorem Ix (s0:(List UInt8)) (r:(BitVec 32)) (h:ua s0=some r):bI Tryz.prog 111 [.val (sV s0)] (.val (.int .u32 (r.toNat:Int))):=by
 refine bI.aU Tryz.func111 rfl (by simp [Tryz.ntmps111]) ?_
 rw [Tryz.ntmps111,TT.S0]
 refine QW.view (s':=⟨aG [(0,pS s0)],aj [],0,[]⟩) (View.init (by rfl)) zL ?_
 unfold ua at h
 refine sR ?_
 refine xz 2 (.d (.val (.int .u32 ((0:BitVec 32).toNat:Int)))) ?_
 refine QW.seq ?_
 refine QW.region zL (PW.kX (id:=1) dc (M:=_) rfl (by kernel_rfl) ?_)
 refine RQ.st (some 3) rfl rfl (au (v:=pS s0) rfl rfl ⟨⟨rfl,rfl⟩,?_⟩)
 obtain ⟨nV,h⟩:=bk h
 refine RQ.st (some 4) rfl rfl (lK (l:=s0) (i:=(0:Int)) rfl TT.bY TT.nT rfl rfl nV ⟨⟨rfl,rfl⟩,?_⟩)
 refine RQ.st (some 5) rfl rfl (wY (n:=((idx s0 (0:Int)).toNat:Int)) rfl TT.dR TT.vQ rfl ⟨⟨rfl,rfl⟩,?_⟩)
 refine RQ.st (some 6) rfl rfl (A2 (a:=(BitVec.ofInt 32 ((idx s0 (0:Int)).toNat:Int))) (c:=(24:Int)) rfl rfl rfl (by decide) ⟨⟨rfl,rfl⟩,?_⟩)
 refine RQ.st (some 7) rfl rfl (au (v:=pS s0) rfl rfl ⟨⟨rfl,rfl⟩,?_⟩)
 obtain ⟨xE,h⟩:=bk h
 refine RQ.st (some 8) rfl rfl (lK (l:=s0) (i:=(1:Int)) rfl TT.bY TT.nT rfl rfl xE ⟨⟨rfl,rfl⟩,?_⟩)
 refine RQ.st (some 9) rfl rfl (wY (n:=((idx s0 (1:Int)).toNat:Int)) rfl TT.dR TT.vQ rfl ⟨⟨rfl,rfl⟩,?_⟩)
 refine RQ.st (some 10) rfl rfl (A2 (a:=(BitVec.ofInt 32 ((idx s0 (1:Int)).toNat:Int))) (c:=(16:Int)) rfl rfl rfl (by decide) ⟨⟨rfl,rfl⟩,?_⟩)
 refine RQ.st (some 11) rfl rfl (vA (a:=(q6 (BitVec.ofInt 32 ((idx s0 (0:Int)).toNat:Int)) (24:Int))) (b:=(q6 (BitVec.ofInt 32 ((idx s0 (1:Int)).toNat:Int)) (16:Int))) rfl rfl rfl ⟨⟨rfl,rfl⟩,?_⟩)
 refine RQ.st (some 12) rfl rfl (au (v:=pS s0) rfl rfl ⟨⟨rfl,rfl⟩,?_⟩)
 obtain ⟨dS,h⟩:=bk h
 refine RQ.st (some 13) rfl rfl (lK (l:=s0) (i:=(2:Int)) rfl TT.bY TT.nT rfl rfl dS ⟨⟨rfl,rfl⟩,?_⟩)
 refine RQ.st (some 14) rfl rfl (wY (n:=((idx s0 (2:Int)).toNat:Int)) rfl TT.dR TT.vQ rfl ⟨⟨rfl,rfl⟩,?_⟩)
 refine RQ.st (some 15) rfl rfl (A2 (a:=(BitVec.ofInt 32 ((idx s0 (2:Int)).toNat:Int))) (c:=(8:Int)) rfl rfl rfl (by decide) ⟨⟨rfl,rfl⟩,?_⟩)
 refine RQ.st (some 16) rfl rfl (vA (a:=((q6 (BitVec.ofInt 32 ((idx s0 (0:Int)).toNat:Int)) (24:Int))||| (q6 (BitVec.ofInt 32 ((idx s0 (1:Int)).toNat:Int)) (16:Int)))) (b:=(q6 (BitVec.ofInt 32 ((idx s0 (2:Int)).toNat:Int)) (8:Int))) rfl rfl rfl ⟨⟨rfl,rfl⟩,?_⟩)
 refine RQ.st (some 17) rfl rfl (au (v:=pS s0) rfl rfl ⟨⟨rfl,rfl⟩,?_⟩)
 obtain ⟨mH,h⟩:=bk h
 refine RQ.st (some 18) rfl rfl (lK (l:=s0) (i:=(3:Int)) rfl TT.bY TT.nT rfl rfl mH ⟨⟨rfl,rfl⟩,?_⟩)
 refine RQ.st (some 19) rfl rfl (wY (n:=((idx s0 (3:Int)).toNat:Int)) rfl TT.dR TT.vQ rfl ⟨⟨rfl,rfl⟩,?_⟩)
 refine RQ.st (some 20) rfl rfl (vA (a:=(((q6 (BitVec.ofInt 32 ((idx s0 (0:Int)).toNat:Int)) (24:Int))||| (q6 (BitVec.ofInt 32 ((idx s0 (1:Int)).toNat:Int)) (16:Int)))||| (q6 (BitVec.ofInt 32 ((idx s0 (2:Int)).toNat:Int)) (8:Int)))) (b:=(BitVec.ofInt 32 ((idx s0 (3:Int)).toNat:Int))) rfl rfl rfl ⟨⟨rfl,rfl⟩,?_⟩)
 refine RQ.st (some 2) rfl rfl (cq (v:= .d (.val (.int .u32 (((((q6 (BitVec.ofInt 32 ((idx s0 (0:Int)).toNat:Int)) (24:Int))||| (q6 (BitVec.ofInt 32 ((idx s0 (1:Int)).toNat:Int)) (16:Int)))||| (q6 (BitVec.ofInt 32 ((idx s0 (2:Int)).toNat:Int)) (8:Int)))||| (BitVec.ofInt 32 ((idx s0 (3:Int)).toNat:Int))).toNat:Int)))) rfl rfl ⟨⟨rfl,rfl⟩,?_⟩)
 refine RQ.nil (aX ?_)
 refine QW.ret zL ?_
 obtain rfl:=sO h
 exact Ends.one (.inr rfl) rfl (aI.tmp rfl) rfl rfl
noncomputable def iI (x0:(BitVec 32)) (k1:Int):Option (BitVec 32):=
  gO (0≤(((BitVec.ofInt 64 k1)&&& (31:BitVec 64)).toNat:Int)) (
  gO (0≤(((32:BitVec 64)-((BitVec.ofInt 64 k1)&&& (31:BitVec 64))).toNat:Int)) (
  some ((q6 x0 (((BitVec.ofInt 64 k1)&&& (31:BitVec 64)).toNat:Int))||| (oL x0 (((32:BitVec 64)-((BitVec.ofInt 64 k1)&&& (31:BitVec 64))).toNat:Int)))))
theorem u0 (x0:(BitVec 32)) (k1:Int) (r:(BitVec 32)) (h:iI x0 k1=some r):bI Tryz.prog 113 [.val (.int .u32 (x0.toNat:Int)), .val (.int .i64 k1)] (.val (.int .u32 (r.toNat:Int))):=by
 refine bI.aU Tryz.func113 rfl (by simp [Tryz.ntmps113]) ?_
 rw [Tryz.ntmps113,TT.S2]
 refine QW.view (s':=⟨aG [(0, .d (.val (.int .u32 (x0.toNat:Int)))),(1,pI k1)],aj [],0,[]⟩) (View.init (by rfl)) zL ?_
 unfold iI at h
 refine sR ?_
 refine xz 4 (.d (.val (.int .u32 ((0:BitVec 32).toNat:Int)))) ?_
 refine sR ?_
 refine xm 6 (pI k1) ?_
 refine xs 7 rfl (wY (n:=k1) rfl TT.kC TT.Qn rfl ?_)
 refine xs 8 rfl (nj (a:=(BitVec.ofInt 64 k1)) (b:=(31:BitVec 64)) rfl rfl rfl ?_)
 refine xz 5 (.d (.val (.int .u64 (((BitVec.ofInt 64 k1)&&& (31:BitVec 64)).toNat:Int)))) ?_
 refine sR ?_
 refine xm 9 (.d (.val (.int .u32 (x0.toNat:Int)))) ?_
 refine xm 10 (.d (.val (.int .u64 (((BitVec.ofInt 64 k1)&&& (31:BitVec 64)).toNat:Int)))) ?_
 obtain ⟨nV,h⟩:=bk h
 refine xs 11 rfl (A2 (a:=x0) (c:=(((BitVec.ofInt 64 k1)&&& (31:BitVec 64)).toNat:Int)) rfl rfl rfl nV ?_)
 refine xm 12 (.d (.val (.int .u32 (x0.toNat:Int)))) ?_
 refine xm 13 (.d (.val (.int .u64 (((BitVec.ofInt 64 k1)&&& (31:BitVec 64)).toNat:Int)))) ?_
 refine xs 14 rfl (Ja (a:=(32:BitVec 64)) (b:=((BitVec.ofInt 64 k1)&&& (31:BitVec 64))) rfl rfl rfl ?_)
 obtain ⟨xE,h⟩:=bk h
 refine xs 15 rfl (A4 (a:=x0) (c:=(((32:BitVec 64)-((BitVec.ofInt 64 k1)&&& (31:BitVec 64))).toNat:Int)) rfl rfl rfl xE ?_)
 refine xs 16 rfl (vA (a:=(q6 x0 (((BitVec.ofInt 64 k1)&&& (31:BitVec 64)).toNat:Int))) (b:=(oL x0 (((32:BitVec 64)-((BitVec.ofInt 64 k1)&&& (31:BitVec 64))).toNat:Int))) rfl rfl rfl ?_)
 refine xz 4 (.d (.val (.int .u32 (((q6 x0 (((BitVec.ofInt 64 k1)&&& (31:BitVec 64)).toNat:Int))||| (oL x0 (((32:BitVec 64)-((BitVec.ofInt 64 k1)&&& (31:BitVec 64))).toNat:Int))).toNat:Int)))) ?_
 refine QW.ret zL ?_
 obtain rfl:=sO h
 exact Ends.one (.inr rfl) rfl (aI.tmp rfl) rfl rfl
noncomputable def lz (n0:Int) (v1:(BitVec 32)):Option (BitVec 32):=
  gO (bw (0-n0)) (
  ((iI v1 (0-n0)).bind fun (x_2:(BitVec 32))=>
  some x_2))
theorem oX (n0:Int) (v1:(BitVec 32)) (r:(BitVec 32)) (h:lz n0 v1=some r):bI Tryz.prog 112 [.val (.int .i64 n0), .cA ([.val (.int .u32 (v1.toNat:Int))])] (.val (.int .u32 (r.toNat:Int))):=by
 refine bI.aU Tryz.func112 rfl (by simp [Tryz.ntmps112]) ?_
 rw [Tryz.ntmps112,TT.S1]
 refine QW.view (s':=⟨aG [(0,pI n0),(1, .d (.cA ([.val (.int .u32 (v1.toNat:Int))])))],aj [],0,[]⟩) (View.init (by rfl)) zL ?_
 unfold lz at h
 refine sR ?_
 refine xz 3 (.d (.val (.int .u32 ((0:BitVec 32).toNat:Int)))) ?_
 refine sR ?_
 refine xs 4 rfl (aC (d:= .val (.int .u32 (v1.toNat:Int))) rfl TT.eN rfl (c8.one) ?_)
 refine xm 5 (pI n0) ?_
 obtain ⟨nV,h⟩:=bk h
 refine xs 6 rfl (Uc (a:=n0) rfl rfl nV ?_)
 obtain ⟨x_2,nI,h⟩:=bO h
 refine xs 7 rfl (aA rfl rfl TT.Mb rfl (u0 v1 (0-n0) _ nI) ?_)
 refine xz 3 (.d (.val (.int .u32 (x_2.toNat:Int)))) ?_
 refine QW.ret zL ?_
 obtain rfl:=sO h
 exact Ends.one (.inr rfl) rfl (aI.tmp rfl) rfl rfl
noncomputable def kU (x0:(BitVec 32)) (a1:Int) (b2:Int) (c3:Int) (y3:Bool):Option (BitVec 32):=
  (bif y3 then
  ((lz a1 x0).bind fun (x_2:(BitVec 32))=>
  ((lz b2 x0).bind fun (x_4:(BitVec 32))=>
  gO (0≤c3) (
  some ((x_2^^^x_4)^^^(oL x0 c3)))))
  else
  ((lz a1 x0).bind fun (x_7:(BitVec 32))=>
  ((lz b2 x0).bind fun (x_9:(BitVec 32))=>
  ((lz c3 x0).bind fun (x_11:(BitVec 32))=>
  some ((x_7^^^x_9)^^^x_11)))))
theorem u5 (x0:(BitVec 32)) (a1:Int) (b2:Int) (c3:Int) (y3:Bool) (r:(BitVec 32)) (h:kU x0 a1 b2 c3 y3=some r):bI Tryz.prog 105 [.val (.int .u32 (x0.toNat:Int)), .val (.int .i64 a1), .val (.int .i64 b2), .val (.int .i64 c3), .val (.bool y3)] (.val (.int .u32 (r.toNat:Int))):=by
 refine bI.aU Tryz.func105 rfl (by simp [Tryz.ntmps105]) ?_
 rw [Tryz.ntmps105,TT.SZ]
 refine QW.view (s':=⟨aG [(0, .d (.val (.int .u32 (x0.toNat:Int)))),(1,pI a1),(2,pI b2),(3,pI c3),(4,pB y3)],aj [],0,[]⟩) (View.init (by rfl)) zL ?_
 unfold kU at h
 refine sR ?_
 refine XK.fz (some 5) rfl rfl (fl (ds:=[.val (.int .u32 (x0.toNat:Int))]) rfl rfl rfl rfl rfl ?_)
 refine xz 10 (.d (.val (.int .u32 ((0:BitVec 32).toNat:Int)))) ?_
 refine sR ?_
 refine xs 12 rfl (Lo rfl rfl ?_)
 refine xz 11 (.d (.gT 112 [.cA ([.val (.int .u32 (x0.toNat:Int))])])) ?_
 refine QW.seq ?_
 refine sR ?_
 refine xm 13 (pB y3) ?_
 refine XK.nz ?_
 refine QW.cond (t:=y3) rfl zL (fun dh=>?_) (fun dh=>?_)
 ·replace h:=bT h dh
  refine QW.seq ?_
  refine QW.region zL (PW.kX (id:=3) dc (M:=_) rfl (by kernel_rfl) ?_)
  refine RQ.st (some 14) rfl rfl (au (v:= .d (.gT 112 [.cA ([.val (.int .u32 (x0.toNat:Int))])])) rfl rfl ⟨⟨rfl,rfl⟩,?_⟩)
  refine RQ.st (some 15) rfl rfl (au (v:=pI a1) rfl rfl ⟨⟨rfl,rfl⟩,?_⟩)
  obtain ⟨x_2,nI,h⟩:=bO h
  refine RQ.st (some 16) rfl rfl (wW rfl rfl rfl TT.tZ rfl (oX a1 x0 _ nI) ⟨⟨rfl,rfl⟩,?_⟩)
  refine RQ.st (some 17) rfl rfl (au (v:= .d (.gT 112 [.cA ([.val (.int .u32 (x0.toNat:Int))])])) rfl rfl ⟨⟨rfl,rfl⟩,?_⟩)
  refine RQ.st (some 18) rfl rfl (au (v:=pI b2) rfl rfl ⟨⟨rfl,rfl⟩,?_⟩)
  obtain ⟨x_4,kZ,h⟩:=bO h
  refine RQ.st (some 19) rfl rfl (wW rfl rfl rfl TT.tZ rfl (oX b2 x0 _ kZ) ⟨⟨rfl,rfl⟩,?_⟩)
  refine RQ.st (some 20) rfl rfl (j6 (a:=x_2) (b:=x_4) rfl rfl rfl ⟨⟨rfl,rfl⟩,?_⟩)
  refine RQ.st (some 21) rfl rfl (aC (d:= .val (.int .u32 (x0.toNat:Int))) rfl TT.eN rfl (c8.one) ⟨⟨rfl,rfl⟩,?_⟩)
  refine RQ.st (some 22) rfl rfl (au (v:=pI c3) rfl rfl ⟨⟨rfl,rfl⟩,?_⟩)
  obtain ⟨mJ,h⟩:=bk h
  refine RQ.st (some 23) rfl rfl (A4 (a:=x0) (c:=c3) rfl rfl rfl mJ ⟨⟨rfl,rfl⟩,?_⟩)
  refine RQ.st (some 24) rfl rfl (j6 (a:=(x_2^^^x_4)) (b:=(oL x0 c3)) rfl rfl rfl ⟨⟨rfl,rfl⟩,?_⟩)
  refine RQ.st (some 10) rfl rfl (cq (v:= .d (.val (.int .u32 (((x_2^^^x_4)^^^(oL x0 c3)).toNat:Int)))) rfl rfl ⟨⟨rfl,rfl⟩,?_⟩)
  refine RQ.nil (aX ?_)
  refine QW.ret zL (gm ?_)
  obtain rfl:=sO h
  exact Ends.one (.inr rfl) rfl (aI.tmp rfl) rfl rfl
 ·replace h:=bF h dh
  refine QW.skip zL (aX ?_)
  refine sR ?_
  refine xm 25 (.d (.gT 112 [.cA ([.val (.int .u32 (x0.toNat:Int))])])) ?_
  refine xm 26 (pI a1) ?_
  obtain ⟨x_7,pR,h⟩:=bO h
  refine xs 27 rfl (wW rfl rfl rfl TT.tZ rfl (oX a1 x0 _ pR) ?_)
  refine xm 28 (.d (.gT 112 [.cA ([.val (.int .u32 (x0.toNat:Int))])])) ?_
  refine xm 29 (pI b2) ?_
  obtain ⟨x_9,Ch,h⟩:=bO h
  refine xs 30 rfl (wW rfl rfl rfl TT.tZ rfl (oX b2 x0 _ Ch) ?_)
  refine xs 31 rfl (j6 (a:=x_7) (b:=x_9) rfl rfl rfl ?_)
  refine xm 32 (.d (.gT 112 [.cA ([.val (.int .u32 (x0.toNat:Int))])])) ?_
  refine xm 33 (pI c3) ?_
  obtain ⟨x_11,pY,h⟩:=bO h
  refine xs 34 rfl (wW rfl rfl rfl TT.tZ rfl (oX c3 x0 _ pY) ?_)
  refine xs 35 rfl (j6 (a:=(x_7^^^x_9)) (b:=x_11) rfl rfl rfl ?_)
  refine xz 10 (.d (.val (.int .u32 (((x_7^^^x_9)^^^x_11).toNat:Int)))) ?_
  refine QW.ret zL ?_
  obtain rfl:=sO h
  exact Ends.one (.inr rfl) rfl (aI.tmp rfl) rfl rfl
inductive Dm where
 | S
 | L1 (v6:Int) (v3:(aE 64 (BitVec 32)))
 | L2 (v5:Int) (eJ:(aE 64 (BitVec 32)))
noncomputable def ga (s0:(List UInt8)):Dm→Option (Dm⊕(aE 64 (BitVec 32)))
 | .S=>
  some (.inl (.L1 (0) (aE.rep 64 (0:BitVec 32))))
 | .L1 v6 v3=>
  (bif (decide (v6<(16:Int))) then
  gO (bw ((4:Int)*v6)) (
  gO (0≤((4:Int)*v6)∧((4:Int)*v6)≤(s0.length:Int)∧(s0.length:Int)≤(s0.length:Int)) (
  ((ua (sub s0 ((4:Int)*v6) (s0.length:Int))).bind fun (x_5:(BitVec 32))=>
  gO (0≤v6∧v6<((64:Nat):Int)) (
  gO (bw (v6+(1:Int))) (
  some (.inl (.L1 (v6+(1:Int)) (v3.put v6 x_5))))))))
  else
  some (.inl (.L2 (16) v3)))
 | .L2 v5 eJ=>
  (bif (decide (v5<(64:Int))) then
  gO (bw (v5-(16:Int))) (
  gO (0≤(v5-(16:Int))∧(v5-(16:Int))<((64:Nat):Int)) (
  gO (bw (v5-(15:Int))) (
  gO (0≤(v5-(15:Int))∧(v5-(15:Int))<((64:Nat):Int)) (
  ((kU (idx eJ.1 (v5-(15:Int))) (7) (18) (3) true).bind fun (x_15:(BitVec 32))=>
  gO (bw (v5-(7:Int))) (
  gO (0≤(v5-(7:Int))∧(v5-(7:Int))<((64:Nat):Int)) (
  gO (bw (v5-(2:Int))) (
  gO (0≤(v5-(2:Int))∧(v5-(2:Int))<((64:Nat):Int)) (
  ((kU (idx eJ.1 (v5-(2:Int))) (17) (19) (10) true).bind fun (x_21:(BitVec 32))=>
  gO (0≤v5∧v5<((64:Nat):Int)) (
  gO (bw (v5+(1:Int))) (
  some (.inl (.L2 (v5+(1:Int)) (eJ.put v5 ((((idx eJ.1 (v5-(16:Int)))+x_15)+(idx eJ.1 (v5-(7:Int))))+x_21))))))))))))))))
  else
  some (.inr eJ))
noncomputable def y4 (s0:(List UInt8)):Option (aE 64 (BitVec 32)):=g9 (ga s0) .S
theorem G1 (s0:(List UInt8)) (r:(aE 64 (BitVec 32))) (h:y4 s0=some r):bI Tryz.prog 103 [.val (sV s0)] (.agg (r.1.map eK)):=by
 refine bI.aU Tryz.func103 rfl (by simp [Tryz.ntmps103]) ?_
 rw [Tryz.ntmps103,TT.SX]
 refine QW.view (s':=⟨aG [(0,pS s0)],aj [],0,[]⟩) (View.init (by rfl)) zL ?_
 replace h:=cL h
 obtain ⟨_,h⟩:=h
 obtain ⟨dm,rfl,h9⟩:=aQ h;replace h:=h9;clear h9;rw [ga] at h
 refine sR ?_
 refine xs 2 rfl (bB (l:=(((aE.rep 64 (0:BitVec 32)).1.map eK).map .d)) rfl TT.vR rfl rfl ?_)
 refine XK.nz ?_
 refine sR ?_
 refine xs 3 rfl (bB (l:=(((aE.rep 64 (0:BitVec 32)).1.map eK).map .d)) rfl TT.vR rfl rfl ?_)
 refine XK.nz ?_
 refine QW.seq ?_
 refine sR ?_
 refine xm 6 (pI (0)) ?_
 refine XK.nz ?_
 refine QW.block ?_
 refine QW.loop (fun k σ=>∃ v6:Int,∃ v3:(aE 64 (BitVec 32)),k≤dm∧run (ga s0) k (.L1 v6 v3)=some r∧σ=⟨aG [(0,pS s0),(2, .aF 0 0),(3, .aF 1 0),(6,pI v6)],aj [.var (((aE.rep 64 (0:BitVec 32)).1.map eK).map .d), .var ((v3.1.map eK).map .d)],2,[]⟩) dm zL ⟨⟨aG [(0,pS s0),(2, .aF 0 0),(3, .aF 1 0),(6,pI (0))],aj [.var (((aE.rep 64 (0:BitVec 32)).1.map eK).map .d), .var (((aE.rep 64 (0:BitVec 32)).1.map eK).map .d)],2,[]⟩,View.mk 2 [0,1] _ _ _ rfl rfl (by decide) (iC (iC (iC (iC trivial)))) (And.intro (by simp only [cv,bq,PV.bK];rfl) (And.intro (by simp only [cv,bq,PV.bK];rfl) trivial)) rfl zL rfl,0,(aE.rep 64 (0:BitVec 32)),Nat.le_refl _,jG h,rfl⟩ ?_
 rintro rO _ ⟨v6,v3,rP,h,rfl⟩
 obtain ⟨k_1,rfl,h9⟩:=aQ h;replace h:=h9;clear h9;rw [ga] at h
 refine sR ?_
 refine xs 7 rfl (cJ (a:=v6) (b:=(16:Int)) rfl rfl rfl ?_)
 refine XK.nz ?_
 refine QW.seq ?_
 refine QW.cond (t:=(decide (v6<(16:Int)))) rfl zL (fun cB=>?_) (fun cB=>?_)
 ·replace h:=fF h cB
  refine QW.skip zL (aX ?_)
  refine QW.seq ?_
  refine QW.block ?_
  refine sR ?_
  refine xm 8 (pI v6) ?_
  refine xz 4 (pI v6) ?_
  refine rG ?_
  refine xm 9 (pI v6) ?_
  refine xm 10 (pS s0) ?_
  refine xm 11 (pI v6) ?_
  obtain ⟨dS,h⟩:=gG h
  refine xs 12 rfl (wT (a:=(4:Int)) (b:=v6) rfl rfl rfl dS ?_)
  obtain ⟨mH,h⟩:=gG h
  refine xs 13 rfl (tN (l:=s0) (a:=((4:Int)*v6)) (b:=(s0.length:Int)) rfl TT.bY rfl rfl rfl mH ?_)
  obtain ⟨x_5,sJ,h⟩:=bG h
  refine xs 14 rfl (aA rfl rfl TT.Ma rfl (Ix (sub s0 ((4:Int)*v6) (s0.length:Int)) _ sJ) ?_)
  obtain ⟨lQ,h⟩:=gG h
  refine xs 15 rfl (cV (i:=v6) rfl TT.rC TT.rB rfl rfl lQ ?_)
  refine XK.st none rfl rfl (bh (l':=(((v3.put v6 x_5).1.map eK).map .d)) rfl TT.eN rfl rfl rfl rfl rfl rfl (rM lQ) (p9 lQ) ?_)
  refine XK.nil (g6 (aX ?_))
  refine rG ?_
  obtain ⟨p5,h⟩:=gG h
  refine xs 16 rfl (bX (a:=v6) (b:=(1:Int)) rfl rfl rfl p5 ?_)
  refine xm 6 (pI (v6+(1:Int))) ?_
  refine XK.nz ?_
  exact ⟨k_1,by omega,⟨aG [(0,pS s0),(2, .aF 0 0),(3, .aF 1 0),(6,pI (v6+(1:Int)))],aj [.var (((aE.rep 64 (0:BitVec 32)).1.map eK).map .d), .var (((v3.put v6 x_5).1.map eK).map .d)],2,[]⟩,View.mk 2 [0,1] _ _ _ rfl rfl (by decide) (iC (iC (iC (iC trivial)))) (And.intro (by simp only [cv,bq,PV.bK];rfl) (And.intro (by simp only [cv,bq,PV.bK];rfl) trivial)) rfl zL rfl,(v6+(1:Int)),(v3.put v6 x_5),by omega,jG h,rfl⟩
 ·replace h:=fG h cB
  refine QW.exit zL (eD (eD (j3 (aX ?_))))
  refine QW.seq ?_
  refine sR ?_
  refine xz 5 (pI (16)) ?_
  refine QW.block ?_
  refine QW.loop (fun k σ=>∃ v5:Int,∃ eJ:(aE 64 (BitVec 32)),k≤k_1∧run (ga s0) k (.L2 v5 eJ)=some r∧σ=⟨aG [(2, .aF 0 0),(3, .aF 1 0),(5,pI v5)],aj [.var (((aE.rep 64 (0:BitVec 32)).1.map eK).map .d), .var ((eJ.1.map eK).map .d)],2,[]⟩) k_1 zL ⟨⟨aG [(2, .aF 0 0),(3, .aF 1 0),(5,pI (16))],aj [.var (((aE.rep 64 (0:BitVec 32)).1.map eK).map .d), .var ((v3.1.map eK).map .d)],2,[]⟩,View.mk 2 [0,1] _ _ _ rfl rfl (by decide) (iC (iC (iC trivial))) (And.intro (by simp only [cv,bq,PV.bK];rfl) (And.intro (by simp only [cv,bq,PV.bK];rfl) trivial)) rfl zL rfl,16,v3,Nat.le_refl _,jG h,rfl⟩ ?_
  rintro abk _ ⟨v5,eJ,abl,h,rfl⟩
  obtain ⟨k_9,rfl,h9⟩:=aQ h;replace h:=h9;clear h9;rw [ga] at h
  refine QW.seq ?_
  refine sR ?_
  refine xm 17 (pI v5) ?_
  refine xs 18 rfl (cJ (a:=v5) (b:=(64:Int)) rfl rfl rfl ?_)
  refine XK.nz ?_
  refine QW.cond (t:=(decide (v5<(64:Int)))) rfl zL (fun qM=>?_) (fun qM=>?_)
  ·replace h:=fF h qM
   refine QW.skip zL (aX ?_)
   refine QW.seq ?_
   refine QW.block ?_
   refine QW.region zL (PW.rL (id:=10) dc (M:=_) rfl (by kernel_rfl) ?_)
   refine RK.st (some 21) rfl rfl (au (v:=pI v5) rfl rfl ?_)
   refine RK.st (some 22) rfl rfl (au (v:=pI v5) rfl rfl ?_)
   obtain ⟨vH,h⟩:=gG h
   refine RK.st (some 23) rfl rfl (mE (a:=v5) (b:=(16:Int)) rfl rfl rfl vH ?_)
   obtain ⟨m5,h⟩:=gG h
   refine RK.st (some 24) rfl rfl (cV (i:=(v5-(16:Int))) rfl TT.rC TT.rB rfl rfl m5 ?_)
   refine RK.st (some 25) rfl rfl (bD (v:= .d (.val (.int .u32 ((idx eJ.1 (v5-(16:Int))).toNat:Int)))) rfl TT.eN rfl rfl (fI m5) ?_)
   refine RK.st (some 26) rfl rfl (au (v:=pI v5) rfl rfl ?_)
   obtain ⟨nJ,h⟩:=gG h
   refine RK.st (some 27) rfl rfl (mE (a:=v5) (b:=(15:Int)) rfl rfl rfl nJ ?_)
   obtain ⟨rQ,h⟩:=gG h
   refine RK.st (some 28) rfl rfl (cV (i:=(v5-(15:Int))) rfl TT.rC TT.rB rfl rfl rQ ?_)
   refine RK.st (some 29) rfl rfl (bD (v:= .d (.val (.int .u32 ((idx eJ.1 (v5-(15:Int))).toNat:Int)))) rfl TT.eN rfl rfl (fI rQ) ?_)
   obtain ⟨x_15,vF,h⟩:=bG h
   refine RK.st (some 30) rfl rfl (aA rfl rfl TT.w9 rfl (u5 (idx eJ.1 (v5-(15:Int))) (7) (18) (3) true _ vF) ?_)
   refine RK.st (some 31) rfl rfl (fU (a:=(idx eJ.1 (v5-(16:Int)))) (b:=x_15) rfl rfl rfl ?_)
   refine RK.st (some 32) rfl rfl (au (v:=pI v5) rfl rfl ?_)
   obtain ⟨pT,h⟩:=gG h
   refine RK.st (some 33) rfl rfl (mE (a:=v5) (b:=(7:Int)) rfl rfl rfl pT ?_)
   obtain ⟨rA,h⟩:=gG h
   refine RK.st (some 34) rfl rfl (cV (i:=(v5-(7:Int))) rfl TT.rC TT.rB rfl rfl rA ?_)
   refine RK.st (some 35) rfl rfl (bD (v:= .d (.val (.int .u32 ((idx eJ.1 (v5-(7:Int))).toNat:Int)))) rfl TT.eN rfl rfl (fI rA) ?_)
   refine RK.st (some 36) rfl rfl (fU (a:=((idx eJ.1 (v5-(16:Int)))+x_15)) (b:=(idx eJ.1 (v5-(7:Int)))) rfl rfl rfl ?_)
   refine RK.st (some 37) rfl rfl (au (v:=pI v5) rfl rfl ?_)
   obtain ⟨yj,h⟩:=gG h
   refine RK.st (some 38) rfl rfl (mE (a:=v5) (b:=(2:Int)) rfl rfl rfl yj ?_)
   obtain ⟨vS,h⟩:=gG h
   refine RK.st (some 39) rfl rfl (cV (i:=(v5-(2:Int))) rfl TT.rC TT.rB rfl rfl vS ?_)
   refine RK.st (some 40) rfl rfl (bD (v:= .d (.val (.int .u32 ((idx eJ.1 (v5-(2:Int))).toNat:Int)))) rfl TT.eN rfl rfl (fI vS) ?_)
   obtain ⟨x_21,G2,h⟩:=bG h
   refine RK.st (some 41) rfl rfl (aA rfl rfl TT.w9 rfl (u5 (idx eJ.1 (v5-(2:Int))) (17) (19) (10) true _ G2) ?_)
   refine RK.st (some 42) rfl rfl (fU (a:=(((idx eJ.1 (v5-(16:Int)))+x_15)+(idx eJ.1 (v5-(7:Int))))) (b:=x_21) rfl rfl rfl ?_)
   obtain ⟨Dh,h⟩:=gG h
   refine RK.st (some 43) rfl rfl (cV (i:=v5) rfl TT.rC TT.rB rfl rfl Dh ?_)
   refine RK.st none rfl rfl (bh (l':=(((eJ.put v5 ((((idx eJ.1 (v5-(16:Int)))+x_15)+(idx eJ.1 (v5-(7:Int))))+x_21)).1.map eK).map .d)) rfl TT.eN rfl rfl rfl rfl rfl rfl (rM Dh) (p9 Dh) ?_)
   refine RK.nil ⟨fT.comp (by rfl),(g6 (aX ?_))⟩
   refine QW.view (s':=⟨aG [(2, .aF 0 0),(3, .aF 1 0),(5,pI v5)],aj [.var (((aE.rep 64 (0:BitVec 32)).1.map eK).map .d), .var (((eJ.put v5 ((((idx eJ.1 (v5-(16:Int)))+x_15)+(idx eJ.1 (v5-(7:Int))))+x_21)).1.map eK).map .d)],2,[]⟩) (View.mk 2 [0,1] _ _ _ rfl rfl (by decide) (iC (iC (iC trivial))) (And.intro (by simp only [cv,bq,PV.bK];rfl) (And.intro (by simp only [cv,bq,PV.bK];rfl) trivial)) rfl zL rfl) zL ?_
   refine rG ?_
   refine xm 19 (pI v5) ?_
   obtain ⟨w5,h⟩:=gG h
   refine xs 20 rfl (bX (a:=v5) (b:=(1:Int)) rfl rfl rfl w5 ?_)
   refine xz 5 (pI (v5+(1:Int))) ?_
   exact ⟨k_9,by omega,⟨aG [(2, .aF 0 0),(3, .aF 1 0),(5,pI (v5+(1:Int)))],aj [.var (((aE.rep 64 (0:BitVec 32)).1.map eK).map .d), .var (((eJ.put v5 ((((idx eJ.1 (v5-(16:Int)))+x_15)+(idx eJ.1 (v5-(7:Int))))+x_21)).1.map eK).map .d)],2,[]⟩,View.mk 2 [0,1] _ _ _ rfl rfl (by decide) (iC (iC (iC trivial))) (And.intro (by simp only [cv,bq,PV.bK];rfl) (And.intro (by simp only [cv,bq,PV.bK];rfl) trivial)) rfl zL rfl,(v5+(1:Int)),(eJ.put v5 ((((idx eJ.1 (v5-(16:Int)))+x_15)+(idx eJ.1 (v5-(7:Int))))+x_21)),by omega,jG h,rfl⟩
  ·replace h:=fG h qM
   refine QW.exit zL (eD (eD (j3 (aX ?_))))
   refine sR ?_
   refine XK.as (some 44) rfl rfl (bD (v:= .agg ((eJ.1.map eK).map .d)) rfl TT.vP rfl rfl (ju (by decide)) ⟨.d (.agg (eJ.1.map eK)),gV,?_⟩)
   refine XK.st none rfl rfl (bh (l':=((eJ.1.map eK).map .d)) rfl TT.vP rfl rfl rfl rfl rfl (aq _) (nh _) (cQ ((aq _).trans (aq _).symm)) ?_)
   refine XK.nz ?_
   refine QW.ret zL ?_
   obtain rfl:=sG h
   exact Ends.one (.inr rfl) rfl (aI.cell rfl rfl TT.vP (ju (by decide))) (oK cH) rfl
noncomputable def xK:Option (aE 64 (BitVec 32)):=
  some (⟨[(1116352408:BitVec 32),(1899447441:BitVec 32),(3049323471:BitVec 32),(3921009573:BitVec 32),(961987163:BitVec 32),(1508970993:BitVec 32),(2453635748:BitVec 32),(2870763221:BitVec 32),(3624381080:BitVec 32),(310598401:BitVec 32),(607225278:BitVec 32),(1426881987:BitVec 32),(1925078388:BitVec 32),(2162078206:BitVec 32),(2614888103:BitVec 32),(3248222580:BitVec 32),(3835390401:BitVec 32),(4022224774:BitVec 32),(264347078:BitVec 32),(604807628:BitVec 32),(770255983:BitVec 32),(1249150122:BitVec 32),(1555081692:BitVec 32),(1996064986:BitVec 32),(2554220882:BitVec 32),(2821834349:BitVec 32),(2952996808:BitVec 32),(3210313671:BitVec 32),(3336571891:BitVec 32),(3584528711:BitVec 32),(113926993:BitVec 32),(338241895:BitVec 32),(666307205:BitVec 32),(773529912:BitVec 32),(1294757372:BitVec 32),(1396182291:BitVec 32),(1695183700:BitVec 32),(1986661051:BitVec 32),(2177026350:BitVec 32),(2456956037:BitVec 32),(2730485921:BitVec 32),(2820302411:BitVec 32),(3259730800:BitVec 32),(3345764771:BitVec 32),(3516065817:BitVec 32),(3600352804:BitVec 32),(4094571909:BitVec 32),(275423344:BitVec 32),(430227734:BitVec 32),(506948616:BitVec 32),(659060556:BitVec 32),(883997877:BitVec 32),(958139571:BitVec 32),(1322822218:BitVec 32),(1537002063:BitVec 32),(1747873779:BitVec 32),(1955562222:BitVec 32),(2024104815:BitVec 32),(2227730452:BitVec 32),(2361852424:BitVec 32),(2428436474:BitVec 32),(2756734187:BitVec 32),(3204031479:BitVec 32),(3329325298:BitVec 32)],rfl⟩:(aE 64 (BitVec 32)))
theorem Fv (r:(aE 64 (BitVec 32))) (h:xK=some r):bI Tryz.prog 104 [] (.agg (r.1.map eK)):=by
 refine bI.aU Tryz.func104 rfl (by simp [Tryz.ntmps104]) ?_
 rw [Tryz.ntmps104,TT.SY]
 refine QW.view (s':=⟨aG [],aj [],0,[]⟩) (View.init (by rfl)) zL ?_
 unfold xK at h
 refine sR ?_
 refine xs 0 rfl (bB (l:=(((aE.rep 64 (0:BitVec 32)).1.map eK).map .d)) rfl TT.vR rfl rfl ?_)
 refine XK.nz ?_
 refine sR ?_
 refine XK.as (some 1) rfl rfl (vb (v:= .agg [.d (.val (.int .u32 ((1116352408:BitVec 32).toNat:Int))), .d (.val (.int .u32 ((1899447441:BitVec 32).toNat:Int))), .d (.val (.int .u32 ((3049323471:BitVec 32).toNat:Int))), .d (.val (.int .u32 ((3921009573:BitVec 32).toNat:Int))), .d (.val (.int .u32 ((961987163:BitVec 32).toNat:Int))), .d (.val (.int .u32 ((1508970993:BitVec 32).toNat:Int))), .d (.val (.int .u32 ((2453635748:BitVec 32).toNat:Int))), .d (.val (.int .u32 ((2870763221:BitVec 32).toNat:Int))), .d (.val (.int .u32 ((3624381080:BitVec 32).toNat:Int))), .d (.val (.int .u32 ((310598401:BitVec 32).toNat:Int))), .d (.val (.int .u32 ((607225278:BitVec 32).toNat:Int))), .d (.val (.int .u32 ((1426881987:BitVec 32).toNat:Int))), .d (.val (.int .u32 ((1925078388:BitVec 32).toNat:Int))), .d (.val (.int .u32 ((2162078206:BitVec 32).toNat:Int))), .d (.val (.int .u32 ((2614888103:BitVec 32).toNat:Int))), .d (.val (.int .u32 ((3248222580:BitVec 32).toNat:Int))), .d (.val (.int .u32 ((3835390401:BitVec 32).toNat:Int))), .d (.val (.int .u32 ((4022224774:BitVec 32).toNat:Int))), .d (.val (.int .u32 ((264347078:BitVec 32).toNat:Int))), .d (.val (.int .u32 ((604807628:BitVec 32).toNat:Int))), .d (.val (.int .u32 ((770255983:BitVec 32).toNat:Int))), .d (.val (.int .u32 ((1249150122:BitVec 32).toNat:Int))), .d (.val (.int .u32 ((1555081692:BitVec 32).toNat:Int))), .d (.val (.int .u32 ((1996064986:BitVec 32).toNat:Int))), .d (.val (.int .u32 ((2554220882:BitVec 32).toNat:Int))), .d (.val (.int .u32 ((2821834349:BitVec 32).toNat:Int))), .d (.val (.int .u32 ((2952996808:BitVec 32).toNat:Int))), .d (.val (.int .u32 ((3210313671:BitVec 32).toNat:Int))), .d (.val (.int .u32 ((3336571891:BitVec 32).toNat:Int))), .d (.val (.int .u32 ((3584528711:BitVec 32).toNat:Int))), .d (.val (.int .u32 ((113926993:BitVec 32).toNat:Int))), .d (.val (.int .u32 ((338241895:BitVec 32).toNat:Int))), .d (.val (.int .u32 ((666307205:BitVec 32).toNat:Int))), .d (.val (.int .u32 ((773529912:BitVec 32).toNat:Int))), .d (.val (.int .u32 ((1294757372:BitVec 32).toNat:Int))), .d (.val (.int .u32 ((1396182291:BitVec 32).toNat:Int))), .d (.val (.int .u32 ((1695183700:BitVec 32).toNat:Int))), .d (.val (.int .u32 ((1986661051:BitVec 32).toNat:Int))), .d (.val (.int .u32 ((2177026350:BitVec 32).toNat:Int))), .d (.val (.int .u32 ((2456956037:BitVec 32).toNat:Int))), .d (.val (.int .u32 ((2730485921:BitVec 32).toNat:Int))), .d (.val (.int .u32 ((2820302411:BitVec 32).toNat:Int))), .d (.val (.int .u32 ((3259730800:BitVec 32).toNat:Int))), .d (.val (.int .u32 ((3345764771:BitVec 32).toNat:Int))), .d (.val (.int .u32 ((3516065817:BitVec 32).toNat:Int))), .d (.val (.int .u32 ((3600352804:BitVec 32).toNat:Int))), .d (.val (.int .u32 ((4094571909:BitVec 32).toNat:Int))), .d (.val (.int .u32 ((275423344:BitVec 32).toNat:Int))), .d (.val (.int .u32 ((430227734:BitVec 32).toNat:Int))), .d (.val (.int .u32 ((506948616:BitVec 32).toNat:Int))), .d (.val (.int .u32 ((659060556:BitVec 32).toNat:Int))), .d (.val (.int .u32 ((883997877:BitVec 32).toNat:Int))), .d (.val (.int .u32 ((958139571:BitVec 32).toNat:Int))), .d (.val (.int .u32 ((1322822218:BitVec 32).toNat:Int))), .d (.val (.int .u32 ((1537002063:BitVec 32).toNat:Int))), .d (.val (.int .u32 ((1747873779:BitVec 32).toNat:Int))), .d (.val (.int .u32 ((1955562222:BitVec 32).toNat:Int))), .d (.val (.int .u32 ((2024104815:BitVec 32).toNat:Int))), .d (.val (.int .u32 ((2227730452:BitVec 32).toNat:Int))), .d (.val (.int .u32 ((2361852424:BitVec 32).toNat:Int))), .d (.val (.int .u32 ((2428436474:BitVec 32).toNat:Int))), .d (.val (.int .u32 ((2756734187:BitVec 32).toNat:Int))), .d (.val (.int .u32 ((3204031479:BitVec 32).toNat:Int))), .d (.val (.int .u32 ((3329325298:BitVec 32).toNat:Int)))]) rfl (by rw [TT.Jk];simp [k9,k8,placeOf,ot,aB,PV.cz,PV.hY,Value.oneCell',l6,nM,dQ,List.all,cx,aG,jA,iU,bU,jX]) (by rw [TT.Jk];rfl) ⟨.d (.agg ((⟨[(1116352408:BitVec 32),(1899447441:BitVec 32),(3049323471:BitVec 32),(3921009573:BitVec 32),(961987163:BitVec 32),(1508970993:BitVec 32),(2453635748:BitVec 32),(2870763221:BitVec 32),(3624381080:BitVec 32),(310598401:BitVec 32),(607225278:BitVec 32),(1426881987:BitVec 32),(1925078388:BitVec 32),(2162078206:BitVec 32),(2614888103:BitVec 32),(3248222580:BitVec 32),(3835390401:BitVec 32),(4022224774:BitVec 32),(264347078:BitVec 32),(604807628:BitVec 32),(770255983:BitVec 32),(1249150122:BitVec 32),(1555081692:BitVec 32),(1996064986:BitVec 32),(2554220882:BitVec 32),(2821834349:BitVec 32),(2952996808:BitVec 32),(3210313671:BitVec 32),(3336571891:BitVec 32),(3584528711:BitVec 32),(113926993:BitVec 32),(338241895:BitVec 32),(666307205:BitVec 32),(773529912:BitVec 32),(1294757372:BitVec 32),(1396182291:BitVec 32),(1695183700:BitVec 32),(1986661051:BitVec 32),(2177026350:BitVec 32),(2456956037:BitVec 32),(2730485921:BitVec 32),(2820302411:BitVec 32),(3259730800:BitVec 32),(3345764771:BitVec 32),(3516065817:BitVec 32),(3600352804:BitVec 32),(4094571909:BitVec 32),(275423344:BitVec 32),(430227734:BitVec 32),(506948616:BitVec 32),(659060556:BitVec 32),(883997877:BitVec 32),(958139571:BitVec 32),(1322822218:BitVec 32),(1537002063:BitVec 32),(1747873779:BitVec 32),(1955562222:BitVec 32),(2024104815:BitVec 32),(2227730452:BitVec 32),(2361852424:BitVec 32),(2428436474:BitVec 32),(2756734187:BitVec 32),(3204031479:BitVec 32),(3329325298:BitVec 32)],rfl⟩:(aE 64 (BitVec 32))).1.map eK)),(iH.dj rfl),?_⟩)
 refine XK.st none rfl rfl (bh (l':=(((⟨[(1116352408:BitVec 32),(1899447441:BitVec 32),(3049323471:BitVec 32),(3921009573:BitVec 32),(961987163:BitVec 32),(1508970993:BitVec 32),(2453635748:BitVec 32),(2870763221:BitVec 32),(3624381080:BitVec 32),(310598401:BitVec 32),(607225278:BitVec 32),(1426881987:BitVec 32),(1925078388:BitVec 32),(2162078206:BitVec 32),(2614888103:BitVec 32),(3248222580:BitVec 32),(3835390401:BitVec 32),(4022224774:BitVec 32),(264347078:BitVec 32),(604807628:BitVec 32),(770255983:BitVec 32),(1249150122:BitVec 32),(1555081692:BitVec 32),(1996064986:BitVec 32),(2554220882:BitVec 32),(2821834349:BitVec 32),(2952996808:BitVec 32),(3210313671:BitVec 32),(3336571891:BitVec 32),(3584528711:BitVec 32),(113926993:BitVec 32),(338241895:BitVec 32),(666307205:BitVec 32),(773529912:BitVec 32),(1294757372:BitVec 32),(1396182291:BitVec 32),(1695183700:BitVec 32),(1986661051:BitVec 32),(2177026350:BitVec 32),(2456956037:BitVec 32),(2730485921:BitVec 32),(2820302411:BitVec 32),(3259730800:BitVec 32),(3345764771:BitVec 32),(3516065817:BitVec 32),(3600352804:BitVec 32),(4094571909:BitVec 32),(275423344:BitVec 32),(430227734:BitVec 32),(506948616:BitVec 32),(659060556:BitVec 32),(883997877:BitVec 32),(958139571:BitVec 32),(1322822218:BitVec 32),(1537002063:BitVec 32),(1747873779:BitVec 32),(1955562222:BitVec 32),(2024104815:BitVec 32),(2227730452:BitVec 32),(2361852424:BitVec 32),(2428436474:BitVec 32),(2756734187:BitVec 32),(3204031479:BitVec 32),(3329325298:BitVec 32)],rfl⟩:(aE 64 (BitVec 32))).1.map eK).map .d)) rfl TT.vP rfl rfl rfl rfl rfl (aq _) (nh _) (cQ ((aq _).trans (aq _).symm)) ?_)
 refine XK.nz ?_
 refine QW.ret zL ?_
 obtain rfl:=sO h
 exact Ends.one (.inr rfl) rfl (aI.cell rfl rfl TT.vP (ju (by decide))) (oK cH) rfl
inductive E4 where
 | S
 | L1 (dn:Int) (bJ:(aE 64 (BitVec 32))) (cT:(aE 64 (BitVec 32))) (v7:(aE 8 (BitVec 32)))
 | L2 (mZ:Int) (v2:(aE 8 (BitVec 32))) (xe:(aE 8 (BitVec 32)))
noncomputable def gi (h0:(aE 8 (BitVec 32))) (s1:(List UInt8)):E4→Option (E4⊕(aE 8 (BitVec 32)))
 | .S=>
  ((y4 s1).bind fun (x_1:(aE 64 (BitVec 32)))=>
  ((xK).bind fun (x_3:(aE 64 (BitVec 32)))=>
  some (.inl (.L1 (0) x_1 x_3 h0))))
 | .L1 dn bJ cT v7=>
  (bif (decide (dn<(64:Int))) then
  ((kU (idx v7.1 (4:Int)) (6) (11) (25) false).bind fun (x_7:(BitVec 32))=>
  gO (0≤dn∧dn<((64:Nat):Int)) (
  gO (0≤dn∧dn<((64:Nat):Int)) (
  ((kU (idx v7.1 (0:Int)) (2) (13) (22) false).bind fun (x_11:(BitVec 32))=>
  gO (bw (dn+(1:Int))) (
  some (.inl (.L1 (dn+(1:Int)) bJ cT (⟨[((((((idx v7.1 (7:Int))+x_7)+(((idx v7.1 (4:Int))&&& (idx v7.1 (5:Int)))^^^((~~~(idx v7.1 (4:Int)))&&& (idx v7.1 (6:Int)))))+(idx cT.1 dn))+(idx bJ.1 dn))+(x_11+((((idx v7.1 (0:Int))&&& (idx v7.1 (1:Int)))^^^((idx v7.1 (0:Int))&&& (idx v7.1 (2:Int))))^^^((idx v7.1 (1:Int))&&& (idx v7.1 (2:Int)))))),(idx v7.1 (0:Int)),(idx v7.1 (1:Int)),(idx v7.1 (2:Int)),((idx v7.1 (3:Int))+(((((idx v7.1 (7:Int))+x_7)+(((idx v7.1 (4:Int))&&& (idx v7.1 (5:Int)))^^^((~~~(idx v7.1 (4:Int)))&&& (idx v7.1 (6:Int)))))+(idx cT.1 dn))+(idx bJ.1 dn))),(idx v7.1 (4:Int)),(idx v7.1 (5:Int)),(idx v7.1 (6:Int))],rfl⟩:(aE 8 (BitVec 32))))))))))
  else
  some (.inl (.L2 (0) h0 v7)))
 | .L2 mZ v2 xe=>
  (bif (decide (mZ<(8:Int))) then
  gO (0≤mZ∧mZ<((8:Nat):Int)) (
  gO (0≤mZ∧mZ<((8:Nat):Int)) (
  gO (0≤mZ∧mZ<((8:Nat):Int)) (
  gO (bw (mZ+(1:Int))) (
  some (.inl (.L2 (mZ+(1:Int)) (v2.put mZ ((idx v2.1 mZ)+(idx xe.1 mZ))) xe))))))
  else
  some (.inr v2))
noncomputable def Aq (h0:(aE 8 (BitVec 32))) (s1:(List UInt8)):Option (aE 8 (BitVec 32)):=g9 (gi h0 s1) .S
theorem Iy (h0:(aE 8 (BitVec 32))) (s1:(List UInt8)) (r:(aE 8 (BitVec 32))) (h:Aq h0 s1=some r):bI Tryz.prog 89 [.agg (h0.1.map eK), .val (sV s1)] (.agg (r.1.map eK)):=by
 refine bI.aU Tryz.func89 rfl (by simp [Tryz.ntmps89]) ?_
 rw [Tryz.ntmps89,TT.U3]
 refine QW.view (s':=⟨aG [(0, .d (.agg (h0.1.map eK))),(1,pS s1)],aj [],0,[]⟩) (View.init (by rfl)) zL ?_
 replace h:=cL h
 obtain ⟨_,h⟩:=h
 obtain ⟨dm,rfl,h9⟩:=aQ h;replace h:=h9;clear h9;rw [gi] at h
 refine sR ?_
 refine xs 2 rfl (Ln (c:=((h0.1.map eK).map .d)) rfl rfl rfl rfl rfl ?_)
 refine xs 4 rfl (bB (l:=(((aE.rep 8 (0:BitVec 32)).1.map eK).map .d)) rfl TT.yY rfl rfl ?_)
 refine XK.nz ?_
 refine sR ?_
 refine xm 14 (pS s1) ?_
 obtain ⟨x_1,fB,h⟩:=bG h
 refine xs 15 rfl (aA rfl rfl TT.L8 rfl (G1 s1 _ fB) ?_)
 obtain ⟨x_3,tX,h⟩:=bG h
 refine xs 16 rfl (aA rfl rfl TT.L9 rfl (Fv _ tX) ?_)
 refine xs 5 rfl (bB (l:=(((aE.rep 64 (0:BitVec 32)).1.map eK).map .d)) rfl TT.vR rfl rfl ?_)
 refine xs 6 rfl (bB (l:=(((aE.rep 64 (0:BitVec 32)).1.map eK).map .d)) rfl TT.vR rfl rfl ?_)
 refine XK.st none rfl rfl (bh (l':=((x_1.1.map eK).map .d)) rfl TT.vP rfl rfl rfl rfl rfl (aq _) (nh _) (cQ ((aq _).trans (aq _).symm)) ?_)
 refine XK.st none rfl rfl (bh (l':=((x_3.1.map eK).map .d)) rfl TT.vP rfl rfl rfl rfl rfl (aq _) (nh _) (cQ ((aq _).trans (aq _).symm)) ?_)
 refine XK.nz ?_
 refine sR ?_
 refine XK.as (some 17) rfl rfl (bD (v:= .agg ((h0.1.map eK).map .d)) rfl TT.oW rfl rfl (ju (by decide)) ⟨.d (.agg (h0.1.map eK)),gV,?_⟩)
 refine xs 7 rfl (bB (l:=(((aE.rep 8 (0:BitVec 32)).1.map eK).map .d)) rfl TT.yY rfl rfl ?_)
 refine XK.st none rfl rfl (bh (l':=((h0.1.map eK).map .d)) rfl TT.oW rfl rfl rfl rfl rfl (aq _) (nh _) (cQ ((aq _).trans (aq _).symm)) ?_)
 refine XK.nz ?_
 refine QW.seq ?_
 refine sR ?_
 refine xm 18 (pI (0)) ?_
 refine XK.nz ?_
 refine QW.block ?_
 refine QW.loop (fun k σ=>∃ dn:Int,∃ bJ:(aE 64 (BitVec 32)),∃ cT:(aE 64 (BitVec 32)),∃ v7:(aE 8 (BitVec 32)),k≤dm∧run (gi h0 s1) k (.L1 dn bJ cT v7)=some r∧σ=⟨aG [(2, .aF 0 0),(4, .aF 1 0),(5, .aF 2 0),(6, .aF 3 0),(7, .aF 4 0),(18,pI dn)],aj [.var ((h0.1.map eK).map .d), .var (((aE.rep 8 (0:BitVec 32)).1.map eK).map .d), .var ((bJ.1.map eK).map .d), .var ((cT.1.map eK).map .d), .var ((v7.1.map eK).map .d)],5,[]⟩) dm zL ⟨⟨aG [(2, .aF 0 0),(4, .aF 1 0),(5, .aF 2 0),(6, .aF 3 0),(7, .aF 4 0),(18,pI (0))],aj [.var ((h0.1.map eK).map .d), .var (((aE.rep 8 (0:BitVec 32)).1.map eK).map .d), .var ((x_1.1.map eK).map .d), .var ((x_3.1.map eK).map .d), .var ((h0.1.map eK).map .d)],5,[]⟩,View.mk 5 [0,1,2,3,4] _ _ _ rfl rfl (by decide) (iC (iC (iC (iC (iC (iC trivial)))))) (And.intro (by simp only [cv,bq,PV.bK];rfl) (And.intro (by simp only [cv,bq,PV.bK];rfl) (And.intro (by simp only [cv,bq,PV.bK];rfl) (And.intro (by simp only [cv,bq,PV.bK];rfl) (And.intro (by simp only [cv,bq,PV.bK];rfl) trivial))))) rfl zL rfl,0,x_1,x_3,h0,Nat.le_refl _,jG h,rfl⟩ ?_
 rintro Pg _ ⟨dn,bJ,cT,v7,Ph,h,rfl⟩
 obtain ⟨Br,rfl,h9⟩:=aQ h;replace h:=h9;clear h9;rw [gi] at h
 refine sR ?_
 refine xs 19 rfl (cJ (a:=dn) (b:=(64:Int)) rfl rfl rfl ?_)
 refine XK.nz ?_
 refine QW.seq ?_
 refine QW.cond (t:=(decide (dn<(64:Int)))) rfl zL (fun kF=>?_) (fun kF=>?_)
 ·replace h:=fF h kF
  refine QW.skip zL (aX ?_)
  refine QW.seq ?_
  refine QW.block ?_
  refine sR ?_
  refine xm 20 (pI dn) ?_
  refine xz 8 (pI dn) ?_
  refine sR ?_
  refine xs 21 rfl (cV (i:=(4:Int)) rfl TT.fW TT.fV rfl rfl (show 0≤(4:Int)∧(4:Int)<((8:Nat):Int) by decide) ?_)
  refine xs 22 rfl (bD (v:= .d (.val (.int .u32 ((idx v7.1 (4:Int)).toNat:Int)))) rfl TT.eN rfl rfl (fI (show 0≤(4:Int)∧(4:Int)<((8:Nat):Int) by decide)) ?_)
  refine xs 23 rfl (cV (i:=(5:Int)) rfl TT.fW TT.fV rfl rfl (show 0≤(5:Int)∧(5:Int)<((8:Nat):Int) by decide) ?_)
  refine xs 24 rfl (bD (v:= .d (.val (.int .u32 ((idx v7.1 (5:Int)).toNat:Int)))) rfl TT.eN rfl rfl (fI (show 0≤(5:Int)∧(5:Int)<((8:Nat):Int) by decide)) ?_)
  refine xs 25 rfl (nj (a:=(idx v7.1 (4:Int))) (b:=(idx v7.1 (5:Int))) rfl rfl rfl ?_)
  refine xs 26 rfl (cV (i:=(4:Int)) rfl TT.fW TT.fV rfl rfl (show 0≤(4:Int)∧(4:Int)<((8:Nat):Int) by decide) ?_)
  refine xs 27 rfl (bD (v:= .d (.val (.int .u32 ((idx v7.1 (4:Int)).toNat:Int)))) rfl TT.eN rfl rfl (fI (show 0≤(4:Int)∧(4:Int)<((8:Nat):Int) by decide)) ?_)
  refine xs 28 rfl (P8 (a:=(idx v7.1 (4:Int))) rfl rfl rfl (by decide) ?_)
  refine xs 29 rfl (cV (i:=(6:Int)) rfl TT.fW TT.fV rfl rfl (show 0≤(6:Int)∧(6:Int)<((8:Nat):Int) by decide) ?_)
  refine xs 30 rfl (bD (v:= .d (.val (.int .u32 ((idx v7.1 (6:Int)).toNat:Int)))) rfl TT.eN rfl rfl (fI (show 0≤(6:Int)∧(6:Int)<((8:Nat):Int) by decide)) ?_)
  refine xs 31 rfl (nj (a:=(~~~(idx v7.1 (4:Int)))) (b:=(idx v7.1 (6:Int))) rfl rfl rfl ?_)
  refine xs 32 rfl (j6 (a:=((idx v7.1 (4:Int))&&& (idx v7.1 (5:Int)))) (b:=((~~~(idx v7.1 (4:Int)))&&& (idx v7.1 (6:Int)))) rfl rfl rfl ?_)
  refine xz 9 (.d (.val (.int .u32 ((((idx v7.1 (4:Int))&&& (idx v7.1 (5:Int)))^^^((~~~(idx v7.1 (4:Int)))&&& (idx v7.1 (6:Int)))).toNat:Int)))) ?_
  refine QW.seq ?_
  refine QW.view (s':=⟨aG [(2, .aF 0 0),(4, .aF 1 0),(5, .aF 2 0),(6, .aF 3 0),(7, .aF 4 0),(8,pI dn),(9, .d (.val (.int .u32 ((((idx v7.1 (4:Int))&&& (idx v7.1 (5:Int)))^^^((~~~(idx v7.1 (4:Int)))&&& (idx v7.1 (6:Int)))).toNat:Int)))),(18,pI dn)],aj [.var ((h0.1.map eK).map .d), .var (((aE.rep 8 (0:BitVec 32)).1.map eK).map .d), .var ((bJ.1.map eK).map .d), .var ((cT.1.map eK).map .d), .var ((v7.1.map eK).map .d)],5,[]⟩) (View.mk 5 [0,1,2,3,4] _ _ _ rfl rfl (by decide) (iC (iC (iC (iC (iC (iC (iC (iC trivial)))))))) (And.intro (by simp only [cv,bq,PV.bK];rfl) (And.intro (by simp only [cv,bq,PV.bK];rfl) (And.intro (by simp only [cv,bq,PV.bK];rfl) (And.intro (by simp only [cv,bq,PV.bK];rfl) (And.intro (by simp only [cv,bq,PV.bK];rfl) trivial))))) rfl zL rfl) zL ?_
  refine rG ?_
  refine xs 33 rfl (cV (i:=(0:Int)) rfl TT.fW TT.fV rfl rfl (show 0≤(0:Int)∧(0:Int)<((8:Nat):Int) by decide) ?_)
  refine xs 34 rfl (bD (v:= .d (.val (.int .u32 ((idx v7.1 (0:Int)).toNat:Int)))) rfl TT.eN rfl rfl (fI (show 0≤(0:Int)∧(0:Int)<((8:Nat):Int) by decide)) ?_)
  refine xs 35 rfl (cV (i:=(1:Int)) rfl TT.fW TT.fV rfl rfl (show 0≤(1:Int)∧(1:Int)<((8:Nat):Int) by decide) ?_)
  refine xs 36 rfl (bD (v:= .d (.val (.int .u32 ((idx v7.1 (1:Int)).toNat:Int)))) rfl TT.eN rfl rfl (fI (show 0≤(1:Int)∧(1:Int)<((8:Nat):Int) by decide)) ?_)
  refine xs 37 rfl (nj (a:=(idx v7.1 (0:Int))) (b:=(idx v7.1 (1:Int))) rfl rfl rfl ?_)
  refine xs 38 rfl (cV (i:=(0:Int)) rfl TT.fW TT.fV rfl rfl (show 0≤(0:Int)∧(0:Int)<((8:Nat):Int) by decide) ?_)
  refine xs 39 rfl (bD (v:= .d (.val (.int .u32 ((idx v7.1 (0:Int)).toNat:Int)))) rfl TT.eN rfl rfl (fI (show 0≤(0:Int)∧(0:Int)<((8:Nat):Int) by decide)) ?_)
  refine xs 40 rfl (cV (i:=(2:Int)) rfl TT.fW TT.fV rfl rfl (show 0≤(2:Int)∧(2:Int)<((8:Nat):Int) by decide) ?_)
  refine xs 41 rfl (bD (v:= .d (.val (.int .u32 ((idx v7.1 (2:Int)).toNat:Int)))) rfl TT.eN rfl rfl (fI (show 0≤(2:Int)∧(2:Int)<((8:Nat):Int) by decide)) ?_)
  refine xs 42 rfl (nj (a:=(idx v7.1 (0:Int))) (b:=(idx v7.1 (2:Int))) rfl rfl rfl ?_)
  refine xs 43 rfl (j6 (a:=((idx v7.1 (0:Int))&&& (idx v7.1 (1:Int)))) (b:=((idx v7.1 (0:Int))&&& (idx v7.1 (2:Int)))) rfl rfl rfl ?_)
  refine xs 44 rfl (cV (i:=(1:Int)) rfl TT.fW TT.fV rfl rfl (show 0≤(1:Int)∧(1:Int)<((8:Nat):Int) by decide) ?_)
  refine xs 45 rfl (bD (v:= .d (.val (.int .u32 ((idx v7.1 (1:Int)).toNat:Int)))) rfl TT.eN rfl rfl (fI (show 0≤(1:Int)∧(1:Int)<((8:Nat):Int) by decide)) ?_)
  refine xs 46 rfl (cV (i:=(2:Int)) rfl TT.fW TT.fV rfl rfl (show 0≤(2:Int)∧(2:Int)<((8:Nat):Int) by decide) ?_)
  refine xs 47 rfl (bD (v:= .d (.val (.int .u32 ((idx v7.1 (2:Int)).toNat:Int)))) rfl TT.eN rfl rfl (fI (show 0≤(2:Int)∧(2:Int)<((8:Nat):Int) by decide)) ?_)
  refine xs 48 rfl (nj (a:=(idx v7.1 (1:Int))) (b:=(idx v7.1 (2:Int))) rfl rfl rfl ?_)
  refine xs 49 rfl (j6 (a:=(((idx v7.1 (0:Int))&&& (idx v7.1 (1:Int)))^^^((idx v7.1 (0:Int))&&& (idx v7.1 (2:Int))))) (b:=((idx v7.1 (1:Int))&&& (idx v7.1 (2:Int)))) rfl rfl rfl ?_)
  refine xz 10 (.d (.val (.int .u32 (((((idx v7.1 (0:Int))&&& (idx v7.1 (1:Int)))^^^((idx v7.1 (0:Int))&&& (idx v7.1 (2:Int))))^^^((idx v7.1 (1:Int))&&& (idx v7.1 (2:Int)))).toNat:Int)))) ?_
  refine QW.seq ?_
  refine QW.view (s':=⟨aG [(2, .aF 0 0),(4, .aF 1 0),(5, .aF 2 0),(6, .aF 3 0),(7, .aF 4 0),(8,pI dn),(9, .d (.val (.int .u32 ((((idx v7.1 (4:Int))&&& (idx v7.1 (5:Int)))^^^((~~~(idx v7.1 (4:Int)))&&& (idx v7.1 (6:Int)))).toNat:Int)))),(10, .d (.val (.int .u32 (((((idx v7.1 (0:Int))&&& (idx v7.1 (1:Int)))^^^((idx v7.1 (0:Int))&&& (idx v7.1 (2:Int))))^^^((idx v7.1 (1:Int))&&& (idx v7.1 (2:Int)))).toNat:Int)))),(18,pI dn)],aj [.var ((h0.1.map eK).map .d), .var (((aE.rep 8 (0:BitVec 32)).1.map eK).map .d), .var ((bJ.1.map eK).map .d), .var ((cT.1.map eK).map .d), .var ((v7.1.map eK).map .d)],5,[]⟩) (View.mk 5 [0,1,2,3,4] _ _ _ rfl rfl (by decide) (iC (iC (iC (iC (iC (iC (iC (iC (iC trivial))))))))) (And.intro (by simp only [cv,bq,PV.bK];rfl) (And.intro (by simp only [cv,bq,PV.bK];rfl) (And.intro (by simp only [cv,bq,PV.bK];rfl) (And.intro (by simp only [cv,bq,PV.bK];rfl) (And.intro (by simp only [cv,bq,PV.bK];rfl) trivial))))) rfl zL rfl) zL ?_
  refine QW.region zL (PW.kX (id:=8) dc (M:=_) rfl (by kernel_rfl) ?_)
  refine RQ.st (some 50) rfl rfl (cV (i:=(7:Int)) rfl TT.fW TT.fV rfl rfl (show 0≤(7:Int)∧(7:Int)<((8:Nat):Int) by decide) ⟨⟨rfl,rfl⟩,?_⟩)
  refine RQ.st (some 51) rfl rfl (bD (v:= .d (.val (.int .u32 ((idx v7.1 (7:Int)).toNat:Int)))) rfl TT.eN rfl rfl (fI (show 0≤(7:Int)∧(7:Int)<((8:Nat):Int) by decide)) ⟨⟨rfl,rfl⟩,?_⟩)
  refine RQ.st (some 52) rfl rfl (cV (i:=(4:Int)) rfl TT.fW TT.fV rfl rfl (show 0≤(4:Int)∧(4:Int)<((8:Nat):Int) by decide) ⟨⟨rfl,rfl⟩,?_⟩)
  refine RQ.st (some 53) rfl rfl (bD (v:= .d (.val (.int .u32 ((idx v7.1 (4:Int)).toNat:Int)))) rfl TT.eN rfl rfl (fI (show 0≤(4:Int)∧(4:Int)<((8:Nat):Int) by decide)) ⟨⟨rfl,rfl⟩,?_⟩)
  obtain ⟨x_7,pR,h⟩:=bG h
  refine RQ.st (some 54) rfl rfl (aA rfl rfl TT.w9 rfl (u5 (idx v7.1 (4:Int)) (6) (11) (25) false _ pR) ⟨⟨rfl,rfl⟩,?_⟩)
  refine RQ.st (some 55) rfl rfl (fU (a:=(idx v7.1 (7:Int))) (b:=x_7) rfl rfl rfl ⟨⟨rfl,rfl⟩,?_⟩)
  refine RQ.st (some 56) rfl rfl (au (v:= .d (.val (.int .u32 ((((idx v7.1 (4:Int))&&& (idx v7.1 (5:Int)))^^^((~~~(idx v7.1 (4:Int)))&&& (idx v7.1 (6:Int)))).toNat:Int)))) rfl rfl ⟨⟨rfl,rfl⟩,?_⟩)
  refine RQ.st (some 57) rfl rfl (fU (a:=((idx v7.1 (7:Int))+x_7)) (b:=(((idx v7.1 (4:Int))&&& (idx v7.1 (5:Int)))^^^((~~~(idx v7.1 (4:Int)))&&& (idx v7.1 (6:Int))))) rfl rfl rfl ⟨⟨rfl,rfl⟩,?_⟩)
  refine RQ.st (some 58) rfl rfl (au (v:=pI dn) rfl rfl ⟨⟨rfl,rfl⟩,?_⟩)
  obtain ⟨qG,h⟩:=gG h
  refine RQ.st (some 59) rfl rfl (cV (i:=dn) rfl TT.rC TT.rB rfl rfl qG ⟨⟨rfl,rfl⟩,?_⟩)
  refine RQ.st (some 60) rfl rfl (bD (v:= .d (.val (.int .u32 ((idx cT.1 dn).toNat:Int)))) rfl TT.eN rfl rfl (fI qG) ⟨⟨rfl,rfl⟩,?_⟩)
  refine RQ.st (some 61) rfl rfl (fU (a:=(((idx v7.1 (7:Int))+x_7)+(((idx v7.1 (4:Int))&&& (idx v7.1 (5:Int)))^^^((~~~(idx v7.1 (4:Int)))&&& (idx v7.1 (6:Int)))))) (b:=(idx cT.1 dn)) rfl rfl rfl ⟨⟨rfl,rfl⟩,?_⟩)
  refine RQ.st (some 62) rfl rfl (au (v:=pI dn) rfl rfl ⟨⟨rfl,rfl⟩,?_⟩)
  obtain ⟨ow,h⟩:=gG h
  refine RQ.st (some 63) rfl rfl (cV (i:=dn) rfl TT.rC TT.rB rfl rfl ow ⟨⟨rfl,rfl⟩,?_⟩)
  refine RQ.st (some 64) rfl rfl (bD (v:= .d (.val (.int .u32 ((idx bJ.1 dn).toNat:Int)))) rfl TT.eN rfl rfl (fI ow) ⟨⟨rfl,rfl⟩,?_⟩)
  refine RQ.st (some 65) rfl rfl (fU (a:=((((idx v7.1 (7:Int))+x_7)+(((idx v7.1 (4:Int))&&& (idx v7.1 (5:Int)))^^^((~~~(idx v7.1 (4:Int)))&&& (idx v7.1 (6:Int)))))+(idx cT.1 dn))) (b:=(idx bJ.1 dn)) rfl rfl rfl ⟨⟨rfl,rfl⟩,?_⟩)
  refine RQ.st (some 11) rfl rfl (cq (v:= .d (.val (.int .u32 ((((((idx v7.1 (7:Int))+x_7)+(((idx v7.1 (4:Int))&&& (idx v7.1 (5:Int)))^^^((~~~(idx v7.1 (4:Int)))&&& (idx v7.1 (6:Int)))))+(idx cT.1 dn))+(idx bJ.1 dn)).toNat:Int)))) rfl rfl ⟨⟨rfl,rfl⟩,?_⟩)
  refine RQ.nil (aX ?_)
  refine QW.seq ?_
  refine QW.view (s':=⟨aG [(2, .aF 0 0),(4, .aF 1 0),(5, .aF 2 0),(6, .aF 3 0),(7, .aF 4 0),(10, .d (.val (.int .u32 (((((idx v7.1 (0:Int))&&& (idx v7.1 (1:Int)))^^^((idx v7.1 (0:Int))&&& (idx v7.1 (2:Int))))^^^((idx v7.1 (1:Int))&&& (idx v7.1 (2:Int)))).toNat:Int)))),(11, .d (.val (.int .u32 ((((((idx v7.1 (7:Int))+x_7)+(((idx v7.1 (4:Int))&&& (idx v7.1 (5:Int)))^^^((~~~(idx v7.1 (4:Int)))&&& (idx v7.1 (6:Int)))))+(idx cT.1 dn))+(idx bJ.1 dn)).toNat:Int)))),(18,pI dn)],aj [.var ((h0.1.map eK).map .d), .var (((aE.rep 8 (0:BitVec 32)).1.map eK).map .d), .var ((bJ.1.map eK).map .d), .var ((cT.1.map eK).map .d), .var ((v7.1.map eK).map .d)],5,[]⟩) (View.mk 5 [0,1,2,3,4] _ _ _ rfl rfl (by decide) (iC (iC (iC (iC (iC (iC (iC (iC trivial)))))))) (And.intro (by simp only [cv,bq,PV.bK];rfl) (And.intro (by simp only [cv,bq,PV.bK];rfl) (And.intro (by simp only [cv,bq,PV.bK];rfl) (And.intro (by simp only [cv,bq,PV.bK];rfl) (And.intro (by simp only [cv,bq,PV.bK];rfl) trivial))))) rfl zL rfl) zL ?_
  refine rG ?_
  refine xs 66 rfl (cV (i:=(0:Int)) rfl TT.fW TT.fV rfl rfl (show 0≤(0:Int)∧(0:Int)<((8:Nat):Int) by decide) ?_)
  refine xs 67 rfl (bD (v:= .d (.val (.int .u32 ((idx v7.1 (0:Int)).toNat:Int)))) rfl TT.eN rfl rfl (fI (show 0≤(0:Int)∧(0:Int)<((8:Nat):Int) by decide)) ?_)
  obtain ⟨x_11,pY,h⟩:=bG h
  refine xs 68 rfl (aA rfl rfl TT.w9 rfl (u5 (idx v7.1 (0:Int)) (2) (13) (22) false _ pY) ?_)
  refine xm 69 (.d (.val (.int .u32 (((((idx v7.1 (0:Int))&&& (idx v7.1 (1:Int)))^^^((idx v7.1 (0:Int))&&& (idx v7.1 (2:Int))))^^^((idx v7.1 (1:Int))&&& (idx v7.1 (2:Int)))).toNat:Int)))) ?_
  refine xs 70 rfl (fU (a:=x_11) (b:=((((idx v7.1 (0:Int))&&& (idx v7.1 (1:Int)))^^^((idx v7.1 (0:Int))&&& (idx v7.1 (2:Int))))^^^((idx v7.1 (1:Int))&&& (idx v7.1 (2:Int))))) rfl rfl rfl ?_)
  refine xz 12 (.d (.val (.int .u32 ((x_11+((((idx v7.1 (0:Int))&&& (idx v7.1 (1:Int)))^^^((idx v7.1 (0:Int))&&& (idx v7.1 (2:Int))))^^^((idx v7.1 (1:Int))&&& (idx v7.1 (2:Int))))).toNat:Int)))) ?_
  refine rG ?_
  refine xm 71 (.d (.val (.int .u32 ((((((idx v7.1 (7:Int))+x_7)+(((idx v7.1 (4:Int))&&& (idx v7.1 (5:Int)))^^^((~~~(idx v7.1 (4:Int)))&&& (idx v7.1 (6:Int)))))+(idx cT.1 dn))+(idx bJ.1 dn)).toNat:Int)))) ?_
  refine xm 72 (.d (.val (.int .u32 ((x_11+((((idx v7.1 (0:Int))&&& (idx v7.1 (1:Int)))^^^((idx v7.1 (0:Int))&&& (idx v7.1 (2:Int))))^^^((idx v7.1 (1:Int))&&& (idx v7.1 (2:Int))))).toNat:Int)))) ?_
  refine xs 73 rfl (fU (a:=(((((idx v7.1 (7:Int))+x_7)+(((idx v7.1 (4:Int))&&& (idx v7.1 (5:Int)))^^^((~~~(idx v7.1 (4:Int)))&&& (idx v7.1 (6:Int)))))+(idx cT.1 dn))+(idx bJ.1 dn))) (b:=(x_11+((((idx v7.1 (0:Int))&&& (idx v7.1 (1:Int)))^^^((idx v7.1 (0:Int))&&& (idx v7.1 (2:Int))))^^^((idx v7.1 (1:Int))&&& (idx v7.1 (2:Int)))))) rfl rfl rfl ?_)
  refine xs 74 rfl (cV (i:=(0:Int)) rfl TT.fW TT.fV rfl rfl (show 0≤(0:Int)∧(0:Int)<((8:Nat):Int) by decide) ?_)
  refine xs 75 rfl (bD (v:= .d (.val (.int .u32 ((idx v7.1 (0:Int)).toNat:Int)))) rfl TT.eN rfl rfl (fI (show 0≤(0:Int)∧(0:Int)<((8:Nat):Int) by decide)) ?_)
  refine xs 76 rfl (cV (i:=(1:Int)) rfl TT.fW TT.fV rfl rfl (show 0≤(1:Int)∧(1:Int)<((8:Nat):Int) by decide) ?_)
  refine xs 77 rfl (bD (v:= .d (.val (.int .u32 ((idx v7.1 (1:Int)).toNat:Int)))) rfl TT.eN rfl rfl (fI (show 0≤(1:Int)∧(1:Int)<((8:Nat):Int) by decide)) ?_)
  refine xs 78 rfl (cV (i:=(2:Int)) rfl TT.fW TT.fV rfl rfl (show 0≤(2:Int)∧(2:Int)<((8:Nat):Int) by decide) ?_)
  refine xs 79 rfl (bD (v:= .d (.val (.int .u32 ((idx v7.1 (2:Int)).toNat:Int)))) rfl TT.eN rfl rfl (fI (show 0≤(2:Int)∧(2:Int)<((8:Nat):Int) by decide)) ?_)
  refine xs 80 rfl (cV (i:=(3:Int)) rfl TT.fW TT.fV rfl rfl (show 0≤(3:Int)∧(3:Int)<((8:Nat):Int) by decide) ?_)
  refine xs 81 rfl (bD (v:= .d (.val (.int .u32 ((idx v7.1 (3:Int)).toNat:Int)))) rfl TT.eN rfl rfl (fI (show 0≤(3:Int)∧(3:Int)<((8:Nat):Int) by decide)) ?_)
  refine xm 82 (.d (.val (.int .u32 ((((((idx v7.1 (7:Int))+x_7)+(((idx v7.1 (4:Int))&&& (idx v7.1 (5:Int)))^^^((~~~(idx v7.1 (4:Int)))&&& (idx v7.1 (6:Int)))))+(idx cT.1 dn))+(idx bJ.1 dn)).toNat:Int)))) ?_
  refine xs 83 rfl (fU (a:=(idx v7.1 (3:Int))) (b:=(((((idx v7.1 (7:Int))+x_7)+(((idx v7.1 (4:Int))&&& (idx v7.1 (5:Int)))^^^((~~~(idx v7.1 (4:Int)))&&& (idx v7.1 (6:Int)))))+(idx cT.1 dn))+(idx bJ.1 dn))) rfl rfl rfl ?_)
  refine xs 84 rfl (cV (i:=(4:Int)) rfl TT.fW TT.fV rfl rfl (show 0≤(4:Int)∧(4:Int)<((8:Nat):Int) by decide) ?_)
  refine xs 85 rfl (bD (v:= .d (.val (.int .u32 ((idx v7.1 (4:Int)).toNat:Int)))) rfl TT.eN rfl rfl (fI (show 0≤(4:Int)∧(4:Int)<((8:Nat):Int) by decide)) ?_)
  refine xs 86 rfl (cV (i:=(5:Int)) rfl TT.fW TT.fV rfl rfl (show 0≤(5:Int)∧(5:Int)<((8:Nat):Int) by decide) ?_)
  refine xs 87 rfl (bD (v:= .d (.val (.int .u32 ((idx v7.1 (5:Int)).toNat:Int)))) rfl TT.eN rfl rfl (fI (show 0≤(5:Int)∧(5:Int)<((8:Nat):Int) by decide)) ?_)
  refine xs 88 rfl (cV (i:=(6:Int)) rfl TT.fW TT.fV rfl rfl (show 0≤(6:Int)∧(6:Int)<((8:Nat):Int) by decide) ?_)
  refine xs 89 rfl (bD (v:= .d (.val (.int .u32 ((idx v7.1 (6:Int)).toNat:Int)))) rfl TT.eN rfl rfl (fI (show 0≤(6:Int)∧(6:Int)<((8:Nat):Int) by decide)) ?_)
  refine XK.as (some 90) rfl rfl (vb (v:= .agg [.d (.val (.int .u32 (((((((idx v7.1 (7:Int))+x_7)+(((idx v7.1 (4:Int))&&& (idx v7.1 (5:Int)))^^^((~~~(idx v7.1 (4:Int)))&&& (idx v7.1 (6:Int)))))+(idx cT.1 dn))+(idx bJ.1 dn))+(x_11+((((idx v7.1 (0:Int))&&& (idx v7.1 (1:Int)))^^^((idx v7.1 (0:Int))&&& (idx v7.1 (2:Int))))^^^((idx v7.1 (1:Int))&&& (idx v7.1 (2:Int)))))).toNat:Int))), .d (.val (.int .u32 ((idx v7.1 (0:Int)).toNat:Int))), .d (.val (.int .u32 ((idx v7.1 (1:Int)).toNat:Int))), .d (.val (.int .u32 ((idx v7.1 (2:Int)).toNat:Int))), .d (.val (.int .u32 (((idx v7.1 (3:Int))+(((((idx v7.1 (7:Int))+x_7)+(((idx v7.1 (4:Int))&&& (idx v7.1 (5:Int)))^^^((~~~(idx v7.1 (4:Int)))&&& (idx v7.1 (6:Int)))))+(idx cT.1 dn))+(idx bJ.1 dn))).toNat:Int))), .d (.val (.int .u32 ((idx v7.1 (4:Int)).toNat:Int))), .d (.val (.int .u32 ((idx v7.1 (5:Int)).toNat:Int))), .d (.val (.int .u32 ((idx v7.1 (6:Int)).toNat:Int)))]) rfl (by rw [TT.A6];simp [k9,k8,placeOf,ot,aB,PV.cz,PV.hY,Value.oneCell',l6,nM,dQ,List.all,cx,aG,jA,iU,bU,jX]) (by rw [TT.A6];rfl) ⟨.d (.agg ((⟨[((((((idx v7.1 (7:Int))+x_7)+(((idx v7.1 (4:Int))&&& (idx v7.1 (5:Int)))^^^((~~~(idx v7.1 (4:Int)))&&& (idx v7.1 (6:Int)))))+(idx cT.1 dn))+(idx bJ.1 dn))+(x_11+((((idx v7.1 (0:Int))&&& (idx v7.1 (1:Int)))^^^((idx v7.1 (0:Int))&&& (idx v7.1 (2:Int))))^^^((idx v7.1 (1:Int))&&& (idx v7.1 (2:Int)))))),(idx v7.1 (0:Int)),(idx v7.1 (1:Int)),(idx v7.1 (2:Int)),((idx v7.1 (3:Int))+(((((idx v7.1 (7:Int))+x_7)+(((idx v7.1 (4:Int))&&& (idx v7.1 (5:Int)))^^^((~~~(idx v7.1 (4:Int)))&&& (idx v7.1 (6:Int)))))+(idx cT.1 dn))+(idx bJ.1 dn))),(idx v7.1 (4:Int)),(idx v7.1 (5:Int)),(idx v7.1 (6:Int))],rfl⟩:(aE 8 (BitVec 32))).1.map eK)),(iH.dj rfl),?_⟩)
  refine XK.st none rfl rfl (bh (l':=(((⟨[((((((idx v7.1 (7:Int))+x_7)+(((idx v7.1 (4:Int))&&& (idx v7.1 (5:Int)))^^^((~~~(idx v7.1 (4:Int)))&&& (idx v7.1 (6:Int)))))+(idx cT.1 dn))+(idx bJ.1 dn))+(x_11+((((idx v7.1 (0:Int))&&& (idx v7.1 (1:Int)))^^^((idx v7.1 (0:Int))&&& (idx v7.1 (2:Int))))^^^((idx v7.1 (1:Int))&&& (idx v7.1 (2:Int)))))),(idx v7.1 (0:Int)),(idx v7.1 (1:Int)),(idx v7.1 (2:Int)),((idx v7.1 (3:Int))+(((((idx v7.1 (7:Int))+x_7)+(((idx v7.1 (4:Int))&&& (idx v7.1 (5:Int)))^^^((~~~(idx v7.1 (4:Int)))&&& (idx v7.1 (6:Int)))))+(idx cT.1 dn))+(idx bJ.1 dn))),(idx v7.1 (4:Int)),(idx v7.1 (5:Int)),(idx v7.1 (6:Int))],rfl⟩:(aE 8 (BitVec 32))).1.map eK).map .d)) rfl TT.oW rfl rfl rfl rfl rfl (aq _) (nh _) (cQ ((aq _).trans (aq _).symm)) ?_)
  refine XK.nil (g6 (aX ?_))
  refine QW.view (s':=⟨aG [(2, .aF 0 0),(4, .aF 1 0),(5, .aF 2 0),(6, .aF 3 0),(7, .aF 4 0),(18,pI dn)],aj [.var ((h0.1.map eK).map .d), .var (((aE.rep 8 (0:BitVec 32)).1.map eK).map .d), .var ((bJ.1.map eK).map .d), .var ((cT.1.map eK).map .d), .var (((⟨[((((((idx v7.1 (7:Int))+x_7)+(((idx v7.1 (4:Int))&&& (idx v7.1 (5:Int)))^^^((~~~(idx v7.1 (4:Int)))&&& (idx v7.1 (6:Int)))))+(idx cT.1 dn))+(idx bJ.1 dn))+(x_11+((((idx v7.1 (0:Int))&&& (idx v7.1 (1:Int)))^^^((idx v7.1 (0:Int))&&& (idx v7.1 (2:Int))))^^^((idx v7.1 (1:Int))&&& (idx v7.1 (2:Int)))))),(idx v7.1 (0:Int)),(idx v7.1 (1:Int)),(idx v7.1 (2:Int)),((idx v7.1 (3:Int))+(((((idx v7.1 (7:Int))+x_7)+(((idx v7.1 (4:Int))&&& (idx v7.1 (5:Int)))^^^((~~~(idx v7.1 (4:Int)))&&& (idx v7.1 (6:Int)))))+(idx cT.1 dn))+(idx bJ.1 dn))),(idx v7.1 (4:Int)),(idx v7.1 (5:Int)),(idx v7.1 (6:Int))],rfl⟩:(aE 8 (BitVec 32))).1.map eK).map .d)],5,[]⟩) (View.mk 5 [0,1,2,3,4] _ _ _ rfl rfl (by decide) (iC (iC (iC (iC (iC (iC trivial)))))) (And.intro (by simp only [cv,bq,PV.bK];rfl) (And.intro (by simp only [cv,bq,PV.bK];rfl) (And.intro (by simp only [cv,bq,PV.bK];rfl) (And.intro (by simp only [cv,bq,PV.bK];rfl) (And.intro (by simp only [cv,bq,PV.bK];rfl) trivial))))) rfl zL rfl) zL ?_
  refine rG ?_
  obtain ⟨nJ,h⟩:=gG h
  refine xs 91 rfl (bX (a:=dn) (b:=(1:Int)) rfl rfl rfl nJ ?_)
  refine xm 18 (pI (dn+(1:Int))) ?_
  refine XK.nz ?_
  exact ⟨Br,by omega,⟨aG [(2, .aF 0 0),(4, .aF 1 0),(5, .aF 2 0),(6, .aF 3 0),(7, .aF 4 0),(18,pI (dn+(1:Int)))],aj [.var ((h0.1.map eK).map .d), .var (((aE.rep 8 (0:BitVec 32)).1.map eK).map .d), .var ((bJ.1.map eK).map .d), .var ((cT.1.map eK).map .d), .var (((⟨[((((((idx v7.1 (7:Int))+x_7)+(((idx v7.1 (4:Int))&&& (idx v7.1 (5:Int)))^^^((~~~(idx v7.1 (4:Int)))&&& (idx v7.1 (6:Int)))))+(idx cT.1 dn))+(idx bJ.1 dn))+(x_11+((((idx v7.1 (0:Int))&&& (idx v7.1 (1:Int)))^^^((idx v7.1 (0:Int))&&& (idx v7.1 (2:Int))))^^^((idx v7.1 (1:Int))&&& (idx v7.1 (2:Int)))))),(idx v7.1 (0:Int)),(idx v7.1 (1:Int)),(idx v7.1 (2:Int)),((idx v7.1 (3:Int))+(((((idx v7.1 (7:Int))+x_7)+(((idx v7.1 (4:Int))&&& (idx v7.1 (5:Int)))^^^((~~~(idx v7.1 (4:Int)))&&& (idx v7.1 (6:Int)))))+(idx cT.1 dn))+(idx bJ.1 dn))),(idx v7.1 (4:Int)),(idx v7.1 (5:Int)),(idx v7.1 (6:Int))],rfl⟩:(aE 8 (BitVec 32))).1.map eK).map .d)],5,[]⟩,View.mk 5 [0,1,2,3,4] _ _ _ rfl rfl (by decide) (iC (iC (iC (iC (iC (iC trivial)))))) (And.intro (by simp only [cv,bq,PV.bK];rfl) (And.intro (by simp only [cv,bq,PV.bK];rfl) (And.intro (by simp only [cv,bq,PV.bK];rfl) (And.intro (by simp only [cv,bq,PV.bK];rfl) (And.intro (by simp only [cv,bq,PV.bK];rfl) trivial))))) rfl zL rfl,(dn+(1:Int)),bJ,cT,(⟨[((((((idx v7.1 (7:Int))+x_7)+(((idx v7.1 (4:Int))&&& (idx v7.1 (5:Int)))^^^((~~~(idx v7.1 (4:Int)))&&& (idx v7.1 (6:Int)))))+(idx cT.1 dn))+(idx bJ.1 dn))+(x_11+((((idx v7.1 (0:Int))&&& (idx v7.1 (1:Int)))^^^((idx v7.1 (0:Int))&&& (idx v7.1 (2:Int))))^^^((idx v7.1 (1:Int))&&& (idx v7.1 (2:Int)))))),(idx v7.1 (0:Int)),(idx v7.1 (1:Int)),(idx v7.1 (2:Int)),((idx v7.1 (3:Int))+(((((idx v7.1 (7:Int))+x_7)+(((idx v7.1 (4:Int))&&& (idx v7.1 (5:Int)))^^^((~~~(idx v7.1 (4:Int)))&&& (idx v7.1 (6:Int)))))+(idx cT.1 dn))+(idx bJ.1 dn))),(idx v7.1 (4:Int)),(idx v7.1 (5:Int)),(idx v7.1 (6:Int))],rfl⟩:(aE 8 (BitVec 32))),by omega,jG h,rfl⟩
 ·replace h:=fG h kF
  refine QW.exit zL (eD (eD (j3 (aX ?_))))
  refine QW.seq ?_
  refine sR ?_
  refine xm 92 (pI (0)) ?_
  refine XK.nz ?_
  refine QW.block ?_
  refine QW.loop (fun k σ=>∃ mZ:Int,∃ v2:(aE 8 (BitVec 32)),∃ xe:(aE 8 (BitVec 32)),k≤Br∧run (gi h0 s1) k (.L2 mZ v2 xe)=some r∧σ=⟨aG [(2, .aF 0 0),(4, .aF 1 0),(7, .aF 2 0),(92,pI mZ)],aj [.var ((v2.1.map eK).map .d), .var (((aE.rep 8 (0:BitVec 32)).1.map eK).map .d), .var ((xe.1.map eK).map .d)],3,[]⟩) Br zL ⟨⟨aG [(2, .aF 0 0),(4, .aF 1 0),(7, .aF 2 0),(92,pI (0))],aj [.var ((h0.1.map eK).map .d), .var (((aE.rep 8 (0:BitVec 32)).1.map eK).map .d), .var ((v7.1.map eK).map .d)],3,[]⟩,View.mk 3 [0,1,4] _ _ _ rfl rfl (by decide) (iC (iC (iC (iC trivial)))) (And.intro (by simp only [cv,bq,PV.bK];rfl) (And.intro (by simp only [cv,bq,PV.bK];rfl) (And.intro (by simp only [cv,bq,PV.bK];rfl) trivial))) rfl zL rfl,0,h0,v7,Nat.le_refl _,jG h,rfl⟩ ?_
  rintro Xo _ ⟨mZ,v2,xe,Xp,h,rfl⟩
  obtain ⟨Pj,rfl,h9⟩:=aQ h;replace h:=h9;clear h9;rw [gi] at h
  refine sR ?_
  refine xs 93 rfl (cJ (a:=mZ) (b:=(8:Int)) rfl rfl rfl ?_)
  refine XK.nz ?_
  refine QW.seq ?_
  refine QW.cond (t:=(decide (mZ<(8:Int)))) rfl zL (fun vO=>?_) (fun vO=>?_)
  ·replace h:=fF h vO
   refine QW.skip zL (aX ?_)
   refine QW.seq ?_
   refine QW.block ?_
   refine sR ?_
   refine xm 94 (pI mZ) ?_
   refine xz 13 (pI mZ) ?_
   refine QW.region zL (PW.rL (id:=15) dc (M:=_) rfl (by kernel_rfl) ?_)
   refine RK.st (some 95) rfl rfl (au (v:=pI mZ) rfl rfl ?_)
   obtain ⟨oR,h⟩:=gG h
   refine RK.st (some 96) rfl rfl (cV (i:=mZ) rfl TT.fW TT.fV rfl rfl oR ?_)
   refine RK.st (some 97) rfl rfl (bD (v:= .d (.val (.int .u32 ((idx v2.1 mZ).toNat:Int)))) rfl TT.eN rfl rfl (fI oR) ?_)
   refine RK.st (some 98) rfl rfl (au (v:=pI mZ) rfl rfl ?_)
   obtain ⟨pT,h⟩:=gG h
   refine RK.st (some 99) rfl rfl (cV (i:=mZ) rfl TT.fW TT.fV rfl rfl pT ?_)
   refine RK.st (some 100) rfl rfl (bD (v:= .d (.val (.int .u32 ((idx xe.1 mZ).toNat:Int)))) rfl TT.eN rfl rfl (fI pT) ?_)
   refine RK.st (some 101) rfl rfl (fU (a:=(idx v2.1 mZ)) (b:=(idx xe.1 mZ)) rfl rfl rfl ?_)
   obtain ⟨rA,h⟩:=gG h
   refine RK.st (some 102) rfl rfl (cV (i:=mZ) rfl TT.fW TT.fV rfl rfl rA ?_)
   refine RK.st none rfl rfl (bh (l':=(((v2.put mZ ((idx v2.1 mZ)+(idx xe.1 mZ))).1.map eK).map .d)) rfl TT.eN rfl rfl rfl rfl rfl rfl (rM rA) (p9 rA) ?_)
   refine RK.nil ⟨fT.comp (by rfl),(g6 (aX ?_))⟩
   refine rG ?_
   obtain ⟨yj,h⟩:=gG h
   refine xs 103 rfl (bX (a:=mZ) (b:=(1:Int)) rfl rfl rfl yj ?_)
   refine xm 92 (pI (mZ+(1:Int))) ?_
   refine XK.nz ?_
   exact ⟨Pj,by omega,⟨aG [(2, .aF 0 0),(4, .aF 1 0),(7, .aF 2 0),(92,pI (mZ+(1:Int)))],aj [.var (((v2.put mZ ((idx v2.1 mZ)+(idx xe.1 mZ))).1.map eK).map .d), .var (((aE.rep 8 (0:BitVec 32)).1.map eK).map .d), .var ((xe.1.map eK).map .d)],3,[]⟩,View.mk 3 [0,1,2] _ _ _ rfl rfl (by decide) (iC (iC (iC (iC trivial)))) (And.intro (by simp only [cv,bq,PV.bK];rfl) (And.intro (by simp only [cv,bq,PV.bK];rfl) (And.intro (by simp only [cv,bq,PV.bK];rfl) trivial))) rfl zL rfl,(mZ+(1:Int)),(v2.put mZ ((idx v2.1 mZ)+(idx xe.1 mZ))),xe,by omega,jG h,rfl⟩
  ·replace h:=fG h vO
   refine QW.exit zL (eD (eD (j3 (aX ?_))))
   refine sR ?_
   refine XK.as (some 104) rfl rfl (bD (v:= .agg ((v2.1.map eK).map .d)) rfl TT.oW rfl rfl (ju (by decide)) ⟨.d (.agg (v2.1.map eK)),gV,?_⟩)
   refine XK.st none rfl rfl (bh (l':=((v2.1.map eK).map .d)) rfl TT.oW rfl rfl rfl rfl rfl (aq _) (nh _) (cQ ((aq _).trans (aq _).symm)) ?_)
   refine XK.nz ?_
   refine QW.ret zL ?_
   obtain rfl:=sG h
   exact Ends.one (.inr rfl) rfl (aI.cell rfl rfl TT.oW (ju (by decide))) (oK cH) rfl
inductive Jl where
 | S
 | L1 (cZ:(List UInt8)) (kH:(aE 8 (BitVec 32)))
 | L2 (dn:Int) (uc:(aE 8 (BitVec 32))) (v5:(aE 32 UInt8))
noncomputable def gX (s0:(List UInt8)):Jl→Option (Jl⊕(aE 32 UInt8))
 | .S=>
  ((yZ).bind fun (x_1:(aE 8 (BitVec 32)))=>
  ((xJ s0).bind fun (x_3:(List UInt8))=>
  some (.inl (.L1 x_3 x_1))))
 | .L1 cZ kH=>
  (bif (!(cZ==([]:List UInt8))) then
  gO (0≤(0:Int)∧(0:Int)≤(64:Int)∧(64:Int)≤(cZ.length:Int)) (
  ((Aq kH (sub cZ (0:Int) (64:Int))).bind fun (x_8:(aE 8 (BitVec 32)))=>
  gO (0≤(64:Int)∧(64:Int)≤(cZ.length:Int)∧(cZ.length:Int)≤(cZ.length:Int)) (
  some (.inl (.L1 (sub cZ (64:Int) (cZ.length:Int)) x_8)))))
  else
  some (.inl (.L2 (0) kH (aE.rep 32 (0:UInt8)))))
 | .L2 dn uc v5=>
  (bif (decide (dn<(32:Int))) then
  gO ((4:Int)≠0∧bw (dn.tdiv (4:Int))) (
  gO (0≤(dn.tdiv (4:Int))∧(dn.tdiv (4:Int))<((8:Nat):Int)) (
  gO (bw ((8:Int)*(dn.tmod (4:Int)))) (
  gO (bw ((24:Int)-((8:Int)*(dn.tmod (4:Int))))) (
  gO (0≤((24:Int)-((8:Int)*(dn.tmod (4:Int))))) (
  gO (0≤dn∧dn<((32:Nat):Int)) (
  gO (bw (dn+(1:Int))) (
  some (.inl (.L2 (dn+(1:Int)) uc (v5.put dn (gf ((oL (idx uc.1 (dn.tdiv (4:Int))) ((24:Int)-((8:Int)*(dn.tmod (4:Int))))).toNat:Int))))))))))))
  else
  some (.inr v5))
noncomputable def Eh (s0:(List UInt8)):Option (aE 32 UInt8):=g9 (gX s0) .S
theorem Mc (s0:(List UInt8)) (r:(aE 32 UInt8)) (h:Eh s0=some r):bI Tryz.prog 64 [.val (sV s0)] (.agg (r.1.map U)):=by
 refine bI.aU Tryz.func64 rfl (by simp [Tryz.ntmps64]) ?_
 rw [Tryz.ntmps64,TT.U0]
 refine QW.view (s':=⟨aG [(0,pS s0)],aj [],0,[]⟩) (View.init (by rfl)) zL ?_
 replace h:=cL h
 obtain ⟨_,h⟩:=h
 obtain ⟨dm,rfl,h9⟩:=aQ h;replace h:=h9;clear h9;rw [gX] at h
 refine sR ?_
 refine xs 2 rfl (bB (l:=(((aE.rep 32 (0:UInt8)).1.map U).map .d)) rfl TT.GZ rfl rfl ?_)
 refine XK.nz ?_
 refine sR ?_
 obtain ⟨x_1,fB,h⟩:=bG h
 refine xs 7 rfl (aA rfl rfl TT.N9 rfl (G0 _ fB) ?_)
 refine xs 3 rfl (bB (l:=(((aE.rep 8 (0:BitVec 32)).1.map eK).map .d)) rfl TT.yY rfl rfl ?_)
 refine XK.st none rfl rfl (bh (l':=((x_1.1.map eK).map .d)) rfl TT.oW rfl rfl rfl rfl rfl (aq _) (nh _) (cQ ((aq _).trans (aq _).symm)) ?_)
 refine XK.nz ?_
 refine QW.seq ?_
 refine sR ?_
 refine xm 8 (pS s0) ?_
 obtain ⟨x_3,tX,h⟩:=bG h
 refine xs 9 rfl (aA rfl rfl TT.Oa rfl (Fu s0 _ tX) ?_)
 refine xz 4 (pS x_3) ?_
 refine QW.block ?_
 refine QW.loop (fun k σ=>∃ cZ:(List UInt8),∃ kH:(aE 8 (BitVec 32)),k≤dm∧run (gX s0) k (.L1 cZ kH)=some r∧σ=⟨aG [(2, .aF 0 0),(3, .aF 1 0),(4,pS cZ)],aj [.var (((aE.rep 32 (0:UInt8)).1.map U).map .d), .var ((kH.1.map eK).map .d)],2,[]⟩) dm zL ⟨⟨aG [(2, .aF 0 0),(3, .aF 1 0),(4,pS x_3)],aj [.var (((aE.rep 32 (0:UInt8)).1.map U).map .d), .var ((x_1.1.map eK).map .d)],2,[]⟩,View.mk 2 [0,1] _ _ _ rfl rfl (by decide) (iC (iC (iC trivial))) (And.intro (by simp only [cv,bq,PV.bK];rfl) (And.intro (by simp only [cv,bq,PV.bK];rfl) trivial)) rfl zL rfl,x_3,x_1,Nat.le_refl _,jG h,rfl⟩ ?_
 rintro Pg _ ⟨cZ,kH,Ph,h,rfl⟩
 obtain ⟨Br,rfl,h9⟩:=aQ h;replace h:=h9;clear h9;rw [gX] at h
 refine QW.seq ?_
 refine sR ?_
 refine xm 10 (pS cZ) ?_
 refine xs 11 rfl (yO (a:=cZ) (b:=([]:List UInt8)) rfl rfl rfl ?_)
 refine XK.nz ?_
 refine QW.cond (t:=(!(cZ==([]:List UInt8)))) rfl zL (fun kF=>?_) (fun kF=>?_)
 ·replace h:=fF h kF
  refine QW.skip zL (aX ?_)
  refine QW.seq ?_
  refine QW.block ?_
  refine QW.region zL (PW.rL (id:=5) dc (M:=_) rfl (by kernel_rfl) ?_)
  refine RK.as (some 14) rfl rfl (bD (v:= .agg ((kH.1.map eK).map .d)) rfl TT.oW rfl rfl (ju (by decide)) ⟨.d (.agg (kH.1.map eK)),gV,?_⟩)
  refine RK.st (some 15) rfl rfl (au (v:=pS cZ) rfl rfl ?_)
  obtain ⟨lQ,h⟩:=gG h
  refine RK.st (some 16) rfl rfl (tN (l:=cZ) (a:=(0:Int)) (b:=(64:Int)) rfl TT.bY rfl rfl rfl lQ ?_)
  obtain ⟨x_8,Ak,h⟩:=bG h
  refine RK.st (some 17) rfl rfl (aA rfl rfl TT.Ob rfl (Iy kH (sub cZ (0:Int) (64:Int)) _ Ak) ?_)
  refine RK.st none rfl rfl (bh (l':=((x_8.1.map eK).map .d)) rfl TT.oW rfl rfl rfl rfl rfl (aq _) (nh _) (cQ ((aq _).trans (aq _).symm)) ?_)
  refine RK.nil ⟨fT.comp (by rfl),(g6 (aX ?_))⟩
  refine rG ?_
  refine xm 12 (pS cZ) ?_
  obtain ⟨ow,h⟩:=gG h
  refine xs 13 rfl (tN (l:=cZ) (a:=(64:Int)) (b:=(cZ.length:Int)) rfl TT.bY rfl rfl rfl ow ?_)
  refine xz 4 (pS (sub cZ (64:Int) (cZ.length:Int))) ?_
  exact ⟨Br,by omega,⟨aG [(2, .aF 0 0),(3, .aF 1 0),(4,pS (sub cZ (64:Int) (cZ.length:Int)))],aj [.var (((aE.rep 32 (0:UInt8)).1.map U).map .d), .var ((x_8.1.map eK).map .d)],2,[]⟩,View.mk 2 [0,1] _ _ _ rfl rfl (by decide) (iC (iC (iC trivial))) (And.intro (by simp only [cv,bq,PV.bK];rfl) (And.intro (by simp only [cv,bq,PV.bK];rfl) trivial)) rfl zL rfl,(sub cZ (64:Int) (cZ.length:Int)),x_8,by omega,jG h,rfl⟩
 ·replace h:=fG h kF
  refine QW.exit zL (eD (eD (j3 (aX ?_))))
  refine sR ?_
  refine xs 5 rfl (bB (l:=(((aE.rep 32 (0:UInt8)).1.map U).map .d)) rfl TT.GZ rfl rfl ?_)
  refine XK.nz ?_
  refine QW.seq ?_
  refine sR ?_
  refine xm 18 (pI (0)) ?_
  refine XK.nz ?_
  refine QW.block ?_
  refine QW.loop (fun k σ=>∃ dn:Int,∃ uc:(aE 8 (BitVec 32)),∃ v5:(aE 32 UInt8),k≤Br∧run (gX s0) k (.L2 dn uc v5)=some r∧σ=⟨aG [(2, .aF 0 0),(3, .aF 1 0),(5, .aF 2 0),(18,pI dn)],aj [.var (((aE.rep 32 (0:UInt8)).1.map U).map .d), .var ((uc.1.map eK).map .d), .var ((v5.1.map U).map .d)],3,[]⟩) Br zL ⟨⟨aG [(2, .aF 0 0),(3, .aF 1 0),(5, .aF 2 0),(18,pI (0))],aj [.var (((aE.rep 32 (0:UInt8)).1.map U).map .d), .var ((kH.1.map eK).map .d), .var (((aE.rep 32 (0:UInt8)).1.map U).map .d)],3,[]⟩,View.mk 3 [0,1,2] _ _ _ rfl rfl (by decide) (iC (iC (iC (iC trivial)))) (And.intro (by simp only [cv,bq,PV.bK];rfl) (And.intro (by simp only [cv,bq,PV.bK];rfl) (And.intro (by simp only [cv,bq,PV.bK];rfl) trivial))) rfl zL rfl,0,kH,(aE.rep 32 (0:UInt8)),Nat.le_refl _,jG h,rfl⟩ ?_
  rintro aaB _ ⟨dn,uc,v5,aaC,h,rfl⟩
  obtain ⟨Y0,rfl,h9⟩:=aQ h;replace h:=h9;clear h9;rw [gX] at h
  refine sR ?_
  refine xs 19 rfl (cJ (a:=dn) (b:=(32:Int)) rfl rfl rfl ?_)
  refine XK.nz ?_
  refine QW.seq ?_
  refine QW.cond (t:=(decide (dn<(32:Int)))) rfl zL (fun Cl=>?_) (fun Cl=>?_)
  ·replace h:=fF h Cl
   refine QW.skip zL (aX ?_)
   refine QW.seq ?_
   refine QW.block ?_
   refine sR ?_
   refine xm 20 (pI dn) ?_
   refine xz 6 (pI dn) ?_
   refine rG ?_
   refine xm 21 (pI dn) ?_
   refine xm 22 (pI dn) ?_
   obtain ⟨nJ,h⟩:=gG h
   refine xs 23 rfl (FH (a:=dn) (b:=(4:Int)) rfl rfl rfl nJ ?_)
   obtain ⟨rQ,h⟩:=gG h
   refine xs 24 rfl (cV (i:=(dn.tdiv (4:Int))) rfl TT.fW TT.fV rfl rfl rQ ?_)
   refine xs 25 rfl (bD (v:= .d (.val (.int .u32 ((idx uc.1 (dn.tdiv (4:Int))).toNat:Int)))) rfl TT.eN rfl rfl (fI rQ) ?_)
   refine xm 26 (pI dn) ?_
   refine xs 27 rfl (uT (a:=dn) (b:=(4:Int)) rfl rfl rfl (by decide) ?_)
   obtain ⟨tR,h⟩:=gG h
   refine xs 28 rfl (wT (a:=(8:Int)) (b:=(dn.tmod (4:Int))) rfl rfl rfl tR ?_)
   obtain ⟨oR,h⟩:=gG h
   refine xs 29 rfl (mE (a:=(24:Int)) (b:=((8:Int)*(dn.tmod (4:Int)))) rfl rfl rfl oR ?_)
   obtain ⟨pT,h⟩:=gG h
   refine xs 30 rfl (A4 (a:=(idx uc.1 (dn.tdiv (4:Int)))) (c:=((24:Int)-((8:Int)*(dn.tmod (4:Int))))) rfl rfl rfl pT ?_)
   refine xs 31 rfl (n6 (n:=((oL (idx uc.1 (dn.tdiv (4:Int))) ((24:Int)-((8:Int)*(dn.tmod (4:Int))))).toNat:Int)) rfl TT.vQ TT.dR rfl ?_)
   obtain ⟨rA,h⟩:=gG h
   refine xs 32 rfl (cV (i:=dn) rfl TT.Ql TT.Ji rfl rfl rA ?_)
   refine XK.st none rfl rfl (bh (l':=(((v5.put dn (gf ((oL (idx uc.1 (dn.tdiv (4:Int))) ((24:Int)-((8:Int)*(dn.tmod (4:Int))))).toNat:Int))).1.map U).map .d)) rfl TT.jx rfl rfl rfl rfl rfl rfl (rM rA) (p9 rA) ?_)
   refine XK.nil (g6 (aX ?_))
   refine QW.view (s':=⟨aG [(2, .aF 0 0),(3, .aF 1 0),(5, .aF 2 0),(18,pI dn)],aj [.var (((aE.rep 32 (0:UInt8)).1.map U).map .d), .var ((uc.1.map eK).map .d), .var (((v5.put dn (gf ((oL (idx uc.1 (dn.tdiv (4:Int))) ((24:Int)-((8:Int)*(dn.tmod (4:Int))))).toNat:Int))).1.map U).map .d)],3,[]⟩) (View.mk 3 [0,1,2] _ _ _ rfl rfl (by decide) (iC (iC (iC (iC trivial)))) (And.intro (by simp only [cv,bq,PV.bK];rfl) (And.intro (by simp only [cv,bq,PV.bK];rfl) (And.intro (by simp only [cv,bq,PV.bK];rfl) trivial))) rfl zL rfl) zL ?_
   refine rG ?_
   obtain ⟨yj,h⟩:=gG h
   refine xs 33 rfl (bX (a:=dn) (b:=(1:Int)) rfl rfl rfl yj ?_)
   refine xm 18 (pI (dn+(1:Int))) ?_
   refine XK.nz ?_
   exact ⟨Y0,by omega,⟨aG [(2, .aF 0 0),(3, .aF 1 0),(5, .aF 2 0),(18,pI (dn+(1:Int)))],aj [.var (((aE.rep 32 (0:UInt8)).1.map U).map .d), .var ((uc.1.map eK).map .d), .var (((v5.put dn (gf ((oL (idx uc.1 (dn.tdiv (4:Int))) ((24:Int)-((8:Int)*(dn.tmod (4:Int))))).toNat:Int))).1.map U).map .d)],3,[]⟩,View.mk 3 [0,1,2] _ _ _ rfl rfl (by decide) (iC (iC (iC (iC trivial)))) (And.intro (by simp only [cv,bq,PV.bK];rfl) (And.intro (by simp only [cv,bq,PV.bK];rfl) (And.intro (by simp only [cv,bq,PV.bK];rfl) trivial))) rfl zL rfl,(dn+(1:Int)),uc,(v5.put dn (gf ((oL (idx uc.1 (dn.tdiv (4:Int))) ((24:Int)-((8:Int)*(dn.tmod (4:Int))))).toNat:Int))),by omega,jG h,rfl⟩
  ·replace h:=fG h Cl
   refine QW.exit zL (eD (eD (j3 (aX ?_))))
   refine sR ?_
   refine XK.as (some 34) rfl rfl (bD (v:= .agg ((v5.1.map U).map .d)) rfl TT.GY rfl rfl (ju (by decide)) ⟨.d (.agg (v5.1.map U)),gV,?_⟩)
   refine XK.st none rfl rfl (bh (l':=((v5.1.map U).map .d)) rfl TT.GY rfl rfl rfl rfl rfl (aq _) (nh _) (cQ ((aq _).trans (aq _).symm)) ?_)
   refine XK.nz ?_
   refine QW.ret zL ?_
   obtain rfl:=sG h
   exact Ends.one (.inr rfl) rfl (aI.cell rfl rfl TT.GY (ju (by decide))) (oK cH) rfl
noncomputable def Ar (x0:(aE 32 UInt8)):Option (List UInt8):=
  some (x0.1)
theorem Iz (x0:(aE 32 UInt8)) (r:(List UInt8)) (h:Ar x0=some r):bI Tryz.prog 63 [.agg (x0.1.map U)] (.val (sV r)):=by
 refine bI.aU Tryz.func63 rfl (by simp [Tryz.ntmps63]) ?_
 rw [Tryz.ntmps63,TT.UZ]
 refine QW.view (s':=⟨aG [(0, .d (.agg (x0.1.map U)))],aj [],0,[]⟩) (View.init (by rfl)) zL ?_
 unfold Ar at h
 refine sR ?_
 refine XK.fz (some 1) rfl rfl (fl (ds:=x0.1.map U) rfl rfl rfl rfl cH ?_)
 refine xz 2 (pS ([]:List UInt8)) ?_
 refine sR ?_
 refine xs 3 rfl (D4 (en:=U) (a:=x0) rfl TT.Oc TT.Ji (Pre.all _) (I2 _ (fun _=>rfl)) rfl ?_)
 refine xs 4 rfl (nS (l:=x0.1) rfl TT.bA TT.dR TT.bY rfl ?_)
 refine xz 2 (pS (x0.1)) ?_
 refine QW.ret zL ?_
 obtain rfl:=sO h
 exact Ends.one (.inr rfl) rfl (aI.tmp rfl) rfl rfl
noncomputable def vT (lT:(List UInt8)):Option (List UInt8):=
  (bif (decide ((lT.length:Int)<(32:Int))) then
  some lT
  else
  ((Eh lT).bind fun (x_2:(aE 32 UInt8))=>
  ((Ar x_2).bind fun (x_4:(List UInt8))=>
  some x_4)))
theorem Ku (lT:(List UInt8)) (r:(List UInt8)) (h:vT lT=some r):bI Tryz.prog 35 [.val (sV lT)] (.val (sV r)):=by
 refine bI.aU Tryz.func35 rfl (by simp [Tryz.ntmps35]) ?_
 rw [Tryz.ntmps35,TT.UY]
 refine QW.view (s':=⟨aG [(0,pS lT)],aj [],0,[]⟩) (View.init (by rfl)) zL ?_
 unfold vT at h
 refine sR ?_
 refine xz 2 (pS ([]:List UInt8)) ?_
 refine QW.seq ?_
 refine sR ?_
 refine xm 3 (pS lT) ?_
 refine xs 4 rfl (gE (l:=lT) rfl TT.bY rfl ?_)
 refine xs 5 rfl (cJ (a:=(lT.length:Int)) (b:=(32:Int)) rfl rfl rfl ?_)
 refine XK.nz ?_
 refine QW.cond (t:=(decide ((lT.length:Int)<(32:Int)))) rfl zL (fun dh=>?_) (fun dh=>?_)
 ·replace h:=bT h dh
  refine sR ?_
  refine xm 6 (pS lT) ?_
  refine xz 2 (pS lT) ?_
  refine QW.ret zL (gm ?_)
  obtain rfl:=sO h
  exact Ends.one (.inr rfl) rfl (aI.tmp rfl) rfl rfl
 ·replace h:=bF h dh
  refine QW.skip zL (aX ?_)
  refine sR ?_
  refine xm 7 (pS lT) ?_
  obtain ⟨x_2,nI,h⟩:=bO h
  refine xs 8 rfl (aA rfl rfl TT.N8 rfl (Mc lT _ nI) ?_)
  obtain ⟨x_4,kZ,h⟩:=bO h
  refine xs 9 rfl (aA rfl rfl TT.N7 rfl (Iz x_2 _ kZ) ?_)
  refine xz 2 (pS x_4) ?_
  refine QW.ret zL ?_
  obtain rfl:=sO h
  exact Ends.one (.inr rfl) rfl (aI.tmp rfl) rfl rfl
end Go.Proofs.YtlfjfoknbjcncaaGreat.K
