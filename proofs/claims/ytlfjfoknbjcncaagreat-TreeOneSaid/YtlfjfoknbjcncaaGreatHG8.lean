/- Layer 08: what it reckons. -/
import Derived.Test.YtlfjfoknbjcncaaGreatHG7
import Derived.KernelRfl
import Derived.Test.YtlfjfoknbjcncaaGreatHG3
import Derived.Test.YtlfjfoknbjcncaaGreatHG5
namespace Go.Proofs.YtlfjfoknbjcncaaGreat.K
open Go Go.RowKit
set_option linter.unusedSimpArgs false
set_option linter.unusedVariables false
set_option maxRecDepth 20000
set_option maxHeartbeats 4000000
namespace TT
theorem AA:p8 Tryz.prog 43=some ([Value.int IntKind.u8 0,Value.int IntKind.u8 0,Value.int IntKind.u8 0,Value.int IntKind.u8 0,Value.int IntKind.u8 0,Value.int IntKind.u8 0,Value.int IntKind.u8 0,Value.int IntKind.u8 0,Value.int IntKind.u8 0,Value.int IntKind.u8 0,Value.int IntKind.u8 0,Value.int IntKind.u8 0,Value.int IntKind.u8 0,Value.int IntKind.u8 0,Value.int IntKind.u8 0,Value.int IntKind.u8 0,Value.int IntKind.u8 0,Value.int IntKind.u8 0,Value.int IntKind.u8 0,Value.int IntKind.u8 0,Value.int IntKind.u8 0,Value.int IntKind.u8 0,Value.int IntKind.u8 0,Value.int IntKind.u8 0,Value.int IntKind.u8 0,Value.int IntKind.u8 0,Value.int IntKind.u8 0,Value.int IntKind.u8 0,Value.int IntKind.u8 0,Value.int IntKind.u8 0,Value.int IntKind.u8 0,Value.int IntKind.u8 0,Value.string ⟨#[]⟩], .inl [(0,32),(32,1)]):=by kernel_rfl
theorem OD:aP Tryz.prog 16=true:=by kernel_rfl
theorem OE:aP Tryz.prog 17=true:=by kernel_rfl
theorem CA:aP Tryz.prog 18=true:=by kernel_rfl
theorem OF:aP Tryz.prog 21=true:=by kernel_rfl
theorem Qq:aP Tryz.prog 6=true:=by kernel_rfl
theorem Js:aP Tryz.prog 8=true:=by kernel_rfl
theorem Qr:aP Tryz.prog 9=true:=by kernel_rfl
theorem VN:Tryz.f17.results.toList=[.tmp 2]:=rfl
theorem XH:Tryz.f4.results.toList=[.tmp 4]:=rfl
theorem XI:Tryz.f6.results.toList=[.tmp 0]:=rfl
theorem A7:mb Tryz.prog 28=some [Value.int IntKind.u8 0,Value.int IntKind.u8 0,Value.int IntKind.u8 0,Value.int IntKind.u8 0,Value.int IntKind.u8 0,Value.int IntKind.u8 0,Value.int IntKind.u8 0,Value.int IntKind.u8 0,Value.int IntKind.u8 0,Value.int IntKind.u8 0,Value.int IntKind.u8 0,Value.int IntKind.u8 0,Value.int IntKind.u8 0,Value.int IntKind.u8 0,Value.int IntKind.u8 0,Value.int IntKind.u8 0,Value.int IntKind.u8 0,Value.int IntKind.u8 0,Value.int IntKind.u8 0,Value.int IntKind.u8 0,Value.int IntKind.u8 0,Value.int IntKind.u8 0,Value.int IntKind.u8 0,Value.int IntKind.u8 0,Value.int IntKind.u8 0,Value.int IntKind.u8 0,Value.int IntKind.u8 0,Value.int IntKind.u8 0,Value.int IntKind.u8 0,Value.int IntKind.u8 0,Value.int IntKind.u8 0,Value.int IntKind.u8 0]:=by kernel_rfl
end TT
theorem qk (v0:(aE 32 UInt8)) (v1:(List UInt8)):(k9 (some ([Value.int IntKind.u8 0,Value.int IntKind.u8 0,Value.int IntKind.u8 0,Value.int IntKind.u8 0,Value.int IntKind.u8 0,Value.int IntKind.u8 0,Value.int IntKind.u8 0,Value.int IntKind.u8 0,Value.int IntKind.u8 0,Value.int IntKind.u8 0,Value.int IntKind.u8 0,Value.int IntKind.u8 0,Value.int IntKind.u8 0,Value.int IntKind.u8 0,Value.int IntKind.u8 0,Value.int IntKind.u8 0,Value.int IntKind.u8 0,Value.int IntKind.u8 0,Value.int IntKind.u8 0,Value.int IntKind.u8 0,Value.int IntKind.u8 0,Value.int IntKind.u8 0,Value.int IntKind.u8 0,Value.int IntKind.u8 0,Value.int IntKind.u8 0,Value.int IntKind.u8 0,Value.int IntKind.u8 0,Value.int IntKind.u8 0,Value.int IntKind.u8 0,Value.int IntKind.u8 0,Value.int IntKind.u8 0,Value.int IntKind.u8 0,Value.string ⟨#[]⟩], .inl [(0,32),(32,1)])) [(0, .d (.agg (v0.1.map U))),(1,pS v1)]).2∧(k9 (some ([Value.int IntKind.u8 0,Value.int IntKind.u8 0,Value.int IntKind.u8 0,Value.int IntKind.u8 0,Value.int IntKind.u8 0,Value.int IntKind.u8 0,Value.int IntKind.u8 0,Value.int IntKind.u8 0,Value.int IntKind.u8 0,Value.int IntKind.u8 0,Value.int IntKind.u8 0,Value.int IntKind.u8 0,Value.int IntKind.u8 0,Value.int IntKind.u8 0,Value.int IntKind.u8 0,Value.int IntKind.u8 0,Value.int IntKind.u8 0,Value.int IntKind.u8 0,Value.int IntKind.u8 0,Value.int IntKind.u8 0,Value.int IntKind.u8 0,Value.int IntKind.u8 0,Value.int IntKind.u8 0,Value.int IntKind.u8 0,Value.int IntKind.u8 0,Value.int IntKind.u8 0,Value.int IntKind.u8 0,Value.int IntKind.u8 0,Value.int IntKind.u8 0,Value.int IntKind.u8 0,Value.int IntKind.u8 0,Value.int IntKind.u8 0,Value.string ⟨#[]⟩], .inl [(0,32),(32,1)])) [(0, .d (.agg (v0.1.map U))),(1,pS v1)]).1= .agg ((fm (⟨v0,v1⟩:bt)).map .d):=
 dG rfl (show (k8 _ ((fm ({ct:=(aE.rep 32 (0:UInt8)),az:=([]:(List UInt8))}:bt)).map PV.d) _).2∧(k8 _ ((fm ({ct:=(aE.rep 32 (0:UInt8)),az:=([]:(List UInt8))}:bt)).map PV.d) _).1=_ from (cw rfl rfl (show ((v0.1.map U).map PV.d).length=32 by rw [List.length_map,List.length_map,v0.2]) (by rw [List.length_map,cy.len];decide) (LN _ v0) (cw rfl rfl rfl (by rw [List.length_map,cy.len];decide) (LO _ v1) dF)))
noncomputable def o7:Option Bool:=
  ((qN ([(⟨(aE.rep 32 (0:UInt8)),([120]:List UInt8)⟩:bt),(⟨((aE.rep 32 (0:UInt8)).put (0:Int) (16:UInt8)),([121]:List UInt8)⟩:bt)]:List bt)).bind fun (x_1:Tree)=>
  ((kf x_1 ((aE.rep 32 (0:UInt8)).put (0:Int) (16:UInt8))).bind fun (x_3:((List UInt8)×Int))=>
  ((gN x_1 (aE.rep 32 (0:UInt8))).bind fun (x_5:(Tree×Int))=>
  ((oA x_1).bind fun (x_7:(Node×(List Tree)))=>
  ((bif ((((x_3.1==([121]:List UInt8))&&(decide ((x_3.2)=(0:Int))))&&(decide ((x_5.2)=(0:Int))))==true) then jw (x_5.1) else some default).bind fun (x_9:(List UInt8))=>
  ((bif ((((x_3.1==([121]:List UInt8))&&(decide ((x_3.2)=(0:Int))))&&(decide ((x_5.2)=(0:Int))))==true) then qN ([(⟨((aE.rep 32 (0:UInt8)).put (0:Int) (16:UInt8)),([121]:List UInt8)⟩:bt)]:List bt) else some default).bind fun (x_11:Tree)=>
  ((bif ((((x_3.1==([121]:List UInt8))&&(decide ((x_3.2)=(0:Int))))&&(decide ((x_5.2)=(0:Int))))==true) then jw x_11 else some default).bind fun (x_13:(List UInt8))=>
  ((bif (((((((x_3.1==([121]:List UInt8))&&(decide ((x_3.2)=(0:Int))))&&(decide ((x_5.2)=(0:Int))))&&(x_9==x_13))&&(decide (((x_7.1).bf)=(3:Int))))&&(decide (((x_7.2).length:Int)=(2:Int))))==true) then jw (x_5.1) else some default).bind fun (x_15:(List UInt8))=>
  ((bif ((((((((x_3.1==([121]:List UInt8))&&(decide ((x_3.2)=(0:Int))))&&(decide ((x_5.2)=(0:Int))))&&(x_9==x_13))&&(decide (((x_7.1).bf)=(3:Int))))&&(decide (((x_7.2).length:Int)=(2:Int))))&&(!(x_15==([]:List UInt8))))==true) then qP (⟨aa.nil⟩:Tree) else some default).bind fun (x_17:Bool)=>
  some ((((((((x_3.1==([121]:List UInt8))&&(decide ((x_3.2)=(0:Int))))&&(decide ((x_5.2)=(0:Int))))&&(x_9==x_13))&&(decide (((x_7.1).bf)=(3:Int))))&&(decide (((x_7.2).length:Int)=(2:Int))))&&(!(x_15==([]:List UInt8))))&&x_17))))))))))
theorem Em (r:Bool) (h:o7=some r):bI Tryz.prog 6 [] (.val (.bool r)):=by
 refine bI.aU Tryz.func6 rfl (by simp [Tryz.ntmps6]) ?_
 rw [Tryz.ntmps6,TT.XI]
 refine QW.view (s':=⟨aG [],aj [],0,[]⟩) (View.init (by rfl)) zL ?_
 unfold o7 at h
 refine sR ?_
 refine xz 0 (pB false) ?_
 refine sR ?_
 refine xs 1 rfl (bB (l:=(((aE.rep 32 (0:UInt8)).1.map U).map .d)) rfl TT.A7 rfl rfl ?_)
 refine xs 2 rfl (bB (l:=(((aE.rep 32 (0:UInt8)).1.map U).map .d)) rfl TT.A7 rfl rfl ?_)
 refine XK.nz ?_
 refine sR ?_
 refine xs 10 rfl (cV (i:=(0:Int)) rfl TT.Hg TT.Dd rfl rfl (show 0≤(0:Int)∧(0:Int)<((32:Nat):Int) by decide) ?_)
 refine XK.st none rfl rfl (bh (c:=[.d (.val (.int .u8 ((16:UInt8).toNat:Int)))]) (l':=((((aE.rep 32 (0:UInt8)).put (0:Int) (16:UInt8)).1.map U).map .d)) rfl TT.jx rfl rfl rfl rfl rfl rfl (rM (show 0≤(0:Int)∧(0:Int)<((32:Nat):Int) by decide)) (p9 (show 0≤(0:Int)∧(0:Int)<((32:Nat):Int) by decide)) ?_)
 refine XK.nz ?_
 refine sR ?_
 refine XK.as (some 11) rfl rfl (bD (v:= .agg (((aE.rep 32 (0:UInt8)).1.map U).map .d)) rfl TT.jE rfl rfl (ju (by decide)) ⟨.d (.agg ((aE.rep 32 (0:UInt8)).1.map U)),gV,?_⟩)
 refine XK.as (some 12) rfl rfl (eT (v:= .agg ((fm (⟨(aE.rep 32 (0:UInt8)),([120]:List UInt8)⟩:bt)).map .d)) rfl TT.AA (qk (aE.rep 32 (0:UInt8)) ([120]:List UInt8)) ⟨.d (.agg (fm (⟨(aE.rep 32 (0:UInt8)),([120]:List UInt8)⟩:bt))),gV,?_⟩)
 refine XK.as (some 13) rfl rfl (bD (v:= .agg ((((aE.rep 32 (0:UInt8)).put (0:Int) (16:UInt8)).1.map U).map .d)) rfl TT.jE rfl rfl (ju (by decide)) ⟨.d (.agg (((aE.rep 32 (0:UInt8)).put (0:Int) (16:UInt8)).1.map U)),gV,?_⟩)
 refine XK.as (some 14) rfl rfl (eT (v:= .agg ((fm (⟨((aE.rep 32 (0:UInt8)).put (0:Int) (16:UInt8)),([121]:List UInt8)⟩:bt)).map .d)) rfl TT.AA (qk ((aE.rep 32 (0:UInt8)).put (0:Int) (16:UInt8)) ([121]:List UInt8)) ⟨.d (.agg (fm (⟨((aE.rep 32 (0:UInt8)).put (0:Int) (16:UInt8)),([121]:List UInt8)⟩:bt))),gV,?_⟩)
 refine xs 15 rfl (ef (en:=bp) (l:=([(⟨(aE.rep 32 (0:UInt8)),([120]:List UInt8)⟩:bt),(⟨((aE.rep 32 (0:UInt8)).put (0:Int) (16:UInt8)),([121]:List UInt8)⟩:bt)]:List bt)) rfl TT.yp cy (by first | rfl | (simp only [List.map_cons,List.map_nil,yd];rfl)) rfl (by decide) (by simp [dw,cU,aB,dQ,PV.cz,cx,aG,jA,iU,jX,bU,Value.oneCell']) ?_)
 obtain ⟨x_1,fB,h⟩:=bO h
 refine xs 16 rfl (aA rfl rfl TT.CA rfl (y7 ([(⟨(aE.rep 32 (0:UInt8)),([120]:List UInt8)⟩:bt),(⟨((aE.rep 32 (0:UInt8)).put (0:Int) (16:UInt8)),([121]:List UInt8)⟩:bt)]:List bt) _ fB) ?_)
 refine xs 3 rfl (bB (l:=[.d (af (aa.nil))]) rfl TT.nk rfl rfl ?_)
 refine XK.st none rfl rfl (bh (l':=[.d (af (x_1.fp))]) rfl TT.fo rfl rfl rfl rfl rfl rfl (by simp) rfl ?_)
 refine XK.nz ?_
 refine sR ?_
 refine XK.as (some 18) rfl rfl (bD (v:= .agg [.d (af (x_1.fp))]) rfl TT.fo rfl rfl ⟨⟨by simp,by simp⟩,rfl⟩ ⟨.d (.agg (dz x_1)),(iH.dj rfl),?_⟩)
 refine XK.as (some 19) rfl rfl (bD (v:= .agg ((((aE.rep 32 (0:UInt8)).put (0:Int) (16:UInt8)).1.map U).map .d)) rfl TT.jE rfl rfl (ju (by decide)) ⟨.d (.agg (((aE.rep 32 (0:UInt8)).put (0:Int) (16:UInt8)).1.map U)),gV,?_⟩)
 obtain ⟨x_3,tX,h⟩:=bO h
 refine xs 20 rfl (aA rfl rfl TT.G4 rfl (vY x_1 ((aE.rep 32 (0:UInt8)).put (0:Int) (16:UInt8)) _ tX) ?_)
 refine xm 17 (.d (.tuple [.val (sV (x_3.1)), .val (.int .i64 (x_3.2))])) ?_
 refine xs 21 rfl (bM rfl rfl rfl ?_)
 refine xs 22 rfl (bM rfl rfl rfl ?_)
 refine xa 4 (pS (x_3.1)) ?_
 refine xz 5 (pI (x_3.2)) ?_
 refine QW.seq ?_
 refine QW.view (s':=⟨aG [(1, .aF 0 0),(2, .aF 1 0),(3, .aF 2 0),(4,pS (x_3.1)),(5,pI (x_3.2))],aj [.var (((aE.rep 32 (0:UInt8)).1.map U).map .d), .var ((((aE.rep 32 (0:UInt8)).put (0:Int) (16:UInt8)).1.map U).map .d), .var [.d (af (x_1.fp))]],3,[]⟩) (View.mk 3 [0,1,2] _ _ _ rfl rfl (by decide) (iC (iC (iC (iC (iC trivial))))) (And.intro (by simp only [cv,bq,PV.bK];rfl) (And.intro (by simp only [cv,bq,PV.bK];rfl) (And.intro rfl trivial))) rfl zL rfl) zL ?_
 refine rG ?_
 refine XK.as (some 24) rfl rfl (bD (v:= .agg [.d (af (x_1.fp))]) rfl TT.fo rfl rfl ⟨⟨by simp,by simp⟩,rfl⟩ ⟨.d (.agg (dz x_1)),(iH.dj rfl),?_⟩)
 refine XK.as (some 25) rfl rfl (bD (v:= .agg (((aE.rep 32 (0:UInt8)).1.map U).map .d)) rfl TT.jE rfl rfl (ju (by decide)) ⟨.d (.agg ((aE.rep 32 (0:UInt8)).1.map U)),gV,?_⟩)
 obtain ⟨x_5,sJ,h⟩:=bO h
 refine xs 26 rfl (aA rfl rfl TT.Js rfl (we x_1 (aE.rep 32 (0:UInt8)) _ sJ) ?_)
 refine xm 23 (.d (.tuple [.agg (dz (x_5.1)), .val (.int .i64 (x_5.2))])) ?_
 refine xs 27 rfl (bM rfl rfl rfl ?_)
 refine xs 28 rfl (bM rfl rfl rfl ?_)
 refine xs 6 rfl (bB (l:=[.d (af (aa.nil))]) rfl TT.nk rfl rfl ?_)
 refine XK.st none rfl rfl (bh (l':=[.d (af ((x_5.1).fp))]) rfl TT.fo rfl rfl rfl rfl rfl rfl (by simp) rfl ?_)
 refine xz 7 (pI (x_5.2)) ?_
 refine sR ?_
 refine XK.as (some 30) rfl rfl (bD (v:= .agg [.d (af (x_1.fp))]) rfl TT.fo rfl rfl ⟨⟨by simp,by simp⟩,rfl⟩ ⟨.d (.agg (dz x_1)),(iH.dj rfl),?_⟩)
 obtain ⟨x_7,pR,h⟩:=bO h
 refine xs 31 rfl (aA rfl rfl TT.OF rfl (Bz x_1 _ pR) ?_)
 refine xm 29 (.d (.tuple [.agg (cNode (x_7.1)), .slice ((x_7.2).map lq)])) ?_
 refine xs 32 rfl (bM rfl rfl rfl ?_)
 refine xs 33 rfl (bM rfl rfl rfl ?_)
 refine xs 8 rfl (bB (l:=(([pI (0), .full (([]:(List UInt8)).map U),pS ([]:List UInt8)])++(((aE.rep 16 ([]:(List UInt8))).1.map eS).map PV.d))) rfl TT.j9 rfl rfl ?_)
 refine XK.st none rfl rfl (bh (c:=(([pI ((x_7.1).bf), .d (.slice (((x_7.1).av).map U)),pS ((x_7.1).az)])++((((x_7.1).aR).1.map eS).map PV.d))) (l':=(([pI ((x_7.1).bf), .d (.slice (((x_7.1).av).map U)),pS ((x_7.1).az)])++((((x_7.1).aR).1.map eS).map PV.d))) rfl TT.dW rfl rfl rfl rfl (show (cNode (x_7.1)).map PV.d=_ by simp only [cNode,List.map_append];rfl) (aD (A:=[pI ((x_7.1).bf), .d (.slice (((x_7.1).av).map U)),pS ((x_7.1).az)]) (b:=16) rfl (aq _) rfl) (bW (aD (A:=[pI (0), .full (([]:(List UInt8)).map U),pS ([]:List UInt8)]) (b:=16) rfl (aq _) rfl) bL) (cQ ((aD (A:=[pI (0), .full (([]:(List UInt8)).map U),pS ([]:List UInt8)]) (b:=16) rfl (aq _) rfl).trans (aD (A:=[pI ((x_7.1).bf), .d (.slice (((x_7.1).av).map U)),pS ((x_7.1).az)]) (b:=16) rfl (aq _) rfl).symm)) ?_)
 refine xz 9 (.d (.slice ((x_7.2).map lq))) ?_
 refine QW.seq ?_
 refine QW.view (s':=⟨aG [(2, .aF 0 0),(4,pS (x_3.1)),(5,pI (x_3.2)),(6, .aF 1 0),(7,pI (x_5.2)),(8, .aF 2 0),(9, .d (.slice ((x_7.2).map lq)))],aj [.var ((((aE.rep 32 (0:UInt8)).put (0:Int) (16:UInt8)).1.map U).map .d), .var [.d (af ((x_5.1).fp))], .var (([pI ((x_7.1).bf), .d (.slice (((x_7.1).av).map U)),pS ((x_7.1).az)])++((((x_7.1).aR).1.map eS).map PV.d))],3,[]⟩) (View.mk 3 [1,3,4] _ _ _ rfl rfl (by decide) (iC (iC (iC (iC (iC (iC (iC trivial))))))) (And.intro (by simp only [cv,bq,PV.bK];rfl) (And.intro rfl (And.intro (by simp only [cv,eZ,PV.bK];rfl) trivial))) rfl zL rfl) zL ?_
 refine QW.region zL (PW.kX (id:=7) dc (M:=_) rfl (by kernel_rfl) ?_)
 refine RQ.st (some 34) rfl rfl (au (v:=pS (x_3.1)) rfl rfl ⟨⟨rfl,rfl⟩,?_⟩)
 refine RQ.st (some 35) rfl rfl (nR (a:=x_3.1) (b:=([121]:List UInt8)) rfl rfl rfl ⟨⟨rfl,rfl⟩,?_⟩)
 refine RQ.st (some 36) rfl rfl (au (v:=pB (x_3.1==([121]:List UInt8))) rfl rfl ⟨⟨rfl,rfl⟩,?_⟩)
 refine RQ.gd (v:=pI (x_3.2)) (T:=[]) (some 37) rfl rfl (by repeat (first | exact trivial | refine ⟨fun q=>by first | rfl | exact q | exact jC q | exact jY q,?_⟩)) (fun hg=>au (v:=pI (x_3.2)) rfl rfl g3) lp ?_
 refine RQ.gd (v:=pB (decide ((x_3.2)=(0:Int)))) (T:=[]) (some 38) rfl rfl (by repeat (first | exact trivial | refine ⟨fun q=>by first | rfl | exact q | exact jC q | exact jY q,?_⟩)) (fun hg=>eF (a:=(x_3.2)) (b:=(0:Int)) rfl rfl rfl g3) lp ?_
 refine RQ.st (some 39) rfl rfl (fu rfl rfl rfl rfl (fun hb=>by rw [hb];rfl) (fun _=>rfl) ⟨⟨rfl,rfl⟩,?_⟩)
 refine RQ.st (some 40) rfl rfl (au (v:=pB ((x_3.1==([121]:List UInt8))&&(decide ((x_3.2)=(0:Int))))) rfl rfl ⟨⟨rfl,rfl⟩,?_⟩)
 refine RQ.gd (v:=pI (x_5.2)) (T:=[]) (some 41) rfl rfl (by repeat (first | exact trivial | refine ⟨fun q=>by first | rfl | exact q | exact jC q | exact jY q,?_⟩)) (fun hg=>au (v:=pI (x_5.2)) rfl rfl g3) lp ?_
 refine RQ.gd (v:=pB (decide ((x_5.2)=(0:Int)))) (T:=[]) (some 42) rfl rfl (by repeat (first | exact trivial | refine ⟨fun q=>by first | rfl | exact q | exact jC q | exact jY q,?_⟩)) (fun hg=>eF (a:=(x_5.2)) (b:=(0:Int)) rfl rfl rfl g3) lp ?_
 refine RQ.st (some 43) rfl rfl (fu rfl rfl rfl rfl (fun hb=>by rw [hb];rfl) (fun _=>rfl) ⟨⟨rfl,rfl⟩,?_⟩)
 refine RQ.st (some 44) rfl rfl (au (v:=pB (((x_3.1==([121]:List UInt8))&&(decide ((x_3.2)=(0:Int))))&&(decide ((x_5.2)=(0:Int))))) rfl rfl ⟨⟨rfl,rfl⟩,?_⟩)
 refine RQ.gd (v:= .d (.agg (dz (x_5.1)))) (T:=[1]) (some 45) rfl rfl (by repeat (first | exact trivial | refine ⟨fun q=>by first | rfl | exact q | exact jC q | exact jY q,?_⟩)) (fun hg=>bD (v:= .agg [.d (af ((x_5.1).fp))]) rfl TT.fo rfl rfl ⟨⟨by simp,by simp⟩,rfl⟩ ⟨⟨rfl,rfl,rfl⟩,rfl,(iH.dj rfl)⟩) (fun _ i hi=>by simp only [List.mem_singleton] at hi;subst hi;decide) ?_
 obtain ⟨x_9,Ch,h⟩:=bO h
 refine RQ.gd (v:=pS x_9) (T:=[]) (some 46) rfl rfl (by repeat (first | exact trivial | refine ⟨fun q=>by first | rfl | exact q | exact jC q | exact jY q,?_⟩)) (fun hg=>aA rfl rfl TT.s7 rfl (lV (x_5.1) _ (bT Ch hg)) g3) lp ?_
 refine RQ.gd (v:= .d (.agg (((aE.rep 32 (0:UInt8)).put (0:Int) (16:UInt8)).1.map U))) (T:=[0]) (some 47) rfl rfl (by repeat (first | exact trivial | refine ⟨fun q=>by first | rfl | exact q | exact jC q | exact jY q,?_⟩)) (fun hg=>bD (v:= .agg ((((aE.rep 32 (0:UInt8)).put (0:Int) (16:UInt8)).1.map U).map .d)) rfl TT.jE rfl rfl (ju (by decide)) ⟨⟨rfl,rfl,rfl⟩,rfl,gV⟩) (fun _ i hi=>by simp only [List.mem_singleton] at hi;subst hi;decide) ?_
 refine RQ.gd (v:= .d (.agg (fm (⟨((aE.rep 32 (0:UInt8)).put (0:Int) (16:UInt8)),([121]:List UInt8)⟩:bt)))) (T:=[]) (some 48) rfl rfl (by repeat (first | exact trivial | refine ⟨fun q=>by first | rfl | exact q | exact jC q | exact jY q,?_⟩)) (fun hg=>eT (v:= .agg ((fm (⟨((aE.rep 32 (0:UInt8)).put (0:Int) (16:UInt8)),([121]:List UInt8)⟩:bt)).map .d)) rfl TT.AA (qk ((aE.rep 32 (0:UInt8)).put (0:Int) (16:UInt8)) ([121]:List UInt8)) ⟨⟨rfl,rfl,rfl⟩,rfl,gV⟩) lp ?_
 refine RQ.gd (v:= .full (([(⟨((aE.rep 32 (0:UInt8)).put (0:Int) (16:UInt8)),([121]:List UInt8)⟩:bt)]:List bt).map bp)) (T:=[]) (some 49) rfl rfl (by repeat (first | exact trivial | refine ⟨fun q=>by first | rfl | exact q | exact jC q | exact jY q,?_⟩)) (fun hg=>ef (en:=bp) (l:=([(⟨((aE.rep 32 (0:UInt8)).put (0:Int) (16:UInt8)),([121]:List UInt8)⟩:bt)]:List bt)) rfl TT.yp cy (by first | rfl | (simp only [List.map_cons,List.map_nil,yd];rfl)) rfl (by decide) (by simp [dw,cU,aB,dQ,PV.cz,cx,aG,jA,iU,jX,bU,Value.oneCell']) g3) lp ?_
 obtain ⟨x_11,pY,h⟩:=bO h
 refine RQ.gd (v:= .d (.agg (dz x_11))) (T:=[]) (some 50) rfl rfl (by repeat (first | exact trivial | refine ⟨fun q=>by first | rfl | exact q | exact jC q | exact jY q,?_⟩)) (fun hg=>aA rfl rfl TT.CA rfl (y7 ([(⟨((aE.rep 32 (0:UInt8)).put (0:Int) (16:UInt8)),([121]:List UInt8)⟩:bt)]:List bt) _ (bT pY hg)) g3) lp ?_
 obtain ⟨x_13,Ci,h⟩:=bO h
 refine RQ.gd (v:=pS x_13) (T:=[]) (some 51) rfl rfl (by repeat (first | exact trivial | refine ⟨fun q=>by first | rfl | exact q | exact jC q | exact jY q,?_⟩)) (fun hg=>aA rfl rfl TT.s7 rfl (lV x_11 _ (bT Ci hg)) g3) lp ?_
 refine RQ.gd (v:=pB (x_9==x_13)) (T:=[]) (some 52) rfl rfl (by repeat (first | exact trivial | refine ⟨fun q=>by first | rfl | exact q | exact jC q | exact jY q,?_⟩)) (fun hg=>nR (a:=x_9) (b:=x_13) rfl rfl rfl g3) lp ?_
 refine RQ.st (some 53) rfl rfl (fu rfl rfl rfl rfl (fun hb=>by rw [hb];rfl) (fun _=>rfl) ⟨⟨rfl,rfl⟩,?_⟩)
 refine RQ.st (some 54) rfl rfl (au (v:=pB ((((x_3.1==([121]:List UInt8))&&(decide ((x_3.2)=(0:Int))))&&(decide ((x_5.2)=(0:Int))))&&(x_9==x_13))) rfl rfl ⟨⟨rfl,rfl⟩,?_⟩)
 refine RQ.gd (v:= .aF 2 0) (T:=[]) (some 55) rfl rfl (by repeat (first | exact trivial | refine ⟨fun q=>by first | rfl | exact q | exact jC q | exact jY q,?_⟩)) (fun hg=>gF rfl TT.qK (by decide) rfl g3) lp ?_
 refine RQ.gd (v:=pI ((x_7.1).bf)) (T:=[2]) (some 56) rfl rfl (by repeat (first | exact trivial | refine ⟨fun q=>by first | rfl | exact q | exact jC q | exact jY q,?_⟩)) (fun hg=>bD (v:=pI ((x_7.1).bf)) rfl TT.mW rfl rfl (I7 ⟨⟨by simp,by simp⟩,rfl⟩) g3) (fun _ i hi=>by simp only [List.mem_singleton] at hi;subst hi;decide) ?_
 refine RQ.gd (v:=pB (decide (((x_7.1).bf)=(3:Int)))) (T:=[]) (some 57) rfl rfl (by repeat (first | exact trivial | refine ⟨fun q=>by first | rfl | exact q | exact jC q | exact jY q,?_⟩)) (fun hg=>eF (a:=((x_7.1).bf)) (b:=(3:Int)) rfl rfl rfl g3) lp ?_
 refine RQ.st (some 58) rfl rfl (fu rfl rfl rfl rfl (fun hb=>by rw [hb];rfl) (fun _=>rfl) ⟨⟨rfl,rfl⟩,?_⟩)
 refine RQ.st (some 59) rfl rfl (au (v:=pB (((((x_3.1==([121]:List UInt8))&&(decide ((x_3.2)=(0:Int))))&&(decide ((x_5.2)=(0:Int))))&&(x_9==x_13))&&(decide (((x_7.1).bf)=(3:Int))))) rfl rfl ⟨⟨rfl,rfl⟩,?_⟩)
 refine RQ.gd (v:= .d (.slice ((x_7.2).map lq))) (T:=[]) (some 60) rfl rfl (by repeat (first | exact trivial | refine ⟨fun q=>by first | rfl | exact q | exact jC q | exact jY q,?_⟩)) (fun hg=>au (v:= .d (.slice ((x_7.2).map lq))) rfl rfl g3) lp ?_
 refine RQ.gd (v:=pI ((x_7.2).length:Int)) (T:=[]) (some 61) rfl rfl (by repeat (first | exact trivial | refine ⟨fun q=>by first | rfl | exact q | exact jC q | exact jY q,?_⟩)) (fun hg=>cM (en:=lq) (l:=x_7.2) rfl TT.Jm rfl g3) lp ?_
 refine RQ.gd (v:=pB (decide (((x_7.2).length:Int)=(2:Int)))) (T:=[]) (some 62) rfl rfl (by repeat (first | exact trivial | refine ⟨fun q=>by first | rfl | exact q | exact jC q | exact jY q,?_⟩)) (fun hg=>eF (a:=((x_7.2).length:Int)) (b:=(2:Int)) rfl rfl rfl g3) lp ?_
 refine RQ.st (some 63) rfl rfl (fu rfl rfl rfl rfl (fun hb=>by rw [hb];rfl) (fun _=>rfl) ⟨⟨rfl,rfl⟩,?_⟩)
 refine RQ.st (some 64) rfl rfl (au (v:=pB ((((((x_3.1==([121]:List UInt8))&&(decide ((x_3.2)=(0:Int))))&&(decide ((x_5.2)=(0:Int))))&&(x_9==x_13))&&(decide (((x_7.1).bf)=(3:Int))))&&(decide (((x_7.2).length:Int)=(2:Int))))) rfl rfl ⟨⟨rfl,rfl⟩,?_⟩)
 refine RQ.gd (v:= .d (.agg (dz (x_5.1)))) (T:=[1]) (some 65) rfl rfl (by repeat (first | exact trivial | refine ⟨fun q=>by first | rfl | exact q | exact jC q | exact jY q,?_⟩)) (fun hg=>bD (v:= .agg [.d (af ((x_5.1).fp))]) rfl TT.fo rfl rfl ⟨⟨by simp,by simp⟩,rfl⟩ ⟨⟨rfl,rfl,rfl⟩,rfl,(iH.dj rfl)⟩) (fun _ i hi=>by simp only [List.mem_singleton] at hi;subst hi;decide) ?_
 obtain ⟨x_15,vF,h⟩:=bO h
 refine RQ.gd (v:=pS x_15) (T:=[]) (some 66) rfl rfl (by repeat (first | exact trivial | refine ⟨fun q=>by first | rfl | exact q | exact jC q | exact jY q,?_⟩)) (fun hg=>aA rfl rfl TT.s7 rfl (lV (x_5.1) _ (bT vF hg)) g3) lp ?_
 refine RQ.gd (v:=pB (!(x_15==([]:List UInt8)))) (T:=[]) (some 67) rfl rfl (by repeat (first | exact trivial | refine ⟨fun q=>by first | rfl | exact q | exact jC q | exact jY q,?_⟩)) (fun hg=>yO (a:=x_15) (b:=([]:List UInt8)) rfl rfl rfl g3) lp ?_
 refine RQ.st (some 68) rfl rfl (fu rfl rfl rfl rfl (fun hb=>by rw [hb];rfl) (fun _=>rfl) ⟨⟨rfl,rfl⟩,?_⟩)
 refine RQ.st (some 69) rfl rfl (au (v:=pB (((((((x_3.1==([121]:List UInt8))&&(decide ((x_3.2)=(0:Int))))&&(decide ((x_5.2)=(0:Int))))&&(x_9==x_13))&&(decide (((x_7.1).bf)=(3:Int))))&&(decide (((x_7.2).length:Int)=(2:Int))))&&(!(x_15==([]:List UInt8))))) rfl rfl ⟨⟨rfl,rfl⟩,?_⟩)
 refine RQ.gd (v:= .agg [.d (af (aa.nil))]) (T:=[]) (some 70) rfl rfl (by repeat (first | exact trivial | refine ⟨fun q=>by first | rfl | exact q | exact jC q | exact jY q,?_⟩)) (fun hg=>eT (v:= .agg [.d (af (aa.nil))]) rfl TT.ud (dG rfl dF) g3) lp ?_
 obtain ⟨x_17,Cj,h⟩:=bO h
 refine RQ.gd (v:=pB x_17) (T:=[]) (some 71) rfl rfl (by repeat (first | exact trivial | refine ⟨fun q=>by first | rfl | exact q | exact jC q | exact jY q,?_⟩)) (fun hg=>aA rfl rfl TT.Qr rfl (At (⟨aa.nil⟩:Tree) _ (bT Cj hg)) g3) lp ?_
 refine RQ.st (some 72) rfl rfl (fu rfl rfl rfl rfl (fun hb=>by rw [hb];rfl) (fun _=>rfl) ⟨⟨rfl,rfl⟩,?_⟩)
 refine RQ.st (some 0) rfl rfl (cq (v:=pB ((((((((x_3.1==([121]:List UInt8))&&(decide ((x_3.2)=(0:Int))))&&(decide ((x_5.2)=(0:Int))))&&(x_9==x_13))&&(decide (((x_7.1).bf)=(3:Int))))&&(decide (((x_7.2).length:Int)=(2:Int))))&&(!(x_15==([]:List UInt8))))&&x_17)) rfl rfl ⟨⟨rfl,rfl⟩,?_⟩)
 refine RQ.nil (aX ?_)
 refine QW.ret zL ?_
 obtain rfl:=sO h
 exact Ends.one (.inr rfl) rfl (aI.tmp rfl) rfl rfl
inductive wm where
 | S
 | L1 (v3:(List bt)) (v4:Int)
noncomputable def jN (l0:(List bt)):wm→Option (wm⊕(List bt))
 | .S=>
  some (.inl (.L1 ([]:(List bt)) (0)))
 | .L1 v3 v4=>
  (bif ((decide (v4<(l0.length:Int)))&&(decide (v4<(24:Int)))) then
  gO (0≤v4∧v4<(l0.length:Int)) (
  (((bif ((idx l0 v4).az==([]:List UInt8)) then
  some (⟨(idx l0 v4).ct,([118]:List UInt8)⟩:bt)
  else
  some (idx l0 v4)):Option bt).bind fun (g7:bt)=>
  (((bif (decide ((100:Int)<((g7.az).length:Int))) then
  gO (0≤(0:Int)∧(0:Int)≤(100:Int)∧(100:Int)≤((g7.az).length:Int)) (
  some (⟨g7.ct,(sub (g7.az) (0:Int) (100:Int))⟩:bt))
  else
  some g7):Option bt).bind fun (uy:bt)=>
  gO ((v3.length+([uy]:List bt).length)*48≤140737488355328) (
  gO (bw (v4+(1:Int))) (
  some (.inl (.L1 (v3++([uy]:List bt)) (v4+(1:Int)))))))))
  else
  some (.inr v3))
noncomputable def wo (l0:(List bt)):Option (List bt):=g9 (jN l0) .S
theorem En (l0:(List bt)) (r:(List bt)) (h:wo l0=some r):bI Tryz.prog 17 [.slice (l0.map bp)] (.slice (r.map bp)):=by
 refine bI.aU Tryz.func17 rfl (by simp [Tryz.ntmps17]) ?_
 rw [Tryz.ntmps17,TT.VN]
 refine QW.view (s':=⟨aG [(0, .d (.slice (l0.map bp)))],aj [],0,[]⟩) (View.init (by rfl)) zL ?_
 replace h:=cL h
 obtain ⟨_,h⟩:=h
 obtain ⟨dm,rfl,h9⟩:=aQ h;replace h:=h9;clear h9;rw [jN] at h
 refine sR ?_
 refine xz 2 (.full (([]:(List bt)).map bp)) ?_
 refine sR ?_
 refine xz 3 (.full (([]:(List bt)).map bp)) ?_
 refine QW.seq ?_
 refine sR ?_
 refine xz 4 (pI (0)) ?_
 refine QW.block ?_
 refine QW.loop (fun k σ=>∃ v3:(List bt),∃ v4:Int,k≤dm∧run (jN l0) k (.L1 v3 v4)=some r∧σ=⟨aG [(0, .d (.slice (l0.map bp))),(3, .own 0 (v3.map bp)),(4,pI v4)],aj [.spare 33 v3.length],1,[]⟩) dm zL ⟨⟨aG [(0, .d (.slice (l0.map bp))),(3, .own 0 (([]:(List bt)).map bp)),(4,pI (0))],aj [.spare 33 ([]:(List bt)).length],1,[]⟩,View.trans (View.buf 3 33 rfl zL) (View.mk 1 [0] _ _ _ rfl rfl (by decide) (iC (iC (iC trivial))) (And.intro rfl trivial) rfl zL rfl),([]:(List bt)),0,Nat.le_refl _,jG h,rfl⟩ ?_
 rintro rO _ ⟨v3,v4,rP,h,rfl⟩
 obtain ⟨k_1,rfl,h9⟩:=aQ h;replace h:=h9;clear h9;rw [jN] at h
 refine QW.seq ?_
 refine sR ?_
 refine xm 6 (pI v4) ?_
 refine xm 7 (.d (.slice (l0.map bp))) ?_
 refine xs 8 rfl (cM (en:=bp) (l:=l0) rfl TT.pH rfl ?_)
 refine xs 9 rfl (cJ (a:=v4) (b:=(l0.length:Int)) rfl rfl rfl ?_)
 refine xm 10 (pB (decide (v4<(l0.length:Int)))) ?_
 refine xg 11 (pI v4) rfl rfl (fun hg=>au (v:=pI v4) rfl rfl g3) ?_
 refine xg 12 (pB (decide (v4<(24:Int)))) rfl rfl (fun hg=>cJ (a:=v4) (b:=(24:Int)) rfl rfl rfl g3) ?_
 refine xs 13 rfl (fu rfl rfl rfl rfl (fun hb=>by rw [hb];rfl) (fun _=>rfl) ?_)
 refine XK.nz ?_
 refine QW.cond (t:=((decide (v4<(l0.length:Int)))&&(decide (v4<(24:Int))))) rfl zL (fun cB=>?_) (fun cB=>?_)
 ·replace h:=fF h cB
  refine QW.skip zL (aX ?_)
  refine QW.seq ?_
  refine QW.block ?_
  refine sR ?_
  refine xm 16 (.d (.slice (l0.map bp))) ?_
  refine xm 17 (pI v4) ?_
  obtain ⟨dS,h⟩:=gG h
  refine xs 18 rfl (bC (l:=l0) (i:=v4) rfl TT.rY cy rfl rfl dS ?_)
  refine xs 19 rfl (aC (d:= .agg (fm (idx l0 v4))) rfl TT.xh rfl (⟨by rw [cy.len];decide,congrArg D.agg (List.take_of_length_le (by rw [cy.len];decide))⟩) ?_)
  refine xs 5 rfl (bB (l:=((fm (⟨(aE.rep 32 (0:UInt8)),([]:(List UInt8))⟩:bt)).map .d)) rfl TT.Jn rfl rfl ?_)
  refine XK.st none rfl rfl (bh (l':=((fm (idx l0 v4)).map .d)) rfl TT.xh rfl rfl rfl rfl rfl (FK (cy.len _)) (Ki (cy.len _)) (FJ ((cy.len _).trans (cy.len _).symm)) ?_)
  refine XK.nz ?_
  obtain ⟨g7,hq,h⟩:=bG h
  refine QW.qY (fun s'=>s'=⟨aG [(0, .d (.slice (l0.map bp))),(3, .own 0 (v3.map bp)),(4,pI v4),(5, .aF 1 0)],aj [.spare 33 v3.length, .var ((fm g7).map .d)],2,[]⟩) ?_ ?_
  ·replace h:=hq;clear hq
   refine sR ?_
   refine xs 20 rfl (gF rfl TT.vW (by decide) rfl ?_)
   refine xs 21 rfl (bD (v:=pS ((idx l0 v4).az)) rfl TT.fJ rfl rfl (C9 (tP _) (by rw [cy.len];decide) (by decide)) ?_)
   refine xs 22 rfl (nR (a:=(idx l0 v4).az) (b:=([]:List UInt8)) rfl rfl rfl ?_)
   refine XK.nz ?_
   refine QW.cond (t:=((idx l0 v4).az==([]:List UInt8))) rfl zL (fun jb=>?_) (fun jb=>?_)
   ·replace h:=bT h jb
    refine rG ?_
    refine xs 23 rfl (gF rfl TT.oY (by decide) rfl ?_)
    refine XK.as (some 24) rfl rfl (bD rfl TT.jE rfl rfl (D7 (nH _) (by rw [cy.len];decide) (by decide)) ⟨.d (.agg (((idx l0 v4).ct).1.map U)),gV,?_⟩)
    refine XK.as (some 25) rfl rfl (eT (v:= .agg ((fm (⟨(idx l0 v4).ct,([118]:List UInt8)⟩:bt)).map .d)) rfl TT.AA (qk ((idx l0 v4).ct) ([118]:List UInt8)) ⟨.d (.agg (fm (⟨(idx l0 v4).ct,([118]:List UInt8)⟩:bt))),gV,?_⟩)
    refine XK.st none rfl rfl (bh (l':=((fm (⟨(idx l0 v4).ct,([118]:List UInt8)⟩:bt)).map .d)) rfl TT.xh rfl rfl rfl rfl rfl (FK (cy.len _)) (Ki (cy.len _)) (FJ ((cy.len _).trans (cy.len _).symm)) ?_)
    refine XK.nz ?_
    obtain rfl:=sO h
    exact ⟨⟨aG [(0, .d (.slice (l0.map bp))),(3, .own 0 (v3.map bp)),(4,pI v4),(5, .aF 1 0)],aj [.spare 33 v3.length, .var ((fm (⟨(idx l0 v4).ct,([118]:List UInt8)⟩:bt)).map .d)],2,[]⟩,View.mk 2 [0,1] _ _ _ rfl rfl (by decide) (iC (iC (iC (iC trivial)))) (And.intro rfl (And.intro (by simp only [cv,bq,PV.bK];rfl) trivial)) rfl zL rfl,rfl⟩
   ·replace h:=bF h jb
    refine QW.skip zL (aX ?_)
    obtain rfl:=sO h
    exact ⟨⟨aG [(0, .d (.slice (l0.map bp))),(3, .own 0 (v3.map bp)),(4,pI v4),(5, .aF 1 0)],aj [.spare 33 v3.length, .var ((fm (idx l0 v4)).map .d)],2,[]⟩,View.mk 2 [0,1] _ _ _ rfl rfl (by decide) (iC (iC (iC (iC trivial)))) (And.intro rfl (And.intro (by simp only [cv,bq,PV.bK];rfl) trivial)) rfl zL rfl,rfl⟩
  ·rintro _ rfl
   obtain ⟨uy,hq,h⟩:=bG h
   refine QW.qY (fun s'=>s'=⟨aG [(0, .d (.slice (l0.map bp))),(3, .own 0 (v3.map bp)),(4,pI v4),(5, .aF 1 0)],aj [.spare 33 v3.length, .var ((fm uy).map .d)],2,[]⟩) ?_ ?_
   ·replace h:=hq;clear hq
    refine sR ?_
    refine xs 26 rfl (gF rfl TT.vW (by decide) rfl ?_)
    refine xs 27 rfl (bD (v:=pS (g7.az)) rfl TT.fJ rfl rfl (C9 (tP _) (by rw [cy.len];decide) (by decide)) ?_)
    refine xs 28 rfl (gE (l:=g7.az) rfl TT.bY rfl ?_)
    refine xs 29 rfl (nQ (a:=((g7.az).length:Int)) (b:=(100:Int)) rfl rfl rfl ?_)
    refine XK.nz ?_
    refine QW.cond (t:=(decide ((100:Int)<((g7.az).length:Int)))) rfl zL (fun jH=>?_) (fun jH=>?_)
    ·replace h:=bT h jH
     refine QW.region zL (PW.rL (id:=9) dc (M:=_) rfl (by kernel_rfl) ?_)
     refine RK.st (some 30) rfl rfl (gF rfl TT.oY (by decide) rfl ?_)
     refine RK.as (some 31) rfl rfl (bD rfl TT.jE rfl rfl (D7 (nH _) (by rw [cy.len];decide) (by decide)) ⟨.d (.agg ((g7.ct).1.map U)),gV,?_⟩)
     refine RK.st (some 32) rfl rfl (gF rfl TT.vW (by decide) rfl ?_)
     refine RK.st (some 33) rfl rfl (bD (v:=pS (g7.az)) rfl TT.fJ rfl rfl (C9 (tP _) (by rw [cy.len];decide) (by decide)) ?_)
     obtain ⟨mJ,h⟩:=bk h
     refine RK.st (some 34) rfl rfl (tN (l:=g7.az) (a:=(0:Int)) (b:=(100:Int)) rfl TT.bY rfl rfl rfl mJ ?_)
     refine RK.as (some 35) rfl rfl (eT (v:= .agg ((fm (⟨g7.ct,(sub (g7.az) (0:Int) (100:Int))⟩:bt)).map .d)) rfl TT.AA (qk (g7.ct) (sub (g7.az) (0:Int) (100:Int))) ⟨.d (.agg (fm (⟨g7.ct,(sub (g7.az) (0:Int) (100:Int))⟩:bt))),gV,?_⟩)
     refine RK.st none rfl rfl (bh (l':=((fm (⟨g7.ct,(sub (g7.az) (0:Int) (100:Int))⟩:bt)).map .d)) rfl TT.xh rfl rfl rfl rfl rfl (FK (cy.len _)) (Ki (cy.len _)) (FJ ((cy.len _).trans (cy.len _).symm)) ?_)
     refine RK.nil ⟨fT.comp (by rfl),(aX ?_)⟩
     obtain rfl:=sO h
     exact ⟨⟨aG [(0, .d (.slice (l0.map bp))),(3, .own 0 (v3.map bp)),(4,pI v4),(5, .aF 1 0)],aj [.spare 33 v3.length, .var ((fm (⟨g7.ct,(sub (g7.az) (0:Int) (100:Int))⟩:bt)).map .d)],2,[]⟩,View.mk 2 [0,1] _ _ _ rfl rfl (by decide) (iC (iC (iC (iC trivial)))) (And.intro rfl (And.intro (by simp only [cv,bq,PV.bK];rfl) trivial)) rfl zL rfl,rfl⟩
    ·replace h:=bF h jH
     refine QW.skip zL (aX ?_)
     obtain rfl:=sO h
     exact ⟨⟨aG [(0, .d (.slice (l0.map bp))),(3, .own 0 (v3.map bp)),(4,pI v4),(5, .aF 1 0)],aj [.spare 33 v3.length, .var ((fm g7).map .d)],2,[]⟩,View.mk 2 [0,1] _ _ _ rfl rfl (by decide) (iC (iC (iC (iC trivial)))) (And.intro rfl (And.intro (by simp only [cv,bq,PV.bK];rfl) trivial)) rfl zL rfl,rfl⟩
   ·rintro _ rfl
    refine rG ?_
    refine xm 36 (.own 0 (v3.map bp)) ?_
    refine XK.as (some 37) rfl rfl (bD (v:= .agg ((fm uy).map .d)) rfl TT.xh rfl rfl (Uf (cy.len _) (by decide)) ⟨.d (.agg (fm uy)),gV,?_⟩)
    refine xs 38 rfl (ef (en:=bp) (l:=([uy]:List bt)) rfl TT.yp cy (by first | rfl | (simp only [List.map_cons,List.map_nil,yd];rfl)) rfl (by decide) (by simp [dw,cU,aB,dQ,PV.cz,cx,aG,jA,iU,jX,bU,Value.oneCell']) ?_)
    obtain ⟨lQ,h⟩:=gG h
    refine xs 39 rfl (iY (en:=bp) (l:=v3) (l2:=([uy]:List bt)) rfl TT.yp TT.pH rfl cy rfl rfl rfl lQ (by decide) ?_)
    refine xa 3 (.own 2 ((v3++([uy]:List bt)).map bp)) ?_
    refine XK.nil (g6 (aX ?_))
    refine rG ?_
    refine xm 14 (pI v4) ?_
    obtain ⟨p5,h⟩:=gG h
    refine xs 15 rfl (bX (a:=v4) (b:=(1:Int)) rfl rfl rfl p5 ?_)
    refine xz 4 (pI (v4+(1:Int))) ?_
    exact ⟨k_1,by omega,⟨aG [(0, .d (.slice (l0.map bp))),(3, .own 0 ((v3++([uy]:List bt)).map bp)),(4,pI (v4+(1:Int)))],aj [.spare 33 (v3++([uy]:List bt)).length],1,[]⟩,View.mk 1 [2] _ _ _ rfl rfl (by decide) (iC (iC (iC trivial))) (And.intro rfl trivial) rfl zL rfl,(v3++([uy]:List bt)),(v4+(1:Int)),by omega,jG h,rfl⟩
 ·replace h:=fG h cB
  refine QW.exit zL (eD (eD (j3 (aX ?_))))
  refine sR ?_
  refine xm 40 (.own 0 (v3.map bp)) ?_
  refine xz 2 (.own 0 (v3.map bp)) ?_
  refine QW.ret zL ?_
  obtain rfl:=sG h
  exact Ends.one (.inr rfl) rfl (aI.tmp rfl) rfl rfl
inductive yt where
 | S
 | L1 (fO:(List bt)) (lF:(List bt)) (v8:Int) (nY:aa) (nZ:aa)
 | L3 (wq:(List In)) (uz:Int) (k7:aa) (qt:aa)
 | L4 (eu:(List In)) (dg:Int) (eE:Int) (oa:aa) (nA:aa) (si:(aE 32 UInt8))
noncomputable def bQ (l0:(List bt)) (iy:(List UInt8)):yt→Option (yt⊕Bool)
 | .S=>
  ((wo l0).bind fun (x_1:(List bt))=>
  ((qN x_1).bind fun (x_3:Tree)=>
  some (.inl (.L1 x_1 x_1 (0) (x_3.fp) (aa.nil)))))
 | .L1 fO lF v8 nY nZ=>
  (bif (((decide (v8<(iy.length:Int)))&&(decide (v8<(24:Int))))&&(decide ((0:Int)<(fO.length:Int)))) then
  gO (0≤v8∧v8<(iy.length:Int)) (
  gO ((fO.length:Int)≠0) (
  gO (0≤(((idx iy v8).toNat:Int).tmod (fO.length:Int))∧(((idx iy v8).toNat:Int).tmod (fO.length:Int))<(fO.length:Int)) (
  ((((gN (⟨nY⟩:Tree) ((idx fO (((idx iy v8).toNat:Int).tmod (fO.length:Int))).ct)).bind fun (x_10:(Tree×Int))=>
  (bif (decide ((x_10.2)=(0:Int))) then
  some ((x_10.1).fp)
  else
  some nY)):Option aa).bind fun (Dx:aa)=>
  ((tf lF ((idx fO (((idx iy v8).toNat:Int).tmod (fO.length:Int))).ct)).bind fun (x_13:(List bt))=>
  gO (bw (v8+(1:Int))) (
  some (.inl (.L1 fO x_13 (v8+(1:Int)) Dx nZ))))))))
  else
  ((ze lF).bind fun (x_16:(List In))=>
  gO (bw ((x_16.length:Int)-(1:Int))) (
  some (.inl (.L3 x_16 ((x_16.length:Int)-(1:Int)) nY nZ)))))
 | .L3 wq uz k7 qt=>
  (bif (decide ((0:Int)≤uz)) then
  some (.inl (.L4 wq uz (0) k7 qt (aE.rep 32 (0:UInt8))))
  else
  ((pM wq).bind fun (nL:(List UInt8))=>
  ((o7).bind fun (n8:Bool)=>
  ((bif (n8==true) then jw (⟨k7⟩:Tree) else some default).bind fun (AB:(List UInt8))=>
  ((bif ((n8&&(AB==nL))==true) then jw (⟨qt⟩:Tree) else some default).bind fun (Dy:(List UInt8))=>
  ((bif (((n8&&(AB==nL))&&(Dy==nL))==true) then iG (⟨k7⟩:Tree) else some default).bind fun (Jt:(List UInt8))=>
  ((bif (((n8&&(AB==nL))&&(Dy==nL))==true) then o5 nL else some default).bind fun (Ju:(List UInt8))=>
  some (.inr (((n8&&(AB==nL))&&(Dy==nL))&&(Jt==Ju))))))))))
 | .L4 eu dg eE oa nA si=>
  (bif (decide (eE<(32:Int))) then
  gO (0≤dg∧dg<(eu.length:Int)) (
  gO (bw ((2:Int)*eE)) (
  gO (0≤((2:Int)*eE)∧((2:Int)*eE)<(((idx eu dg).av).length:Int)) (
  gO (0≤dg∧dg<(eu.length:Int)) (
  gO (bw ((2:Int)*eE)) (
  gO (bw (((2:Int)*eE)+(1:Int))) (
  gO (0≤(((2:Int)*eE)+(1:Int))∧(((2:Int)*eE)+(1:Int))<(((idx eu dg).av).length:Int)) (
  gO (0≤eE∧eE<((32:Nat):Int)) (
  gO (bw (eE+(1:Int))) (
  some (.inl (.L4 eu dg (eE+(1:Int)) oa nA (si.put eE (((16:UInt8)*(idx ((idx eu dg).av) ((2:Int)*eE)))+(idx ((idx eu dg).av) (((2:Int)*eE)+(1:Int))))))))))))))))
  else
  gO (0≤dg∧dg<(eu.length:Int)) (
  ((jv (⟨nA⟩:Tree) si ((idx eu dg).az)).bind fun (wu:(Tree×Int))=>
  (bif (!decide ((wu.2)=(0:Int))) then
  some (.inr false)
  else
  gO (bw (dg-(1:Int))) (
  some (.inl (.L3 eu (dg-(1:Int)) oa ((wu.1).fp))))))))
noncomputable def yu (l0:(List bt)) (iy:(List UInt8)):Option Bool:=g9 (bQ l0 iy) .S
theorem CB (l0:(List bt)) (iy:(List UInt8)) (r:Bool) (h:yu l0 iy=some r):bI Tryz.prog 4 [.slice (l0.map bp), .slice (iy.map U)] (.val (.bool r)):=by
 refine bI.aU Tryz.func4 rfl (by simp [Tryz.ntmps4]) ?_
 rw [Tryz.ntmps4,TT.XH]
 refine QW.view (s':=⟨aG [(0, .d (.slice (l0.map bp))),(1, .d (.slice (iy.map U)))],aj [],0,[]⟩) (View.init (by rfl)) zL ?_
 replace h:=cL h
 obtain ⟨_,h⟩:=h
 obtain ⟨dm,rfl,h9⟩:=aQ h;replace h:=h9;clear h9;rw [bQ] at h
 refine sR ?_
 refine xz 4 (pB false) ?_
 refine sR ?_
 refine xm 19 (.d (.slice (l0.map bp))) ?_
 obtain ⟨x_1,fB,h⟩:=bG h
 refine xs 20 rfl (aA rfl rfl TT.OE rfl (En l0 _ fB) ?_)
 refine xz 0 (.d (.slice (x_1.map bp))) ?_
 refine sR ?_
 refine xm 21 (.d (.slice (x_1.map bp))) ?_
 obtain ⟨x_3,tX,h⟩:=bG h
 refine xs 22 rfl (aA rfl rfl TT.CA rfl (y7 x_1 _ tX) ?_)
 refine xs 23 rfl (eT (v:= .agg [.d (af (aa.nil))]) rfl TT.ud (dG rfl dF) ?_)
 refine xs 5 rfl (bB (l:=[.d (af (aa.nil))]) rfl TT.nk rfl rfl ?_)
 refine xs 6 rfl (bB (l:=[.d (af (aa.nil))]) rfl TT.nk rfl rfl ?_)
 refine XK.st none rfl rfl (bh (l':=[.d (af (x_3.fp))]) rfl TT.fo rfl rfl rfl rfl rfl rfl (by simp) rfl ?_)
 refine XK.st none rfl rfl (bh (l':=[.d (af (aa.nil))]) rfl TT.fo rfl rfl rfl rfl rfl rfl (by simp) rfl ?_)
 refine XK.nz ?_
 refine sR ?_
 refine xm 24 (.d (.slice (x_1.map bp))) ?_
 refine xz 7 (.d (.slice (x_1.map bp))) ?_
 refine QW.seq ?_
 refine sR ?_
 refine xz 8 (pI (0)) ?_
 refine QW.block ?_
 refine QW.loop (fun k σ=>∃ fO:(List bt),∃ lF:(List bt),∃ v8:Int,∃ nY:aa,∃ nZ:aa,k≤dm∧run (bQ l0 iy) k (.L1 fO lF v8 nY nZ)=some r∧σ=⟨aG [(0, .d (.slice (fO.map bp))),(1, .d (.slice (iy.map U))),(5, .aF 0 0),(6, .aF 1 0),(7, .d (.slice (lF.map bp))),(8,pI v8)],aj [.var [.d (af nY)], .var [.d (af nZ)]],2,[]⟩) dm zL ⟨⟨aG [(0, .d (.slice (x_1.map bp))),(1, .d (.slice (iy.map U))),(5, .aF 0 0),(6, .aF 1 0),(7, .d (.slice (x_1.map bp))),(8,pI (0))],aj [.var [.d (af (x_3.fp))], .var [.d (af (aa.nil))]],2,[]⟩,View.mk 2 [0,1] _ _ _ rfl rfl (by decide) (iC (iC (iC (iC (iC (iC trivial)))))) (And.intro rfl (And.intro rfl trivial)) rfl zL rfl,x_1,x_1,0,x_3.fp,aa.nil,Nat.le_refl _,jG h,rfl⟩ ?_
 rintro Pg _ ⟨fO,lF,v8,nY,nZ,Ph,h,rfl⟩
 obtain ⟨Br,rfl,h9⟩:=aQ h;replace h:=h9;clear h9;rw [bQ] at h
 refine QW.seq ?_
 refine sR ?_
 refine xm 25 (pI v8) ?_
 refine xm 26 (.d (.slice (iy.map U))) ?_
 refine xs 27 rfl (cM (en:=U) (l:=iy) rfl TT.bA rfl ?_)
 refine xs 28 rfl (cJ (a:=v8) (b:=(iy.length:Int)) rfl rfl rfl ?_)
 refine xm 29 (pB (decide (v8<(iy.length:Int)))) ?_
 refine xg 30 (pI v8) rfl rfl (fun hg=>au (v:=pI v8) rfl rfl g3) ?_
 refine xg 31 (pB (decide (v8<(24:Int)))) rfl rfl (fun hg=>cJ (a:=v8) (b:=(24:Int)) rfl rfl rfl g3) ?_
 refine xs 32 rfl (fu rfl rfl rfl rfl (fun hb=>by rw [hb];rfl) (fun _=>rfl) ?_)
 refine xm 33 (pB ((decide (v8<(iy.length:Int)))&&(decide (v8<(24:Int))))) ?_
 refine xg 34 (.d (.slice (fO.map bp))) rfl rfl (fun hg=>au (v:= .d (.slice (fO.map bp))) rfl rfl g3) ?_
 refine xg 35 (pI (fO.length:Int)) rfl rfl (fun hg=>cM (en:=bp) (l:=fO) rfl TT.pH rfl g3) ?_
 refine xg 36 (pB (decide ((0:Int)<(fO.length:Int)))) rfl rfl (fun hg=>nQ (a:=(fO.length:Int)) (b:=(0:Int)) rfl rfl rfl g3) ?_
 refine xs 37 rfl (fu rfl rfl rfl rfl (fun hb=>by rw [hb];rfl) (fun _=>rfl) ?_)
 refine XK.nz ?_
 refine QW.cond (t:=(((decide (v8<(iy.length:Int)))&&(decide (v8<(24:Int))))&&(decide ((0:Int)<(fO.length:Int))))) rfl zL (fun kF=>?_) (fun kF=>?_)
 ·replace h:=fF h kF
  refine QW.skip zL (aX ?_)
  refine QW.seq ?_
  refine QW.block ?_
  refine sR ?_
  refine xm 40 (.d (.slice (fO.map bp))) ?_
  refine xm 41 (.d (.slice (iy.map U))) ?_
  refine xm 42 (pI v8) ?_
  obtain ⟨lQ,h⟩:=gG h
  refine xs 43 rfl (bC (l:=iy) (i:=v8) rfl TT.ek bx rfl rfl lQ ?_)
  refine xs 44 rfl (aC (d:= .val (.int .u8 ((idx iy v8).toNat:Int))) rfl TT.jx rfl (c8.one) ?_)
  refine xs 45 rfl (AU (n:=((idx iy v8).toNat:Int)) rfl TT.dR TT.kC rfl (AW _) ?_)
  refine xm 46 (.d (.slice (fO.map bp))) ?_
  refine xs 47 rfl (cM (en:=bp) (l:=fO) rfl TT.pH rfl ?_)
  obtain ⟨p5,h⟩:=gG h
  refine xs 48 rfl (uT (a:=((idx iy v8).toNat:Int)) (b:=(fO.length:Int)) rfl rfl rfl p5 ?_)
  obtain ⟨qG,h⟩:=gG h
  refine xs 49 rfl (bC (l:=fO) (i:=(((idx iy v8).toNat:Int).tmod (fO.length:Int))) rfl TT.rY cy rfl rfl qG ?_)
  refine xs 50 rfl (aO rfl TT.oY (by decide) rfl ?_)
  refine xs 51 rfl (aC (d:= .agg (((idx fO (((idx iy v8).toNat:Int).tmod (fO.length:Int))).ct).1.map U)) rfl TT.jE rfl (nH _) ?_)
  refine xs 9 rfl (bB (l:=(((aE.rep 32 (0:UInt8)).1.map U).map .d)) rfl TT.A7 rfl rfl ?_)
  refine XK.st none rfl rfl (bh (l':=((((idx fO (((idx iy v8).toNat:Int).tmod (fO.length:Int))).ct).1.map U).map .d)) rfl TT.jE rfl rfl rfl rfl rfl (aq _) (nh _) (cQ ((aq _).trans (aq _).symm)) ?_)
  refine XK.nz ?_
  obtain ⟨Dx,hq,h⟩:=bG h
  refine QW.qY (fun s'=>s'=⟨aG [(0, .d (.slice (fO.map bp))),(1, .d (.slice (iy.map U))),(5, .aF 0 0),(6, .aF 1 0),(7, .d (.slice (lF.map bp))),(8,pI v8),(9, .aF 2 0)],aj [.var [.d (af Dx)], .var [.d (af nZ)], .var ((((idx fO (((idx iy v8).toNat:Int).tmod (fO.length:Int))).ct).1.map U).map .d)],3,[]⟩) ?_ ?_
  ·replace h:=hq;clear hq
   refine sR ?_
   refine XK.as (some 53) rfl rfl (bD (v:= .agg [.d (af nY)]) rfl TT.fo rfl rfl ⟨⟨by simp,by simp⟩,rfl⟩ ⟨.d (.agg (dz (⟨nY⟩:Tree))),(iH.dj rfl),?_⟩)
   refine XK.as (some 54) rfl rfl (bD (v:= .agg ((((idx fO (((idx iy v8).toNat:Int).tmod (fO.length:Int))).ct).1.map U).map .d)) rfl TT.jE rfl rfl (ju (by decide)) ⟨.d (.agg (((idx fO (((idx iy v8).toNat:Int).tmod (fO.length:Int))).ct).1.map U)),gV,?_⟩)
   obtain ⟨x_10,qJ,h⟩:=bO h
   refine xs 55 rfl (aA rfl rfl TT.Js rfl (we (⟨nY⟩:Tree) ((idx fO (((idx iy v8).toNat:Int).tmod (fO.length:Int))).ct) _ qJ) ?_)
   refine xm 52 (.d (.tuple [.agg (dz (x_10.1)), .val (.int .i64 (x_10.2))])) ?_
   refine xs 56 rfl (bM rfl rfl rfl ?_)
   refine xs 57 rfl (bM rfl rfl rfl ?_)
   refine xs 10 rfl (bB (l:=[.d (af (aa.nil))]) rfl TT.nk rfl rfl ?_)
   refine XK.st none rfl rfl (bh (l':=[.d (af ((x_10.1).fp))]) rfl TT.fo rfl rfl rfl rfl rfl rfl (by simp) rfl ?_)
   refine xz 11 (pI (x_10.2)) ?_
   refine QW.seq ?_
   refine QW.view (s':=⟨aG [(0, .d (.slice (fO.map bp))),(1, .d (.slice (iy.map U))),(5, .aF 0 0),(6, .aF 1 0),(7, .d (.slice (lF.map bp))),(8,pI v8),(9, .aF 2 0),(10, .aF 3 0),(11,pI (x_10.2))],aj [.var [.d (af nY)], .var [.d (af nZ)], .var ((((idx fO (((idx iy v8).toNat:Int).tmod (fO.length:Int))).ct).1.map U).map .d), .var [.d (af ((x_10.1).fp))]],4,[]⟩) (View.mk 4 [0,1,2,3] _ _ _ rfl rfl (by decide) (iC (iC (iC (iC (iC (iC (iC (iC (iC trivial))))))))) (And.intro rfl (And.intro rfl (And.intro (by simp only [cv,bq,PV.bK];rfl) (And.intro rfl trivial)))) rfl zL rfl) zL ?_
   refine rG ?_
   refine xm 58 (pI (x_10.2)) ?_
   refine xs 59 rfl (eF (a:=(x_10.2)) (b:=(0:Int)) rfl rfl rfl ?_)
   refine XK.nz ?_
   refine QW.cond (t:=(decide ((x_10.2)=(0:Int)))) rfl zL (fun Cl=>?_) (fun Cl=>?_)
   ·replace h:=bT h Cl
    refine rG ?_
    refine XK.as (some 60) rfl rfl (bD (v:= .agg [.d (af ((x_10.1).fp))]) rfl TT.fo rfl rfl ⟨⟨by simp,by simp⟩,rfl⟩ ⟨.d (.agg (dz (x_10.1))),(iH.dj rfl),?_⟩)
    refine XK.st none rfl rfl (bh (l':=[.d (af ((x_10.1).fp))]) rfl TT.fo rfl rfl rfl rfl rfl rfl (by simp) rfl ?_)
    refine XK.nz ?_
    obtain rfl:=sO h
    exact ⟨⟨aG [(0, .d (.slice (fO.map bp))),(1, .d (.slice (iy.map U))),(5, .aF 0 0),(6, .aF 1 0),(7, .d (.slice (lF.map bp))),(8,pI v8),(9, .aF 2 0)],aj [.var [.d (af ((x_10.1).fp))], .var [.d (af nZ)], .var ((((idx fO (((idx iy v8).toNat:Int).tmod (fO.length:Int))).ct).1.map U).map .d)],3,[]⟩,View.mk 3 [0,1,2] _ _ _ rfl rfl (by decide) (iC (iC (iC (iC (iC (iC (iC trivial))))))) (And.intro rfl (And.intro rfl (And.intro (by simp only [cv,bq,PV.bK];rfl) trivial))) rfl zL rfl,rfl⟩
   ·replace h:=bF h Cl
    refine QW.skip zL (aX ?_)
    obtain rfl:=sO h
    exact ⟨⟨aG [(0, .d (.slice (fO.map bp))),(1, .d (.slice (iy.map U))),(5, .aF 0 0),(6, .aF 1 0),(7, .d (.slice (lF.map bp))),(8,pI v8),(9, .aF 2 0)],aj [.var [.d (af nY)], .var [.d (af nZ)], .var ((((idx fO (((idx iy v8).toNat:Int).tmod (fO.length:Int))).ct).1.map U).map .d)],3,[]⟩,View.mk 3 [0,1,2] _ _ _ rfl rfl (by decide) (iC (iC (iC (iC (iC (iC (iC trivial))))))) (And.intro rfl (And.intro rfl (And.intro (by simp only [cv,bq,PV.bK];rfl) trivial))) rfl zL rfl,rfl⟩
  ·rintro _ rfl
   refine rG ?_
   refine xm 61 (.d (.slice (lF.map bp))) ?_
   refine XK.as (some 62) rfl rfl (bD (v:= .agg ((((idx fO (((idx iy v8).toNat:Int).tmod (fO.length:Int))).ct).1.map U).map .d)) rfl TT.jE rfl rfl (ju (by decide)) ⟨.d (.agg (((idx fO (((idx iy v8).toNat:Int).tmod (fO.length:Int))).ct).1.map U)),gV,?_⟩)
   obtain ⟨x_13,Ci,h⟩:=bG h
   refine xs 63 rfl (aA rfl rfl TT.Ow rfl (Cz lF ((idx fO (((idx iy v8).toNat:Int).tmod (fO.length:Int))).ct) _ Ci) ?_)
   refine xa 7 (.d (.slice (x_13.map bp))) ?_
   refine XK.nil (g6 (aX ?_))
   refine rG ?_
   refine xm 38 (pI v8) ?_
   obtain ⟨tR,h⟩:=gG h
   refine xs 39 rfl (bX (a:=v8) (b:=(1:Int)) rfl rfl rfl tR ?_)
   refine xz 8 (pI (v8+(1:Int))) ?_
   exact ⟨Br,by omega,⟨aG [(0, .d (.slice (fO.map bp))),(1, .d (.slice (iy.map U))),(5, .aF 0 0),(6, .aF 1 0),(7, .d (.slice (x_13.map bp))),(8,pI (v8+(1:Int)))],aj [.var [.d (af Dx)], .var [.d (af nZ)]],2,[]⟩,View.mk 2 [0,1] _ _ _ rfl rfl (by decide) (iC (iC (iC (iC (iC (iC trivial)))))) (And.intro rfl (And.intro rfl trivial)) rfl zL rfl,fO,x_13,(v8+(1:Int)),Dx,nZ,by omega,jG h,rfl⟩
 ·replace h:=fG h kF
  refine QW.exit zL (eD (eD (j3 (aX ?_))))
  refine sR ?_
  refine xm 64 (.d (.slice (lF.map bp))) ?_
  obtain ⟨x_16,GW,h⟩:=bG h
  refine xs 65 rfl (aA rfl rfl TT.OD rfl (Hy lF _ GW) ?_)
  refine xz 12 (.d (.slice (x_16.map ee))) ?_
  refine QW.seq ?_
  refine sR ?_
  refine xm 66 (.d (.slice (x_16.map ee))) ?_
  refine xs 67 rfl (cM (en:=ee) (l:=x_16) rfl TT.pL rfl ?_)
  obtain ⟨rA,h⟩:=gG h
  refine xs 68 rfl (mE (a:=(x_16.length:Int)) (b:=(1:Int)) rfl rfl rfl rA ?_)
  refine xz 13 (pI ((x_16.length:Int)-(1:Int))) ?_
  refine QW.block ?_
  refine QW.loop (fun k σ=>∃ wq:(List In),∃ uz:Int,∃ k7:aa,∃ qt:aa,k≤Br∧run (bQ l0 iy) k (.L3 wq uz k7 qt)=some r∧σ=⟨aG [(5, .aF 0 0),(6, .aF 1 0),(12, .d (.slice (wq.map ee))),(13,pI uz)],aj [.var [.d (af k7)], .var [.d (af qt)]],2,[]⟩) Br zL ⟨⟨aG [(5, .aF 0 0),(6, .aF 1 0),(12, .d (.slice (x_16.map ee))),(13,pI ((x_16.length:Int)-(1:Int)))],aj [.var [.d (af nY)], .var [.d (af nZ)]],2,[]⟩,View.mk 2 [0,1] _ _ _ rfl rfl (by decide) (iC (iC (iC (iC trivial)))) (And.intro rfl (And.intro rfl trivial)) rfl zL rfl,x_16,((x_16.length:Int)-(1:Int)),nY,nZ,Nat.le_refl _,jG h,rfl⟩ ?_
  rintro Xm _ ⟨wq,uz,k7,qt,Xn,h,rfl⟩
  obtain ⟨SV,rfl,h9⟩:=aQ h;replace h:=h9;clear h9;rw [bQ] at h
  refine QW.seq ?_
  refine sR ?_
  refine xm 69 (pI uz) ?_
  refine xs 70 rfl (uU (a:=uz) (b:=(0:Int)) rfl rfl rfl ?_)
  refine XK.nz ?_
  refine QW.cond (t:=(decide ((0:Int)≤uz))) rfl zL (fun OG=>?_) (fun OG=>?_)
  ·replace h:=fF h OG
   refine QW.skip zL (aX ?_)
   refine QW.seq ?_
   refine QW.block ?_
   refine sR ?_
   refine xs 14 rfl (bB (l:=(((aE.rep 32 (0:UInt8)).1.map U).map .d)) rfl TT.A7 rfl rfl ?_)
   refine XK.nz ?_
   refine QW.seq ?_
   refine sR ?_
   refine xz 15 (pI (0)) ?_
   refine QW.block ?_
   refine QW.loop (fun k σ=>∃ eu:(List In),∃ dg:Int,∃ eE:Int,∃ oa:aa,∃ nA:aa,∃ si:(aE 32 UInt8),k≤SV∧run (bQ l0 iy) k (.L4 eu dg eE oa nA si)=some r∧σ=⟨aG [(5, .aF 0 0),(6, .aF 1 0),(12, .d (.slice (eu.map ee))),(13,pI dg),(14, .aF 2 0),(15,pI eE)],aj [.var [.d (af oa)], .var [.d (af nA)], .var ((si.1.map U).map .d)],3,[]⟩) SV zL ⟨⟨aG [(5, .aF 0 0),(6, .aF 1 0),(12, .d (.slice (wq.map ee))),(13,pI uz),(14, .aF 2 0),(15,pI (0))],aj [.var [.d (af k7)], .var [.d (af qt)], .var (((aE.rep 32 (0:UInt8)).1.map U).map .d)],3,[]⟩,View.mk 3 [0,1,2] _ _ _ rfl rfl (by decide) (iC (iC (iC (iC (iC (iC trivial)))))) (And.intro rfl (And.intro rfl (And.intro (by simp only [cv,bq,PV.bK];rfl) trivial))) rfl zL rfl,wq,uz,0,k7,qt,(aE.rep 32 (0:UInt8)),Nat.le_refl _,jG h,rfl⟩ ?_
   rintro aaP _ ⟨eu,dg,eE,oa,nA,si,aaQ,h,rfl⟩
   obtain ⟨Wu,rfl,h9⟩:=aQ h;replace h:=h9;clear h9;rw [bQ] at h
   refine QW.seq ?_
   refine sR ?_
   refine xm 73 (pI eE) ?_
   refine xs 74 rfl (cJ (a:=eE) (b:=(32:Int)) rfl rfl rfl ?_)
   refine XK.nz ?_
   refine QW.cond (t:=(decide (eE<(32:Int)))) rfl zL (fun Ck=>?_) (fun Ck=>?_)
   ·replace h:=fF h Ck
    refine QW.skip zL (aX ?_)
    refine QW.seq ?_
    refine QW.block ?_
    refine QW.region zL (PW.rL (id:=20) dc (M:=_) rfl (by kernel_rfl) ?_)
    refine RK.st (some 77) rfl rfl (au (v:=pI eE) rfl rfl ?_)
    refine RK.st (some 78) rfl rfl (au (v:= .d (.slice (eu.map ee))) rfl rfl ?_)
    refine RK.st (some 79) rfl rfl (au (v:=pI dg) rfl rfl ?_)
    obtain ⟨Dh,h⟩:=gG h
    refine RK.st (some 80) rfl rfl (bC (l:=eu) (i:=dg) rfl TT.ny lu rfl rfl Dh ?_)
    refine RK.st (some 81) rfl rfl (aO rfl TT.nX (by decide) rfl ?_)
    refine RK.st (some 82) rfl rfl (aC (d:= .slice (((idx eu dg).av).map U)) rfl TT.fh rfl (c8.one) ?_)
    refine RK.st (some 83) rfl rfl (au (v:=pI eE) rfl rfl ?_)
    obtain ⟨w5,h⟩:=gG h
    refine RK.st (some 84) rfl rfl (wT (a:=(2:Int)) (b:=eE) rfl rfl rfl w5 ?_)
    obtain ⟨Di,h⟩:=gG h
    refine RK.st (some 85) rfl rfl (bC (l:=(idx eu dg).av) (i:=((2:Int)*eE)) rfl TT.ek bx rfl rfl Di ?_)
    refine RK.st (some 86) rfl rfl (aC (d:= .val (.int .u8 ((idx ((idx eu dg).av) ((2:Int)*eE)).toNat:Int))) rfl TT.jx rfl (c8.one) ?_)
    refine RK.st (some 87) rfl rfl (IY (p:=(16:UInt8)) (q:=(idx ((idx eu dg).av) ((2:Int)*eE))) rfl rfl rfl ?_)
    refine RK.st (some 88) rfl rfl (au (v:= .d (.slice (eu.map ee))) rfl rfl ?_)
    refine RK.st (some 89) rfl rfl (au (v:=pI dg) rfl rfl ?_)
    obtain ⟨ye,h⟩:=gG h
    refine RK.st (some 90) rfl rfl (bC (l:=eu) (i:=dg) rfl TT.ny lu rfl rfl ye ?_)
    refine RK.st (some 91) rfl rfl (aO rfl TT.nX (by decide) rfl ?_)
    refine RK.st (some 92) rfl rfl (aC (d:= .slice (((idx eu dg).av).map U)) rfl TT.fh rfl (c8.one) ?_)
    refine RK.st (some 93) rfl rfl (au (v:=pI eE) rfl rfl ?_)
    obtain ⟨Mf,h⟩:=gG h
    refine RK.st (some 94) rfl rfl (wT (a:=(2:Int)) (b:=eE) rfl rfl rfl Mf ?_)
    obtain ⟨Mg,h⟩:=gG h
    refine RK.st (some 95) rfl rfl (bX (a:=((2:Int)*eE)) (b:=(1:Int)) rfl rfl rfl Mg ?_)
    obtain ⟨rz,h⟩:=gG h
    refine RK.st (some 96) rfl rfl (bC (l:=(idx eu dg).av) (i:=(((2:Int)*eE)+(1:Int))) rfl TT.ek bx rfl rfl rz ?_)
    refine RK.st (some 97) rfl rfl (aC (d:= .val (.int .u8 ((idx ((idx eu dg).av) (((2:Int)*eE)+(1:Int))).toNat:Int))) rfl TT.jx rfl (c8.one) ?_)
    refine RK.st (some 98) rfl rfl (D5 (p:=((16:UInt8)*(idx ((idx eu dg).av) ((2:Int)*eE)))) (q:=(idx ((idx eu dg).av) (((2:Int)*eE)+(1:Int)))) rfl rfl rfl ?_)
    obtain ⟨zE,h⟩:=gG h
    refine RK.st (some 99) rfl rfl (cV (i:=eE) rfl TT.Hg TT.Dd rfl rfl zE ?_)
    refine RK.st none rfl rfl (bh (l':=(((si.put eE (((16:UInt8)*(idx ((idx eu dg).av) ((2:Int)*eE)))+(idx ((idx eu dg).av) (((2:Int)*eE)+(1:Int))))).1.map U).map .d)) rfl TT.jx rfl rfl rfl rfl rfl rfl (rM zE) (p9 zE) ?_)
    refine RK.nil ⟨fT.last 23 (by simp) (by simp) (by rfl),(g6 (aX ?_))⟩
    refine QW.view (s':=⟨aG [(5, .aF 0 0),(6, .aF 1 0),(12, .d (.slice (eu.map ee))),(13,pI dg),(14, .aF 2 0),(15,pI eE)],aj [.var [.d (af oa)], .var [.d (af nA)], .var (((si.put eE (((16:UInt8)*(idx ((idx eu dg).av) ((2:Int)*eE)))+(idx ((idx eu dg).av) (((2:Int)*eE)+(1:Int))))).1.map U).map .d)],3,[]⟩) (View.mk 3 [0,1,2] _ _ _ rfl rfl (by decide) (iC (iC (iC (iC (iC (iC trivial)))))) (And.intro rfl (And.intro rfl (And.intro (by simp only [cv,bq,PV.bK];rfl) trivial))) rfl zL rfl) zL ?_
    refine rG ?_
    refine xm 75 (pI eE) ?_
    obtain ⟨GL,h⟩:=gG h
    refine xs 76 rfl (bX (a:=eE) (b:=(1:Int)) rfl rfl rfl GL ?_)
    refine xz 15 (pI (eE+(1:Int))) ?_
    exact ⟨Wu,by omega,⟨aG [(5, .aF 0 0),(6, .aF 1 0),(12, .d (.slice (eu.map ee))),(13,pI dg),(14, .aF 2 0),(15,pI (eE+(1:Int)))],aj [.var [.d (af oa)], .var [.d (af nA)], .var (((si.put eE (((16:UInt8)*(idx ((idx eu dg).av) ((2:Int)*eE)))+(idx ((idx eu dg).av) (((2:Int)*eE)+(1:Int))))).1.map U).map .d)],3,[]⟩,View.mk 3 [0,1,2] _ _ _ rfl rfl (by decide) (iC (iC (iC (iC (iC (iC trivial)))))) (And.intro rfl (And.intro rfl (And.intro (by simp only [cv,bq,PV.bK];rfl) trivial))) rfl zL rfl,eu,dg,(eE+(1:Int)),oa,nA,(si.put eE (((16:UInt8)*(idx ((idx eu dg).av) ((2:Int)*eE)))+(idx ((idx eu dg).av) (((2:Int)*eE)+(1:Int))))),by omega,jG h,rfl⟩
   ·replace h:=fG h Ck
    refine QW.exit zL (eD (eD (j3 (aX ?_))))
    refine QW.seq ?_
    refine QW.region zL (PW.rL (id:=21) dc (M:=_) rfl (by kernel_rfl) ?_)
    refine RK.as (some 101) rfl rfl (bD (v:= .agg [.d (af nA)]) rfl TT.fo rfl rfl ⟨⟨by simp,by simp⟩,rfl⟩ ⟨.d (.agg (dz (⟨nA⟩:Tree))),(iH.dj rfl),?_⟩)
    refine RK.as (some 102) rfl rfl (bD (v:= .agg ((si.1.map U).map .d)) rfl TT.jE rfl rfl (ju (by decide)) ⟨.d (.agg (si.1.map U)),gV,?_⟩)
    refine RK.st (some 103) rfl rfl (au (v:= .d (.slice (eu.map ee))) rfl rfl ?_)
    refine RK.st (some 104) rfl rfl (au (v:=pI dg) rfl rfl ?_)
    obtain ⟨Sx,h⟩:=gG h
    refine RK.st (some 105) rfl rfl (bC (l:=eu) (i:=dg) rfl TT.ny lu rfl rfl Sx ?_)
    refine RK.st (some 106) rfl rfl (aO rfl TT.Cy (by decide) rfl ?_)
    refine RK.st (some 107) rfl rfl (aC (d:= .val (sV ((idx eu dg).az))) rfl TT.fJ rfl (c8.one) ?_)
    obtain ⟨wu,XJ,h⟩:=bG h
    refine RK.st (some 108) rfl rfl (aA rfl rfl TT.G5 rfl (vX (⟨nA⟩:Tree) si ((idx eu dg).az) _ XJ) ?_)
    refine RK.st (some 100) rfl rfl (au (v:= .d (.tuple [.agg (dz (wu.1)), .val (.int .i64 (wu.2))])) rfl rfl ?_)
    refine RK.st (some 109) rfl rfl (bM rfl rfl rfl ?_)
    refine RK.st (some 110) rfl rfl (bM rfl rfl rfl ?_)
    refine RK.st (some 16) rfl rfl (bB (l:=[.d (af (aa.nil))]) rfl TT.nk rfl rfl ?_)
    refine RK.st none rfl rfl (bh (l':=[.d (af ((wu.1).fp))]) rfl TT.fo rfl rfl rfl rfl rfl rfl (by simp) rfl ?_)
    refine RK.st (some 17) rfl rfl (cq (v:=pI (wu.2)) rfl rfl ?_)
    refine RK.nil ⟨fT.comp (by rfl),(aX ?_)⟩
    refine QW.seq ?_
    refine sR ?_
    refine xm 111 (pI (wu.2)) ?_
    refine xs 112 rfl (qA (a:=(wu.2)) (b:=(0:Int)) rfl rfl rfl ?_)
    refine XK.nz ?_
    refine QW.cond (t:=(!decide ((wu.2)=(0:Int)))) rfl zL (fun OH=>?_) (fun OH=>?_)
    ·replace h:=fF h OH
     refine sR ?_
     refine xz 4 (pB false) ?_
     refine QW.ret zL (gm (sZ (gm (gm (sZ (gm ?_))))))
     obtain rfl:=sG h
     exact Ends.one (.inr rfl) rfl (aI.tmp rfl) rfl rfl
    ·replace h:=fG h OH
     refine QW.skip zL (aX ?_)
     refine rG ?_
     refine XK.as (some 113) rfl rfl (bD (v:= .agg [.d (af ((wu.1).fp))]) rfl TT.fo rfl rfl ⟨⟨by simp,by simp⟩,rfl⟩ ⟨.d (.agg (dz (wu.1))),(iH.dj rfl),?_⟩)
     refine XK.st none rfl rfl (bh (l':=[.d (af ((wu.1).fp))]) rfl TT.fo rfl rfl rfl rfl rfl rfl (by simp) rfl ?_)
     refine XK.nil (g6 (aX ?_))
     refine rG ?_
     refine xm 71 (pI dg) ?_
     obtain ⟨S4,h⟩:=gG h
     refine xs 72 rfl (mE (a:=dg) (b:=(1:Int)) rfl rfl rfl S4 ?_)
     refine xz 13 (pI (dg-(1:Int))) ?_
     exact ⟨Wu,by omega,⟨aG [(5, .aF 0 0),(6, .aF 1 0),(12, .d (.slice (eu.map ee))),(13,pI (dg-(1:Int)))],aj [.var [.d (af oa)], .var [.d (af ((wu.1).fp))]],2,[]⟩,View.mk 2 [0,1] _ _ _ rfl rfl (by decide) (iC (iC (iC (iC trivial)))) (And.intro rfl (And.intro rfl trivial)) rfl zL rfl,eu,(dg-(1:Int)),oa,(wu.1).fp,by omega,jG h,rfl⟩
  ·replace h:=fG h OG
   refine QW.exit zL (eD (eD (j3 (aX ?_))))
   refine sR ?_
   refine xm 114 (.d (.slice (wq.map ee))) ?_
   obtain ⟨nL,XL,h⟩:=bG h
   refine xs 115 rfl (aA rfl rfl TT.Cw rfl (Hz wq _ XL) ?_)
   refine xz 18 (pS nL) ?_
   refine sR ?_
   obtain ⟨n8,NR,h⟩:=bG h
   refine xs 116 rfl (aA rfl rfl TT.Qq rfl (Em _ NR) ?_)
   refine xm 117 (pB n8) ?_
   refine XK.gd (v:= .d (.agg (dz (⟨k7⟩:Tree)))) (T:=[0]) (some 118) rfl rfl (by repeat (first | exact trivial | refine ⟨fun q=>by first | rfl | exact q | exact jC q | exact jY q,?_⟩)) (fun hg=>bD (v:= .agg [.d (af k7)]) rfl TT.fo rfl rfl ⟨⟨by simp,by simp⟩,rfl⟩ ⟨⟨rfl,rfl,rfl⟩,rfl,(iH.dj rfl)⟩) (fun _ i hi=>by simp only [List.mem_singleton] at hi;subst hi;decide) ?_
   obtain ⟨AB,XM,h⟩:=bG h
   refine xg 119 (pS AB) rfl rfl (fun hg=>aA rfl rfl TT.s7 rfl (lV (⟨k7⟩:Tree) _ (bT XM hg)) g3) ?_
   refine xg 120 (pS nL) rfl rfl (fun hg=>au (v:=pS nL) rfl rfl g3) ?_
   refine xg 121 (pB (AB==nL)) rfl rfl (fun hg=>nR (a:=AB) (b:=nL) rfl rfl rfl g3) ?_
   refine xs 122 rfl (fu rfl rfl rfl rfl (fun hb=>by rw [hb];rfl) (fun _=>rfl) ?_)
   refine xm 123 (pB (n8&&(AB==nL))) ?_
   refine XK.gd (v:= .d (.agg (dz (⟨qt⟩:Tree)))) (T:=[1]) (some 124) rfl rfl (by repeat (first | exact trivial | refine ⟨fun q=>by first | rfl | exact q | exact jC q | exact jY q,?_⟩)) (fun hg=>bD (v:= .agg [.d (af qt)]) rfl TT.fo rfl rfl ⟨⟨by simp,by simp⟩,rfl⟩ ⟨⟨rfl,rfl,rfl⟩,rfl,(iH.dj rfl)⟩) (fun _ i hi=>by simp only [List.mem_singleton] at hi;subst hi;decide) ?_
   obtain ⟨Dy,XN,h⟩:=bG h
   refine xg 125 (pS Dy) rfl rfl (fun hg=>aA rfl rfl TT.s7 rfl (lV (⟨qt⟩:Tree) _ (bT XN hg)) g3) ?_
   refine xg 126 (pS nL) rfl rfl (fun hg=>au (v:=pS nL) rfl rfl g3) ?_
   refine xg 127 (pB (Dy==nL)) rfl rfl (fun hg=>nR (a:=Dy) (b:=nL) rfl rfl rfl g3) ?_
   refine xs 128 rfl (fu rfl rfl rfl rfl (fun hb=>by rw [hb];rfl) (fun _=>rfl) ?_)
   refine xm 129 (pB ((n8&&(AB==nL))&&(Dy==nL))) ?_
   refine XK.gd (v:= .d (.agg (dz (⟨k7⟩:Tree)))) (T:=[0]) (some 130) rfl rfl (by repeat (first | exact trivial | refine ⟨fun q=>by first | rfl | exact q | exact jC q | exact jY q,?_⟩)) (fun hg=>bD (v:= .agg [.d (af k7)]) rfl TT.fo rfl rfl ⟨⟨by simp,by simp⟩,rfl⟩ ⟨⟨rfl,rfl,rfl⟩,rfl,(iH.dj rfl)⟩) (fun _ i hi=>by simp only [List.mem_singleton] at hi;subst hi;decide) ?_
   obtain ⟨Jt,Kq,h⟩:=bG h
   refine xg 131 (pS Jt) rfl rfl (fun hg=>aA rfl rfl TT.G6 rfl (qO (⟨k7⟩:Tree) _ (bT Kq hg)) g3) ?_
   refine xg 132 (pS nL) rfl rfl (fun hg=>au (v:=pS nL) rfl rfl g3) ?_
   obtain ⟨Ju,XO,h⟩:=bG h
   refine xg 133 (pS Ju) rfl rfl (fun hg=>aA rfl rfl TT.Cx rfl (xO nL _ (bT XO hg)) g3) ?_
   refine xg 134 (pB (Jt==Ju)) rfl rfl (fun hg=>nR (a:=Jt) (b:=Ju) rfl rfl rfl g3) ?_
   refine xs 135 rfl (fu rfl rfl rfl rfl (fun hb=>by rw [hb];rfl) (fun _=>rfl) ?_)
   refine xz 4 (pB (((n8&&(AB==nL))&&(Dy==nL))&&(Jt==Ju))) ?_
   refine QW.ret zL ?_
   obtain rfl:=sG h
   exact Ends.one (.inr rfl) rfl (aI.tmp rfl) rfl rfl
end Go.Proofs.YtlfjfoknbjcncaaGreat.K
namespace Go.Proofs.YtlfjfoknbjcncaaGreat.K
open Go
set_option linter.unusedVariables false
set_option linter.unusedSimpArgs false
section
variable {C R:Type} {step:C→Option (C⊕R)}
theorem Comes.upto (P:Nat→C) (n:Nat) {r:R} (hs:∀ i,i<n→step (P i)=some (.inl (P (i+1)))) (he:Comes step (P n) r):Comes step (P 0) r:=by
 have:∀ k,k≤n→Comes step (P (n-k)) r:=by
  intro k
  induction k with
  | zero=>intro _;exact he
  | succ k ih=>
   intro hk
   have h1:=ih (by omega)
   have h2:=hs (n-(k+1)) (by omega)
   rw [show n-(k+1)+1=n-k by omega] at h2
   exact .next h2 h1
 have:=this n (Nat.le_refl _)
 rwa [Nat.sub_self] at this
theorem Comes.S6 (P:Nat→C) (n:Nat) {r:R} (hs:∀ i,i<n→Comes step (P (i+1)) r→Comes step (P i) r) (he:Comes step (P n) r):Comes step (P 0) r:=by
 have:∀ k,k≤n→Comes step (P (n-k)) r:=by
  intro k
  induction k with
  | zero=>intro _;exact he
  | succ k ih=>
   intro hk
   have h1:=ih (by omega)
   rw [show n-k=n-(k+1)+1 by omega] at h1
   exact hs _ (by omega) h1
 have:=this n (Nat.le_refl _)
 rwa [Nat.sub_self] at this
theorem Comes.first (P:Nat→C) (q:Nat→Bool) (n:Nat) (f:Nat→R) (r:R) (hs:∀ i,i<n→q i=false→step (P i)=some (.inl (P (i+1)))) (hq:∀ i,i<n→q i=true→step (P i)=some (.inr (f i))) (he:Comes step (P n) r):
  Comes step (P 0) (match (List.range n).find? q with | some i=>f i | none=>r):=by
 have:∀ k,k≤n→Comes step (P (n-k)) (match (List.range' (n-k) k).find? q with | some i=>f i | none=>r):=by
  intro k
  induction k with
  | zero=>intro _;exact he
  | succ k ih=>
   intro hk
   have h1:=ih (by omega)
   rw [List.range'_succ,List.find?_cons]
   cases hc:q (n-(k+1)) with
   | true=>exact .stop (hq _ (by omega) hc)
   | false=>
    have h2:=hs (n-(k+1)) (by omega) hc
    rw [show n-(k+1)+1=n-k by omega] at h2 ⊢
    exact .next h2 h1
 have:=this n (Nat.le_refl _)
 rwa [Nat.sub_self, ← List.range_eq_range'] at this
theorem Comes.ex (P:Nat→C) (q:Nat→Bool) (n:Nat) (f:Nat→R) (r:R) (hs:∀ i,i<n→q i=false→step (P i)=some (.inl (P (i+1)))) (hq:∀ i,i<n→q i=true→step (P i)=some (.inr (f i))) (he:Comes step (P n) r):
  ∃ x,Comes step (P 0) x∧((∃ i,i<n∧q i=true∧(∀ j,j<i→q j=false)∧x=f i)∨((∀ i,i<n→q i=false)∧x=r)):=by
 have:=Comes.first P q n f r hs hq he
 cases h:(List.range n).find? q with
 | some i=>
  rw [h] at this
  refine ⟨_,this, .inl ⟨i,by simpa using List.mem_of_find?_eq_some h,List.find?_some h,fun j hj=>?_,rfl⟩⟩
  rw [List.find?_range_eq_some] at h
  have:=h.2.2 j hj
  simpa using this
 | none=>
  rw [h] at this
  refine ⟨_,this, .inr ⟨fun i hi=>?_,rfl⟩⟩
  rw [List.find?_eq_none] at h
  simpa using h i (by simpa using hi)
theorem Comes.all (P:Nat→C) (q:Nat→Bool) (n:Nat) (r0 r:R) (hs:∀ i,i<n→q i=true→step (P i)=some (.inl (P (i+1)))) (hq:∀ i,i<n→q i=false→step (P i)=some (.inr r0)) (he:Comes step (P n) r):
  Comes step (P 0) (bif (List.range n).all q then r else r0):=by
 obtain ⟨x,hx,h | h⟩:=Comes.ex P (fun i=> !q i) n (fun _=>r0) r (fun i hi h=>hs i hi (by simpa using h)) (fun i hi h=>hq i hi (by simpa using h)) he
 ·obtain ⟨i,hi,h1,_,rfl⟩:=h
  have:(List.range n).all q=false:=by rw [List.all_eq_false];exact ⟨i,by simpa using hi,by simpa using h1⟩
  rw [this];exact hx
 ·obtain ⟨h1,rfl⟩:=h
  have:(List.range n).all q=true:=by rw [List.all_eq_true];intro i hi;simpa using h1 i (by simpa using hi)
  rw [this];exact hx
end
section
variable {α:Type} [Inhabited α]
theorem gl (l:List α) (i:Nat):idx l (i:Int)=l.getD i default:=by simp [idx]
theorem lW (l:List α) {i:Nat} (h:i<l.length):idx l (i:Int)=l[i]:=by
 rw [gl,List.getD_eq_getElem?_getD,List.getElem?_eq_getElem h];rfl
theorem mm (l:List α) {i:Nat} (h:i<l.length):l.take (i+1)=l.take i++[idx l (i:Int)]:=by
 rw [lW l h,List.take_add_one,List.getElem?_eq_getElem h];rfl
theorem lI (l:List α) {i:Nat} (h:i<l.length):l.drop i=idx l (i:Int)::l.drop (i+1):=by
 rw [lW l h];exact List.drop_eq_getElem_cons h
theorem e9 (l:List α) {i:Nat} (h:i<l.length):idx l (i:Int)∈l:=by
 rw [lW l h];exact List.getElem_mem h
end
theorem Dz {α:Type} (l:List α) (k:Nat):sub l 0 (k:Int)=l.take k:=by simp [sub]
theorem nB {α:Type} (l:List α) (k:Nat):sub l (k:Int) (l.length:Int)=l.drop k:=by
 unfold sub
 rw [Int.toNat_natCast]
 exact List.take_of_length_le (by rw [List.length_drop];omega)
theorem S7 {α:Type} (l:List α) (j k:Nat):sub l (j:Int) (k:Int)=(l.drop j).take (k-j):=by
 unfold sub
 rw [Int.toNat_natCast,show ((k:Int)-(j:Int)).toNat=k-j by omega]
def CC (n:Nat):Nat→List UInt8
 | 0=>[]
 | w+1=>UInt8.ofNat (n%256)::CC (n/256) w
@[simp] theorem Mk (n:Nat):∀ w,(CC n w).length=w
 | 0=>rfl
 | w+1=>by simp [CC,Mk (n/256) w]
theorem Eo (n:Nat):∀ w,CC n (w+1)=CC n w++[UInt8.ofNat (n/256 ^ w%256)]
 | 0=>by simp [CC]
 | w+1=>by
  rw [CC,Eo (n/256) w,CC,List.cons_append,Nat.div_div_eq_div_mul,Nat.pow_succ,Nat.mul_comm 256]
theorem wv (n:Nat):gf (n:Int)=UInt8.ofNat n:=by
 unfold gf
 apply UInt8.toNat_inj.1
 rw [show ((n:Int)%256).toNat=n%256 by omega,UInt8.toNat_ofNat',UInt8.toNat_ofNat']
 omega
theorem tD (n:Nat):UInt8.ofNat (n%256)=UInt8.ofNat n:=by
 apply UInt8.toNat_inj.1
 rw [UInt8.toNat_ofNat',UInt8.toNat_ofNat']
 omega
end Go.Proofs.YtlfjfoknbjcncaaGreat.K
namespace Go.Proofs.YtlfjfoknbjcncaaGreat.K
open Go Go.RowKit
set_option linter.unusedSimpArgs false
set_option linter.unusedVariables false
theorem A8 {α:Type} [Inhabited α] {l:List α} {i:Nat} (h:i<l.length):idx l (i:Int)=l[i]:=by
 simp [idx,List.getD_eq_getElem?_getD,List.getElem?_eq_getElem h]
def gJ (n:Nat):List UInt8:=if h:n=0 then [] else gJ (n/256)++[UInt8.ofNat (n%256)]
termination_by n
decreasing_by omega
theorem tg:gJ 0=[]:=by rw [gJ];rfl
theorem vg {n:Nat} (h:n≠0):gJ n=gJ (n/256)++[UInt8.ofNat (n%256)]:=by rw [gJ,dif_neg h]
theorem th:∀ (k n:Nat),n<256 ^ k→(gJ n).length≤k
 | 0,n,h=>by
  have:n=0:=by simpa using h
  subst this;rw [tg];exact Nat.le_refl _
 | k+1,n,h=>by
  by_cases hn:n=0
  ·subst hn;rw [tg];exact Nat.zero_le _
  ·have:n/256<256 ^ k:=by rw [Nat.pow_succ] at h;omega
   have:=th k _ this
   rw [vg hn,List.length_append,List.length_singleton];omega
theorem yw (n:Nat):gf (n:Int)=UInt8.ofNat (n%256):=by
 unfold gf
 congr 1
theorem XP (n:Nat):Gm (n:Int) 8=((n/256:Nat):Int):=by
 unfold Gm
 have:min (8:Int).toNat 64=8:=by decide
 rw [this,Int.fdiv_eq_ediv_of_nonneg _ (by decide)]
 norm_cast
def uA (l:Bool):Nat:=if l then 192 else 128
def hd (l:Bool) (k:Nat):List UInt8:=if k<56 then [UInt8.ofNat ((uA l+k)%256)] else UInt8.ofNat ((uA l+55+(gJ k).length)%256)::gJ k
theorem S8 (n0:Int) (l:Bool) (c:Nat) (hc:c≤200):∀ (k n:Nat) (b:List UInt8),n<256 ^ k→b.length+k≤1000→
  Comes (jd n0 l) (.L2 (n:Int) (c:Int) b) (UInt8.ofNat ((c+55+(gJ n++b).length)%256)::(gJ n++b)):=by
 have stop:∀ b:List UInt8,b.length≤1000→Comes (jd n0 l) (.L2 ((0:Nat):Int) (c:Int) b) (UInt8.ofNat ((c+55+(gJ 0++b).length)%256)::(gJ 0++b)):=by
  intro b hb
  refine Comes.stop ?_
  simp only [jd]
  have e:(c:Int)+55+(b.length:Int)=((c+55+b.length:Nat):Int):=by omega
  rw [decide_eq_false (by omega),cond_false,ah (by unfold bw;omega),ah (by unfold bw;omega),ah (by simp;omega),e,yw,tg]
  rfl
 intro k
 induction k with
 | zero=>
  intro n b hn hb
  have:n=0:=by simpa using hn
  subst this
  exact stop b (by omega)
 | succ k ih=>
  intro n b hn hb
  by_cases h0:n=0
  ·subst h0;exact stop b (by omega)
  ·have hk:n/256<256 ^ k:=by rw [Nat.pow_succ] at hn;omega
   have:=ih (n/256) ([gf (n:Int)]++b) hk (by simp;omega)
   rw [vg h0,List.append_assoc, ← yw]
   refine Comes.next ?_ this
   simp only [jd]
   rw [decide_eq_true (by omega),cond_true,ah (by simp;omega),XP]
theorem S9 (n:Int) (l:Bool):tS n l=some (hd l (eY (gQ n 0) 4294967296).toNat):=by
 refine cS ?_
 obtain ⟨k,hk⟩:∃ k:Nat,eY (gQ n 0) 4294967296=(k:Int):=⟨(eY (gQ n 0) 4294967296).toNat,by unfold eY gQ;repeat' split<;>omega⟩
 have hle:k≤4294967296:=by
  have:eY (gQ n 0) 4294967296≤4294967296:=by unfold eY;split<;>omega
  omega
 have hv:(bif l then some (192:Int) else some 128)=some ((uA l:Nat):Int):=by cases l<;>rfl
 have hc:uA l≤200:=by cases l<;>decide
 rw [hk,Int.toNat_natCast]
 unfold hd
 split
 ·rename_i h
  refine Comes.stop ?_
  simp only [jd,hk,hv,Option.bind_some]
  rw [decide_eq_true (by omega),cond_true,ah (by unfold bw;omega),show ((uA l:Nat):Int)+(k:Int)=((uA l+k:Nat):Int) by omega,yw]
 ·rename_i h
  have:=S8 n l (uA l) hc 5 k [] (by
                       have:(256:Nat) ^ 5=1099511627776:=by decide
                       omega) (by simp)
  rw [List.append_nil] at this
  refine Comes.next ?_ this
  simp only [jd,hk,hv,Option.bind_some]
  rw [decide_eq_false (by omega),cond_false]
theorem Ta:∀ (m k n:Nat),k<m→n<256 ^ k→n<2 ^ 62→nv m (n:Int)=some (gJ n):=by
  intro m
  induction m with
  | zero=>intro k n h;omega
  | succ m ih=>
    intro k n hk hn h62
    show qi (nv m) (n:Int)=_
    unfold qi
    by_cases h0:n=0
    · subst h0
      rw [tg];rfl
    · obtain ⟨j,rfl⟩:∃ j,k=j+1:=by
        cases k with
        | zero=>
                  have:n=0:=by simpa using hn
                  exact absurd this h0
        | succ j=>exact ⟨j,rfl⟩
      have hj:n/256<256 ^ j:=by rw [Nat.pow_succ] at hn;omega
      have e:(n:Int).tdiv 256=((n/256:Nat):Int):=by
        rw [Int.tdiv_eq_ediv_of_nonneg (by omega)];omega
      have e2:(n:Int).tmod 256=((n%256:Nat):Int):=by
        rw [Int.tmod_eq_emod_of_nonneg (by omega)];omega
      have hl:=th j _ hj
      have Rw:(gJ (n/256)).length≤8:=th 8 _ (by
                                                                 have:(256:Nat) ^ 8=2 ^ 64:=by decide
                                                                 omega)
      rw [decide_eq_false (by omega),cond_false,e,e2,ah ⟨by decide,by unfold bw;omega⟩,ih j _ (by omega) hj (by omega),Option.bind_some,ah (by simp;omega),yw,Nat.mod_mod,vg h0]
theorem VO (n:Nat) (h:n<2 ^ 62):zb (n:Int)=some (gJ n):=
  ni 9 fun m hm=>Ta m 8 n (by omega) (by
                                                     have:(256:Nat) ^ 8=2 ^ 64:=by decide
                                                     omega) h
theorem A9 (n:Nat) (l:Bool) (h:n<2 ^ 62):m4 (n:Int) l=some (hd l n):=by
  have hv:(bif l then some (192:Int) else some 128)=some ((uA l:Nat):Int):=by cases l<;>rfl
  have hc:uA l≤200:=by cases l<;>decide
  unfold m4 hd
  rw [hv,Option.bind_some]
  have Rw:(gJ n).length≤8:=th 8 _ (by
                                                     have:(256:Nat) ^ 8=2 ^ 64:=by decide
                                                     omega)
  split
  · rename_i h
    rw [decide_eq_true (by omega),cond_true,ah (by unfold bw;omega),show ((uA l:Nat):Int)+(n:Int)=((uA l+n:Nat):Int) by omega,yw]
  · rename_i h'
    rw [decide_eq_false (by omega),cond_false,VO n h,Option.bind_some,ah (by unfold bw;omega),ah (by unfold bw;omega),ah (by simp;omega),
      show ((uA l:Nat):Int)+55+((gJ n).length:Int)=((uA l+55+(gJ n).length:Nat):Int) by omega,yw]
    rfl
def VP:Nat→Item→Prop
 | 0,_=>False
 | n+1,x=>x.fL.length≤9223372036854775807∧x.fS.length≤9223372036854775807∧∀ y∈x.fL,VP n y
end Go.Proofs.YtlfjfoknbjcncaaGreat.K
namespace Go.Proofs.YtlfjfoknbjcncaaGreat.K
open Go Go.RowKit
set_option linter.unusedSimpArgs false
set_option linter.unusedVariables false
mutual
def cn:Item→List UInt8
 | ⟨l,s,r⟩=>if l=false then (if s.length=1∧(s.getD 0 0).toNat<128 then s else hd false s.length++s) else hd true (cC r).length++cC r
def cC:List Item→List UInt8
 | []=>[]
 | x::r=>cn x++cC r
end
mutual
def o8:Item→Nat
 | ⟨_,_,r⟩=>1+sj r
def sj:List Item→Nat
 | []=>0
 | x::r=>o8 x+sj r
end
theorem o9 (x:Item):cn x=if x.cF=false then (if x.fS.length=1∧(x.fS.getD 0 0).toNat<128 then x.fS else hd false x.fS.length++x.fS) else hd true (cC x.fL).length++cC x.fL:=by
 cases x;simp only [cn]
theorem wz (x:Item):o8 x=1+sj x.fL:=by cases x;simp only [o8]
theorem Ep (x:Item):1≤o8 x:=by rw [wz];omega
def RT:Nat→Item→Prop
 | 0,_=>False
 | n+1,x=>(x.cF=false→x.fL=[])∧(x.cF=true→x.fS=[])∧∀ y∈x.fL,RT n y
theorem HA (l:Bool) (k:Nat):hd l k≠[]:=by unfold hd;split<;>simp
theorem Ba (l:Bool) (k:Nat):(hd l k).length=if k<56 then 1 else 1+(gJ k).length:=by
 unfold hd;split<;>simp;omega
theorem Ml {k:Nat} (h:k≤2 ^ 32):(gJ k).length≤5:=th 5 k (by rw [show (256:Nat) ^ 5=1099511627776 from by decide];omega)
theorem CD (l:Bool) {k:Nat} (h:k≤2 ^ 32):(hd l k).length≤6:=by
 have:=Ml h
 rw [Ba];split<;>omega
theorem Er (l:Bool) {k:Nat} (h:k≤2 ^ 32):tS (k:Int) l=some (hd l k):=by
 rw [S9]
 have:(eY (gQ (k:Int) 0) 4294967296).toNat=k:=by unfold eY gQ;repeat' split<;>omega
 rw [this]
theorem HB (x:Item):cn x≠[]:=by
 rw [o9]
 split
 ·split
  ·rename_i h;intro e;rw [e] at h;simp at h
  ·intro e;exact HA _ _ (List.append_eq_nil_iff.1 e).1
 ·intro e;exact HA _ _ (List.append_eq_nil_iff.1 e).1
theorem Pm {d c:Nat} (hd:d≤64) (hc:c+1≤4096):j7 (d:Int) ⟨(c:Int)⟩=some (.inl (),⟨((c+1:Nat):Int)⟩):=by
 unfold j7
 simp only
 rw [ah (by unfold bw;omega),decide_eq_true (by omega),decide_eq_true (by omega)]
 rfl
theorem kn (e:Int):iQ true e=some (.inl ()):=rfl
theorem VQ (f:Item→Int→counter→Option (((List UInt8)⊕Int)×counter)) (x:Item) (d:Nat) (Wv:d≤64) (c0:counter)
  (hf:∀ y∈x.fL,∀ c:Nat,(cn y).length≤2 ^ 32→c+o8 y≤4096→f y ((d+1:Nat):Int) ⟨(c:Int)⟩=some (.inl (cn y),⟨((c+o8 y:Nat):Int)⟩)) (hl:x.fL.length≤9223372036854775807) (k:Nat):∀ (i:Nat) (acc:List UInt8) (c:Nat),k+i=x.fL.length→
  (acc++cC (x.fL.drop i)).length≤2 ^ 32→c+sj (x.fL.drop i)≤4096→
  Comes (eO f x (d:Int) c0) (.L1 acc (i:Int) (c:Int)) (.inl (hd true (acc++cC (x.fL.drop i)).length++(acc++cC (x.fL.drop i))),⟨((c+sj (x.fL.drop i):Nat):Int)⟩):=by
 induction k with
 | zero=>
  intro i acc c hi hlen hc
  refine Comes.stop ?_
  rw [List.drop_eq_nil_of_le (by omega)] at hlen ⊢
  simp only [cC,sj,List.append_nil,Nat.add_zero] at hlen ⊢
  have:=CD true hlen
  simp only [eO]
  rw [decide_eq_false (by omega),cond_false,Er true hlen,Option.bind_some,ah (by omega)]
 | succ k ih=>
  intro i acc c hi hlen hc
  have h1:i<x.fL.length:=by omega
  rw [List.drop_eq_getElem_cons h1] at hlen hc ⊢
  simp only [cC,sj] at hlen hc ⊢
  simp only [List.length_append] at hlen
  have e:=hf x.fL[i] (List.getElem_mem h1) c (by omega) (by omega)
  have:=ih (i+1) (acc++cn x.fL[i]) (c+o8 x.fL[i]) (by omega) (by simp only [List.length_append];omega) (by omega)
  rw [List.append_assoc,Nat.add_assoc] at this
  refine Comes.next ?_ this
  simp only [eO]
  rw [decide_eq_true (by omega),cond_true,ah (by omega),ah (by unfold bw;omega),A8 h1,show (d:Int)+1=((d+1:Nat):Int) by omega,e,Option.bind_some]
  simp only
  rw [ah (by omega),ah (by unfold bw;omega)]
  rfl
theorem Mm:∀ (n m:Nat) (x:Item) (d c:Nat),VP n x→RT n x→n≤m→d+n≤65→(cn x).length≤2 ^ 32→c+o8 x≤4096→
  iq m x (d:Int) ⟨(c:Int)⟩=some (.inl (cn x),⟨((c+o8 x:Nat):Int)⟩)
 | 0,_,_,_,_,h,_,_,_,_,_=>h.elim
 | n+1,0,_,_,_,_,_,hm,_,_,_=>by omega
 | n+1,m+1,x,d,c,hok,hr,hm,hd,hlen,hc=>by
  show g9 (eO (iq m) x (d:Int) ⟨(c:Int)⟩) .S=_
  refine cS ?_
  have h1:=Pm (d:=d) (c:=c) (by omega) (by have:=Ep x;omega)
  cases hl:x.cF with
  | false=>
   have gP:=hr.1 hl
   have e0:o8 x=1:=by rw [wz,gP];rfl
   rw [o9,if_pos hl] at hlen ⊢
   rw [e0]
   refine Comes.stop ?_
   simp only [eO,h1,Option.bind_some,gP,hl]
   simp only [Bool.not_false,Bool.or_true,kn,Option.bind_some,List.length_nil,cond_true]
   rw [show (decide (((0:Nat):Int)=0)||false)=true from rfl,kn,Option.bind_some]
   simp only
   rw [ah (by intro h;have:=of_decide_eq_true h;omega)]
   by_cases h2:x.fS.length=1
   ·have e1:idx x.fS (0:Int)=x.fS.getD 0 0:=by
     show idx x.fS ((0:Nat):Int)=_
     rw [A8 (by omega)]
     simp [List.getD_eq_getElem?_getD,List.getElem?_eq_getElem (show 0<x.fS.length by omega)]
    by_cases h3:(x.fS.getD 0 0).toNat<128
    ·rw [if_pos ⟨h2,h3⟩,decide_eq_true (by omega),e1,decide_eq_true (by omega)];rfl
    ·rw [if_neg (fun h=>h3 h.2)] at hlen ⊢
     rw [decide_eq_true (by omega),e1,decide_eq_false (by omega),Bool.and_false,cond_false,Er false (by omega),Option.bind_some,ah (by rw [List.length_append] at hlen;omega)]
   ·rw [if_neg (fun h=>h2 h.1)] at hlen ⊢
    rw [List.length_append] at hlen
    rw [decide_eq_false (by omega),Bool.false_and,cond_false,Er false (by omega),Option.bind_some,ah (by omega)]
  | true=>
   have gP:=hr.2.1 hl
   rw [o9,if_neg (by rw [hl];simp)] at hlen ⊢
   rw [List.length_append] at hlen
   have key:=VQ (iq m) x d (by omega) ⟨(c:Int)⟩ (fun y hy c hl hc=>Mm n m y (d+1) c (hok.2.2 y hy) (hr.2.2 y hy) (by omega) (by omega) hl hc) hok.1 x.fL.length 0 [] (c+1) rfl (by simp only [List.nil_append,List.drop_zero];omega) (by rw [wz] at hc;rw [List.drop_zero];omega)
   rw [List.drop_zero,List.nil_append] at key
   rw [wz, ← Nat.add_assoc]
   refine Comes.next ?_ key
   simp only [eO,h1,Option.bind_some,gP,hl]
   simp only [beq_self_eq_true,Bool.true_or,Bool.or_true,kn,Option.bind_some,Bool.not_true,cond_false]
   rfl
theorem VR {n:Nat} (x:Item) (hok:VP n x) (hr:RT n x) (hn:n≤65) (hlen:(cn x).length≤2 ^ 32) (hc:o8 x≤4096):lR x=some (cn x,0):=by
 have:qH x 0 ⟨0⟩=some (.inl (cn x),⟨((0+o8 x:Nat):Int)⟩):=ni n fun m hm=>Mm n m x 0 0 hok hr hm (by omega) hlen (by omega)
 unfold lR
 rw [this];rfl
end Go.Proofs.YtlfjfoknbjcncaaGreat.K
namespace Go.Proofs.YtlfjfoknbjcncaaGreat.K
open Go Go.RowKit
set_option linter.unusedSimpArgs false
set_option linter.unusedVariables false
def sP (l:List UInt8):Nat:=l.foldl (fun a b=>a*256+b.toNat) 0
theorem HC (l:List UInt8) (b:UInt8):sP (l++[b])=sP l*256+b.toNat:=by simp [sP]
theorem Jv (n:Nat):sP (gJ n)=n:=by
 induction n using Nat.strongRecOn with
 | _ n ih=>
  by_cases h:n=0
  ·subst h;rw [tg];rfl
  ·rw [vg h,HC,ih _ (by omega)]
   have:(UInt8.ofNat (n%256)).toNat=n%256:=by rw [UInt8.toNat_ofNat'];omega
   rw [this];omega
theorem OI (l:List UInt8):∀ z:Nat,l.foldl (fun a b=>a*256+b.toNat) z=z*256 ^ l.length+l.foldl (fun a b=>a*256+b.toNat) 0:=by
 induction l with
 | nil=>intro z;simp
 | cons b r ih=>
  intro z
  rw [List.foldl_cons,List.foldl_cons,ih,ih (0*256+b.toNat),List.length_cons,Nat.pow_succ,Nat.add_mul,Nat.zero_mul,Nat.zero_add,Nat.mul_assoc,Nat.mul_comm 256,Nat.add_assoc]
theorem Qs (a b:List UInt8):sP (a++b)=sP a*256 ^ b.length+sP b:=by
 unfold sP
 rw [List.foldl_append,OI b]
theorem OJ {n:Nat} (h:n≠0):∃ b r,gJ n=b::r∧b.toNat≠0:=by
 induction n using Nat.strongRecOn with
 | _ n ih=>
  by_cases h2:n/256=0
  ·refine ⟨UInt8.ofNat (n%256),[],by rw [vg h,h2,tg];rfl,?_⟩
   have:(UInt8.ofNat (n%256)).toNat=n%256:=by rw [UInt8.toNat_ofNat'];omega
   rw [this];omega
  ·obtain ⟨b,r,e,hb⟩:=ih _ (by omega) h2
   exact ⟨b,r++[UInt8.ofNat (n%256)],by rw [vg h,e];rfl,hb⟩
theorem Qt (a b:Nat) (ha:a<2 ^ 40) (hb:b<256):Nz (wU (a:Int) 8) (b:Int)=((a*256+b:Nat):Int):=by
 have e1:wU (a:Int) 8=((a*256:Nat):Int):=by
  unfold wU
  rw [show min (8:Int).toNat 64=8 by decide];omega
 rw [e1]
 unfold Nz
 have h1:BitVec.ofInt 64 ((a*256:Nat):Int)=BitVec.ofNat 64 (a*256):=by rw [BitVec.ofInt_natCast]
 have h2:BitVec.ofInt 64 ((b:Nat):Int)=BitVec.ofNat 64 b:=by rw [BitVec.ofInt_natCast]
 rw [h1,h2,BitVec.toNat_or,BitVec.toNat_ofNat,BitVec.toNat_ofNat,Nat.mod_eq_of_lt (by omega),Nat.mod_eq_of_lt (by omega)]
 have:a*256||| b=a*256+b:=by
  have:=Nat.shiftLeft_add_eq_or_of_lt (i:=8) (b:=b) (by omega) a
  rw [Nat.shiftLeft_eq] at this
  exact this.symm
 rw [this]
 exact tM (by unfold bw;omega)
theorem E9 {s:List UInt8} (h:0<s.length):idx s (0:Int)=s.getD 0 0:=by
 show idx s ((0:Nat):Int)=_
 rw [A8 h]
 simp [List.getD_eq_getElem?_getD,List.getElem?_eq_getElem h]
theorem Jw {n:Nat} (h:n<256):(UInt8.ofNat n).toNat=n:=by rw [UInt8.toNat_ofNat'];omega
theorem Es (l:Bool) {k:Nat} (h:k≤2 ^ 32) (t:List UInt8):((hd l k++t).getD 0 0).toNat=if k<56 then uA l+k else uA l+55+(gJ k).length:=by
 have h5:=Ml h
 have hc:uA l≤192:=by cases l<;>decide
 unfold hd
 split
 ·simp only [List.cons_append,List.getD_cons_zero]
  rw [Nat.mod_eq_of_lt (by omega),Jw (by omega)]
 ·simp only [List.cons_append,List.getD_cons_zero]
  rw [Nat.mod_eq_of_lt (by omega),Jw (by omega)]
theorem HD (l:Bool) (k:Nat) (h:k≤2 ^ 32) (t:List UInt8) (ht:(hd l k++t).length≤2 ^ 40):qb (hd l k++t) ((uA l:Nat):Int)=some (.inl ((k:Int),(((hd l k).length:Nat):Int))):=by
 refine cS ?_
 have h5:=Ml h
 have hc:uA l≤192:=by cases l<;>decide
 have hpos:0<(hd l k++t).length:=by
  have:=List.length_pos_iff.2 (HA l k)
  rw [List.length_append];omega
 have h1:=Es l h t
 have hlen:=Ba l k
 generalize hs:hd l k++t=s at h1 hpos ht
 by_cases hk:k<56
 ·rw [if_pos hk] at h1 hlen
  refine Comes.stop ?_
  simp only [iD]
  rw [ah (by omega),E9 hpos,h1,ah (by unfold bw;omega),decide_eq_true (by omega),cond_true,hlen]
  have:((uA l+k:Nat):Int)-((uA l:Nat):Int)=(k:Int):=by omega
  rw [this];rfl
 ·rw [if_neg hk] at h1 hlen
  obtain ⟨b,r,hb,hb0⟩:=OJ (n:=k) (by omega)
  have WK:s.length=1+(gJ k).length+t.length:=by rw [← hs,List.length_append,hlen]
  have hbl:(gJ k).length=r.length+1:=by rw [hb];rfl
  have BG:∀ (i:Nat) (hi:i<(gJ k).length),idx s (1+(i:Int))=(gJ k)[i]:=by
   intro i hi
   rw [show (1:Int)+(i:Int)=((i+1:Nat):Int) by omega,A8 (by omega)]
   subst hs
   unfold hd
   simp only [if_neg hk,List.cons_append,List.getElem_cons_succ]
   rw [List.getElem_append_left]
  have hb1:idx s (1:Int)=b:=by
   have:=BG 0 (by omega)
   simp only [hb,List.getElem_cons_zero] at this
   exact this
  have loop:∀ (j i:Nat),j+i=(gJ k).length→Comes (iD s ((uA l:Nat):Int)) (.L1 ((sP ((gJ k).take i):Nat):Int) (i:Int)) (.inl ((k:Int),(((hd l k).length:Nat):Int))):=by
   intro j
   induction j with
   | zero=>
    intro i hi
    obtain rfl:i=(gJ k).length:=by omega
    refine Comes.stop ?_
    rw [List.take_length,Jv]
    simp only [iD]
    rw [E9 hpos,h1,decide_eq_false (by omega),cond_false,decide_eq_true (by omega),kn,Option.bind_some]
    simp only
    rw [ah (by unfold bw;omega),hlen]
    have:(1:Int)+(((uA l+55+(gJ k).length:Nat):Int)-((uA l:Nat):Int)-55)=((1+(gJ k).length:Nat):Int):=by omega
    rw [this]
   | succ j ih=>
    intro i hi
    have hi2:i<(gJ k).length:=by omega
    have hsplit:gJ k=(gJ k).take i++((gJ k)[i]::(gJ k).drop (i+1)):=by
     rw [← List.drop_eq_getElem_cons hi2,List.take_append_drop]
    have hv:sP ((gJ k).take i)*256≤k:=by
     have h2:=Jv k
     rw [hsplit,Qs,List.length_cons,Nat.pow_succ] at h2
     have:1≤256 ^ ((gJ k).drop (i+1)).length:=Nat.one_le_pow _ _ (by omega)
     have:sP ((gJ k).take i)*256≤sP ((gJ k).take i)*(256 ^ ((gJ k).drop (i+1)).length*256):=Nat.mul_le_mul_left _ (by omega)
     omega
    have hn:sP ((gJ k).take (i+1))=sP ((gJ k).take i)*256+((gJ k)[i]).toNat:=by
     rw [List.take_succ_eq_append_getElem hi2,HC]
    have hbt:((gJ k)[i]).toNat<256:=UInt8.toNat_lt _
    refine Comes.next (c':= .L1 ((sP ((gJ k).take (i+1)):Nat):Int) ((i+1:Nat):Int)) ?_ (ih (i+1) (by omega))
    simp only [iD]
    have hsh:wU ((sP ((gJ k).take i):Nat):Int) 8=((sP ((gJ k).take i)*256:Nat):Int):=by
     unfold wU
     rw [show min (8:Int).toNat 64=8 by decide];omega
    rw [E9 hpos,h1,decide_eq_true (by omega),cond_true,decide_eq_true (by omega),kn,Option.bind_some]
    simp only
    rw [ah (by rw [hsh];unfold bw;omega),ah (by unfold bw;omega),ah (by omega),ah (by unfold bw;omega),BG i hi2,Qt _ _ (by omega) hbt,hn]
    rfl
  refine Comes.next (c':= .L1 ((sP ((gJ k).take 0):Nat):Int) ((0:Nat):Int)) ?_ (loop _ 0 rfl)
  simp only [iD]
  rw [ah (by omega),E9 hpos,h1,ah (by unfold bw;omega),decide_eq_false (by omega),cond_false,ah (by unfold bw;omega),decide_eq_true (by omega),kn,Option.bind_some]
  simp only
  rw [ah (by omega),hb1,decide_eq_false (by omega),Bool.not_false,kn,Option.bind_some]
  rfl
theorem Et {α:Type} (a b c:List α):sub (a++(b++c)) ((a.length:Nat):Int) (((a.length:Nat):Int)+((b.length:Nat):Int))=b:=by
 unfold sub
 rw [Int.toNat_natCast,List.drop_left',show (((a.length:Nat):Int)+((b.length:Nat):Int)-((a.length:Nat):Int)).toNat=b.length by omega,List.take_left']
 ·rfl
 ·rfl
theorem Qu {α:Type} (a b:List α):sub (a++b) ((a.length:Nat):Int) (((a++b).length:Nat):Int)=b:=by
 unfold sub
 rw [Int.toNat_natCast,List.drop_left' rfl,List.take_of_length_le (by rw [List.length_append];omega)]
theorem DA {s:List UInt8} (h:s≠[]):(s==([]:List UInt8))=false:=by
 cases s with
 | nil=>exact absurd rfl h
 | cons=>rfl
theorem Pn (f:List UInt8→Int→counter→Option (((Item×Int)⊕Int)×counter)) (s:List UInt8) (d:Nat) (Wv:d≤64) (c0:counter) (kk n:Nat) (hkn:kk+n≤2 ^ 41):∀ (l:List Item) (acc:List Item) (c:Nat),
  (∀ y∈l,∀ (c:Nat) (t:List UInt8),(cn y++t).length≤2 ^ 40→(cn y).length≤2 ^ 32→c+o8 y≤4096→f (cn y++t) ((d+1:Nat):Int) ⟨(c:Int)⟩=some (.inl (y,(((cn y).length:Nat):Int)),⟨((c+o8 y:Nat):Int)⟩))→
  (cC l).length≤2 ^ 32→c+sj l≤4096→acc.length+sj l≤4096→
  Comes (eA f s (d:Int) c0) (.L2 (n:Int) (kk:Int) (cC l) (c:Int) acc) (.inl (⟨true,[],acc++l⟩,((kk+n:Nat):Int)),⟨((c+sj l:Nat):Int)⟩)
 | [],acc,c,hf,hl,hc,ha=>by
  refine Comes.stop ?_
  simp only [eA,cC,sj,Nat.add_zero,List.append_nil]
  rw [show (!(([]:List UInt8)==[]))=false from rfl,cond_false,ah (by unfold bw;omega)]
  rw [show (kk:Int)+(n:Int)=((kk+n:Nat):Int) by omega]
 | y::r,acc,c,hf,hl,hc,ha=>by
  simp only [cC,sj] at hl hc ha ⊢
  rw [List.length_append] at hl
  have e:=hf y (List.mem_cons_self ..) c (cC r) (by rw [List.length_append];omega) (by omega) (by omega)
  have hy:=Ep y
  have:=Pn f s d Wv c0 kk n hkn r (acc++[y]) (c+o8 y) (fun z hz=>hf z (List.mem_cons_of_mem _ hz)) (by omega) (by omega) (by rw [List.length_append,List.length_singleton];omega)
  rw [List.append_assoc,List.singleton_append,Nat.add_assoc] at this
  refine Comes.next ?_ this
  simp only [eA]
  rw [DA (fun h=>HB y (List.append_eq_nil_iff.1 h).1),Bool.not_false,cond_true,ah (by unfold bw;omega),show (d:Int)+1=((d+1:Nat):Int) by omega,e,Option.bind_some]
  simp only
  rw [ah (by simp only [List.length_singleton];omega),ah (by rw [List.length_append];omega),Qu]
theorem Mn:∀ (n m:Nat) (x:Item) (d c:Nat) (t:List UInt8),RT n x→n≤m→d+n≤65→(cn x++t).length≤2 ^ 40→(cn x).length≤2 ^ 32→c+o8 x≤4096→
  ij m (cn x++t) (d:Int) ⟨(c:Int)⟩=some (.inl (x,(((cn x).length:Nat):Int)),⟨((c+o8 x:Nat):Int)⟩)
 | 0,_,_,_,_,_,h,_,_,_,_,_=>h.elim
 | n+1,0,_,_,_,_,_,hm,_,_,_,_=>by omega
 | n+1,m+1,x,d,c,t,hr,hm,hd',hlt,hlen,hc=>by
  show g9 (eA (ij m) (cn x++t) (d:Int) ⟨(c:Int)⟩) .S=_
  refine cS ?_
  have h1:=Pm (d:=d) (c:=c) (by omega) (by have:=Ep x;omega)
  have hne:cn x++t≠[]:=fun h=>HB x (List.append_eq_nil_iff.1 h).1
  have hpos:0<(cn x++t).length:=List.length_pos_iff.2 hne
  cases hl:x.cF with
  | false=>
   have gP:=hr.1 hl
   have hx:x=⟨false,x.fS,[]⟩:=by cases x;simp_all
   have e0:o8 x=1:=by rw [wz,gP];rfl
   rw [e0]
   refine Comes.stop ?_
   by_cases h2:x.fS.length=1∧(x.fS.getD 0 0).toNat<128
   ·have he:cn x=x.fS:=by rw [o9,if_pos hl,if_pos h2]
    have hb:(cn x++t).getD 0 0=x.fS.getD 0 0:=by
     rw [he]
     cases hS:x.fS with
     | nil=>rw [hS] at h2;simp at h2
     | cons b r=>rfl
    simp only [eA,h1,Option.bind_some,DA hne,Bool.not_false,kn]
    rw [ah (by omega),E9 hpos,hb,decide_eq_true (by omega),cond_true,ah (by omega)]
    have hs:sub (cn x++t) 0 1=x.fS:=by
     have:=Et ([]:List UInt8) x.fS t
     rw [List.nil_append,h2.1] at this
     rw [he];exact this
    rw [hs]
    simp only [iR,Option.bind_some]
    rw [← hx,he,h2.1]
    rfl
   ·have he:cn x=hd false x.fS.length++x.fS:=by rw [o9,if_pos hl,if_neg h2]
    have hk:x.fS.length≤2 ^ 32:=by rw [he,List.length_append] at hlen;omega
    have DB:cn x++t=hd false x.fS.length++(x.fS++t):=by rw [he,List.append_assoc]
    have hf:=Es false hk (x.fS++t)
    have hL:=HD false x.fS.length hk (x.fS++t) (by rw [← DB];exact hlt)
    have hh:=CD false hk
    have h5:=Ml hk
    rw [← DB] at hf hL
    have hge:128≤((cn x++t).getD 0 0).toNat∧((cn x++t).getD 0 0).toNat<192:=by
     rw [hf];split<;>simp [uA]<;>omega
    have PE:(cn x++t).length=(hd false x.fS.length).length+x.fS.length+t.length:=by rw [DB];simp only [List.length_append];omega
    simp only [eA,h1,Option.bind_some,DA hne,Bool.not_false,kn]
    rw [ah (by omega),E9 hpos,decide_eq_false (by omega),cond_false,ah (by omega),decide_eq_false (by omega),cond_false,Option.bind_some]
    rw [show qb (cn x++t) 128=_ from hL,Option.bind_some]
    simp only
    rw [ah (by unfold bw;omega),decide_eq_true (by omega),kn,Option.bind_some]
    simp only
    have hs:sub (cn x++t) (((hd false x.fS.length).length:Nat):Int) ((((hd false x.fS.length).length:Nat):Int)+((x.fS.length:Nat):Int))=x.fS:=by rw [DB];exact Et _ _ _
    rw [ah (by unfold bw;omega),ah (by omega),Bool.not_false,cond_true,hs,ah (by intro h;simp only [Bool.not_eq_false',decide_eq_true_eq] at h;omega)]
    have x4:((!decide ((x.fS.length:Int)=1))||decide (128≤(((idx x.fS 0).toNat:Nat):Int)))=true:=by
     by_cases h3:x.fS.length=1
     ·rw [E9 (by omega)]
      have:¬ (x.fS.getD 0 0).toNat<128:=fun h=>h2 ⟨h3,h⟩
      rw [decide_eq_true (p:=(128:Int)≤_) (by omega),Bool.or_true]
     ·rw [decide_eq_false (by omega)];rfl
    rw [x4,kn,Option.bind_some]
    simp only [iR,Option.bind_some]
    rw [ah (by unfold bw;omega), ← hx,he,List.length_append]
    rw [show (((hd false x.fS.length).length:Nat):Int)+((x.fS.length:Nat):Int)=(((hd false x.fS.length).length+x.fS.length:Nat):Int) by omega]
  | true=>
   have gP:=hr.2.1 hl
   have hx:x=⟨true,[],x.fL⟩:=by cases x;simp_all
   have he:cn x=hd true (cC x.fL).length++cC x.fL:=by rw [o9,if_neg (by rw [hl];simp)]
   have hk:(cC x.fL).length≤2 ^ 32:=by rw [he,List.length_append] at hlen;omega
   have DB:cn x++t=hd true (cC x.fL).length++(cC x.fL++t):=by rw [he,List.append_assoc]
   have hf:=Es true hk (cC x.fL++t)
   have hL:=HD true (cC x.fL).length hk (cC x.fL++t) (by rw [← DB];exact hlt)
   have hh:=CD true hk
   have h5:=Ml hk
   rw [← DB] at hf hL
   have hge:192≤((cn x++t).getD 0 0).toNat:=by
    rw [hf];split<;>simp [uA];omega
   have PE:(cn x++t).length=(hd true (cC x.fL).length).length+(cC x.fL).length+t.length:=by rw [DB];simp only [List.length_append];omega
   rw [wz] at hc ⊢
   have hs:sub (cn x++t) (((hd true (cC x.fL).length).length:Nat):Int) ((((hd true (cC x.fL).length).length:Nat):Int)+(((cC x.fL).length:Nat):Int))=cC x.fL:=by rw [DB];exact Et _ _ _
   have key:=Pn (ij m) (cn x++t) d (by omega) ⟨(c:Int)⟩ (hd true (cC x.fL).length).length (cC x.fL).length (by omega) x.fL [] (c+1) (fun y hy c t h1 h2 h3=>Mn n m y (d+1) c t (hr.2.2 y hy) (by omega) (by omega) h1 h2 h3) hk (by omega) (by rw [List.length_nil];omega)
   rw [List.nil_append, ← hx, ← List.length_append, ← he] at key
   rw [← Nat.add_assoc]
   refine Comes.next ?_ key
   simp only [eA,h1,Option.bind_some,DA hne,Bool.not_false,kn]
   rw [ah (by omega),E9 hpos,decide_eq_false (by omega),cond_false,ah (by omega),decide_eq_true (by omega),cond_true,Option.bind_some]
   rw [show qb (cn x++t) 192=_ from hL,Option.bind_some]
   simp only
   rw [ah (by unfold bw;omega),decide_eq_true (by omega),kn,Option.bind_some]
   simp only
   rw [ah (by unfold bw;omega),ah (by omega),Bool.not_true,cond_false,hs]
theorem VS {n:Nat} (x:Item) (t:List UInt8) (hr:RT n x) (hn:n≤65) (hlt:(cn x++t).length≤2 ^ 40) (hlen:(cn x).length≤2 ^ 32) (hc:o8 x≤4096):vG (cn x++t)=some (x,(((cn x).length:Nat):Int),0):=by
 have:qF (cn x++t) 0 ⟨0⟩=some (.inl (x,(((cn x).length:Nat):Int)),⟨((0+o8 x:Nat):Int)⟩):=ni n fun m hm=>Mn n m x 0 0 t hr hm (by omega) hlt hlen (by omega)
 unfold vG
 rw [this];rfl
theorem Qv {n:Nat} (x:Item) (hr:RT n x) (hn:n≤65) (hlen:(cn x).length≤2 ^ 32) (hc:o8 x≤4096):ku (cn x)=some (x,0):=by
 have:=VS x [] hr hn (by rw [List.append_nil];omega) hlen hc
 rw [List.append_nil] at this
 unfold ku
 rw [this]
 simp
end Go.Proofs.YtlfjfoknbjcncaaGreat.K
namespace Go.Proofs.YtlfjfoknbjcncaaGreat.K
open Go Go.RowKit
set_option linter.unusedSimpArgs false
set_option linter.unusedVariables false
def noI:Item:=⟨false,[],[]⟩
end Go.Proofs.YtlfjfoknbjcncaaGreat.K
namespace Go.Proofs.YtlfjfoknbjcncaaGreat.K
open Go Go.RowKit
set_option linter.unusedSimpArgs false
set_option linter.unusedVariables false
end Go.Proofs.YtlfjfoknbjcncaaGreat.K
namespace Go.Proofs.YtlfjfoknbjcncaaGreat.K
open Go
theorem CE {l:List UInt8} {i:Nat} (h:i<l.length):l.drop i=l.getD i 0::l.drop (i+1):=by
 rw [List.drop_eq_getElem_cons h,List.getD_eq_getElem?_getD,List.getElem?_eq_getElem h]
 rfl
def common:List UInt8→List UInt8→Nat
 | a::r,b::q=>if a=b then common r q+1 else 0
 | _,_=>0
theorem zf {a b:List UInt8} {i:Nat} (h1:i<a.length) (h2:i<b.length):common (a.drop i) (b.drop i)=if (a.getD i 0).toNat=(b.getD i 0).toNat then common (a.drop (i+1)) (b.drop (i+1))+1 else 0:=by
 rw [CE h1,CE h2,common]
 simp only [UInt8.toNat_inj]
theorem xk {a b:List UInt8} {i:Nat} (h:¬ (i<a.length∧i<b.length)):common (a.drop i) (b.drop i)=0:=by
 by_cases h1:i<a.length
 ·rw [show b.drop i=[] from List.drop_eq_nil_of_le (by omega)]
  cases a.drop i<;>rfl
 ·rw [show a.drop i=[] from List.drop_eq_nil_of_le (by omega)]
  rfl
def right (l:List UInt8):Bool:= !(l.any fun b=>decide (15<b.toNat))
theorem AD {x:UInt8} {r:List UInt8}:right (x::r)=(!(decide (15<x.toNat))&&right r):=by simp [right]
def fq:List UInt8→List UInt8
 | a::b::r=>(a*16||| b)::fq r
 | _=>[]
theorem xU {l:List UInt8} (h:l.length<2):fq l=[]:=by
 cases l with
 | nil=>rfl
 | cons a r=>cases r with
  | nil=>rfl
  | cons b q=>simp at h;omega
def dD:List UInt8→List UInt8
 | []=>[]
 | c::r=>c/16::c%16::dD r
theorem qR:∀ ks:List UInt8,(dD ks).length=2*ks.length
 | []=>rfl
 | c::r=>by simp only [dD,List.length_cons,qR r];omega
theorem zg:∀ (ks:List UInt8) (j:Nat),j<ks.length→(dD ks)[2*j]? =some (ks.getD j 0/16)∧(dD ks)[2*j+1]? =some (ks.getD j 0%16)
 | [],j,h=>by simp at h
 | c::r,0,_=>⟨rfl,rfl⟩
 | c::r,j+1,h=>by
  have:=zg r j (by simpa using h)
  simp only [dD,show 2*(j+1)=2*j+1+1 from by omega,List.getElem?_cons_succ,List.getD_cons_succ]
  exact this
theorem OK (x:UInt8):x/16%16=x/16:=by
 apply UInt8.toNat_inj.1
 have:x.toNat<256:=x.toNat_lt
 rw [UInt8.toNat_mod,UInt8.toNat_div]
 exact Nat.mod_eq_of_lt (by show x.toNat/16<16;omega)
theorem OL (ks:List UInt8) (i:Nat) (h:i%2=0) (hi:i/2<ks.length):(dD ks).take (i+1)=(dD ks).take i++[ks.getD (i/2) 0/16%16]:=by
 have:=(zg ks (i/2) hi).1
 rw [show 2*(i/2)=i from by omega] at this
 rw [List.take_add_one,this,OK]
 rfl
theorem Qw (ks:List UInt8) (i:Nat) (h:i%2=1) (hi:i/2<ks.length):(dD ks).take (i+1)=(dD ks).take i++[ks.getD (i/2) 0%16]:=by
 have:=(zg ks (i/2) hi).2
 rw [show 2*(i/2)+1=i from by omega] at this
 rw [List.take_add_one,this]
 rfl
def eB (p:List UInt8) (leaf:Bool):List UInt8:=
 if p.length%2=1 then fq ((if leaf then 3 else 1)::p) else fq ((if leaf then 2 else 0)::0::p)
def CF (p:List UInt8):Bool:=right p&&decide (p.length≤64)
theorem rE:∀ l:List UInt8,(fq l).length=l.length/2
 | []=>rfl
 | [_]=>by simp [fq]
 | a::b::r=>by simp only [fq,List.length_cons,rE r];omega
theorem Mo {p:List UInt8} (h:right p=true) (h2:p.length≤64):CF p=true:=by simp [CF,h,h2]
theorem yx {p:List UInt8} (h:right p=true) (i:Nat):(p.getD i 0).toNat<16:=by
 by_cases hi:i<p.length
 ·rw [List.getD_eq_getElem?_getD,List.getElem?_eq_getElem hi]
  simp only [right,Bool.not_eq_true',List.any_eq_false,decide_eq_true_eq] at h
  have:=h p[i] (List.getElem_mem hi)
  simp only [Option.getD_some]
  omega
 ·rw [List.getD_eq_getElem?_getD,List.getElem?_eq_none (by omega)]
  decide
theorem DC {a b:UInt8} (h:b.toNat<16):16*a+b=a*16||| b:=by
 apply UInt8.toNat_inj.1
 rw [UInt8.toNat_or,UInt8.toNat_add,UInt8.toNat_mul,UInt8.toNat_mul]
 have e:(16:UInt8).toNat=16:=rfl
 rw [e]
 have h1:a.toNat<256:=a.toNat_lt
 have h2:a.toNat*16%2 ^ 8=2 ^ 4*(a.toNat%16):=by omega
 rw [h2, ← Nat.two_pow_add_eq_or_of_lt (show b.toNat<2 ^ 4 by omega)]
 omega
theorem Eu {p:List UInt8} (h:p.length%2=0):eB p true=[32]++fq (p.drop 0):=by
 rw [eB,if_neg (by omega)];rfl
theorem DD {p:List UInt8} (h:p.length%2=0):eB p false=[0]++fq (p.drop 0):=by
 rw [eB,if_neg (by omega)];rfl
theorem ofNat_add {b:UInt8} {n:Nat} (h:b.toNat<16) (hn:n<200):UInt8.ofNat ((n:Int)+(b.toNat:Int)).toNat=UInt8.ofNat n+b:=by
 apply UInt8.toNat_inj.1
 rw [UInt8.toNat_add,UInt8.toNat_ofNat',UInt8.toNat_ofNat']
 omega
theorem DE {p:List UInt8} (m:UInt8) (h:p.length%2=1) (h2:(p.getD 0 0).toNat<16):fq (m::p)=(16*m+p.getD 0 0)::fq (p.drop 1):=by
 have e:p=p.getD 0 0::p.drop 1:=by have:=CE (l:=p) (i:=0) (by omega);simpa using this
 rw [DC h2]
 conv=>lhs;rw [e]
 rfl
theorem FC {p:List UInt8} (h:p.length%2=1) (h2:(p.getD 0 0).toNat<16):eB p true=[UInt8.ofNat (48+((p.getD 0 0).toNat:Int)).toNat]++fq (p.drop 1):=by
 rw [eB,if_pos h]
 have e:=ofNat_add (n:=48) h2 (by omega)
 simp only [if_true]
 rw [DE 3 h h2]
 exact congrArg (· ::fq (p.drop 1)) e.symm
theorem Ev {p:List UInt8} (h:p.length%2=1) (h2:(p.getD 0 0).toNat<16):eB p false=[UInt8.ofNat (16+((p.getD 0 0).toNat:Int)).toNat]++fq (p.drop 1):=by
 rw [eB,if_pos h]
 have e:=ofNat_add (n:=16) h2 (by omega)
 simp only [if_false,Bool.false_eq_true]
 rw [DE 1 h h2]
 exact congrArg (· ::fq (p.drop 1)) e.symm
def u7 (c:UInt8) (n:Nat):Bool:=decide (3<c.toNat/16)||(decide (c.toNat/16%2=0)&&decide (c.toNat%16≠0))||decide (64+(2-c.toNat/16%2)<2*n)
def Fa:List UInt8→Int
 | []=>5
 | c::r=>if u7 c (r.length+1) then 6 else 0
def wA:List UInt8→List UInt8
 | []=>[]
 | c::r=>if u7 c (r.length+1) then [] else (dD (c::r)).drop (2-c.toNat/16%2)
def BQ:List UInt8→Bool
 | []=>false
 | c::r=>if u7 c (r.length+1) then false else decide (2≤c.toNat/16)
theorem BR:∀ (a b:List UInt8),dD (a++b)=dD a++dD b
 | [],b=>rfl
 | x::r,b=>by simp only [List.cons_append,dD,BR r b]
theorem Fb {l:List UInt8} {i:Nat} (h:i<l.length):dD (l.take (i+1))=dD (l.take i)++[l.getD i 0/16,l.getD i 0%16]:=by
 rw [List.take_add_one,BR,List.getD_eq_getElem?_getD,List.getElem?_eq_getElem h]
 rfl
theorem Qx {c:UInt8} {r o:List UInt8} {i:Nat} (f:o=dD ((c::r).take i)) (hi:0<i):o.getD 0 0=c/16∧o.getD 1 0=c%16:=by
 obtain ⟨j,rfl⟩:∃ j,i=j+1:=⟨i-1,by omega⟩
 subst f
 exact ⟨rfl,rfl⟩
theorem qS (c:UInt8):(c/16).toNat=c.toNat/16:=by rw [UInt8.toNat_div];rfl
theorem pe (c:UInt8):(c%16).toNat=c.toNat%16:=by rw [UInt8.toNat_mod];rfl
theorem xl (c:UInt8) (n:Nat):u7 c n=true↔(3<c.toNat/16∨(c.toNat/16%2=0∧c.toNat%16≠0)∨64+(2-c.toNat/16%2)<2*n):=by
 simp [u7,or_assoc]
theorem u9 {p:List UInt8} (h:CF p=true):right p=true∧p.length≤64:=by simpa [CF] using h
theorem zh (p:List UInt8) (leaf:Bool):(eB p leaf).length=p.length/2+1:=by
 unfold eB
 split
 ·rw [rE,List.length_cons];omega
 ·rw [rE,List.length_cons,List.length_cons];omega
theorem AE {a b:UInt8} (ha:a.toNat<16) (hb:b.toNat<16):(a*16||| b)/16=a∧(a*16||| b)%16=b:=by
 rw [← DC hb]
 have e:(16*a+b).toNat=16*a.toNat+b.toNat:=by
  rw [UInt8.toNat_add,UInt8.toNat_mul]
  show (16*a.toNat%256+b.toNat)%256=_
  omega
 constructor
 ·apply UInt8.toNat_inj.1
  rw [qS,e];omega
 ·apply UInt8.toNat_inj.1
  rw [pe,e];omega
theorem HE (c:UInt8):(c/16*16||| c%16)=c:=by
 have h:(c%16).toNat<16:=by rw [pe];omega
 rw [← DC h]
 apply UInt8.toNat_inj.1
 rw [UInt8.toNat_add,UInt8.toNat_mul,qS,pe]
 have:=c.toNat_lt
 show (16*(c.toNat/16)%256+c.toNat%16)%256=_
 omega
theorem AF {x:UInt8} {r:List UInt8} (h:right (x::r)=true):x.toNat<16∧right r=true:=by
 rw [AD] at h
 simp at h
 exact ⟨by omega,h.2⟩
theorem va:∀ (q:List UInt8),q.length%2=0→right q=true→dD (fq q)=q
 | [],_,_=>rfl
 | [_],h,_=>by simp at h
 | a::b::r,h,hr=>by
  obtain ⟨h1,h2⟩:=AF hr
  obtain ⟨h3,h4⟩:=AF h2
  obtain ⟨e1,e2⟩:=AE h1 h3
  rw [fq,dD,e1,e2,va r (by simp at h;omega) h4]
theorem sk:∀ (k:List UInt8),fq (dD k)=k
 | []=>rfl
 | c::r=>by rw [dD,fq,HE,sk r]
theorem zi:∀ (k:List UInt8),right (dD k)=true
 | []=>rfl
 | c::r=>by
  have h1:(c/16).toNat<16:=by rw [qS];have:=c.toNat_lt;omega
  have h2:(c%16).toNat<16:=by rw [pe];omega
  rw [dD,AD,AD,zi r,decide_eq_false (by omega),decide_eq_false (by omega)]
  rfl
theorem Mp (m x:UInt8) (q:List UInt8) (hm:m.toNat<4) (ho:m.toNat%2=1) (hx:x.toNat<16) (hq:right q=true) (he:q.length%2=0) (hl:q.length<64):
  wA ((m*16||| x)::fq q)=x::q∧BQ ((m*16||| x)::fq q)=decide (2≤m.toNat)∧Fa ((m*16||| x)::fq q)=0:=by
 obtain ⟨e1,e2⟩:=AE (show m.toNat<16 by omega) hx
 have e3:=congrArg UInt8.toNat e1
 have e4:=congrArg UInt8.toNat e2
 rw [qS] at e3
 rw [pe] at e4
 have hb:u7 (m*16||| x) ((fq q).length+1)=false:=by
  rw [Bool.eq_false_iff,ne_eq,xl,e3,e4,rE]
  omega
 simp only [wA,BQ,Fa,hb,Bool.false_eq_true,if_false,e3,ho,dD,e1,e2,va q he hq,List.drop_succ_cons,List.drop_zero,and_true]
theorem Mq (m:UInt8) (q:List UInt8) (hm:m.toNat<4) (ho:m.toNat%2=0) (hq:right q=true) (he:q.length%2=0) (hl:q.length≤64):
  wA ((m*16||| 0)::fq q)=q∧BQ ((m*16||| 0)::fq q)=decide (2≤m.toNat)∧Fa ((m*16||| 0)::fq q)=0:=by
 obtain ⟨e1,e2⟩:=AE (show m.toNat<16 by omega) (show (0:UInt8).toNat<16 by decide)
 have e3:=congrArg UInt8.toNat e1
 have e4:=congrArg UInt8.toNat e2
 rw [qS] at e3
 rw [pe] at e4
 have e5:(0:UInt8).toNat=0:=rfl
 have hb:u7 (m*16||| 0) ((fq q).length+1)=false:=by
  rw [Bool.eq_false_iff,ne_eq,xl,e3,e4,rE,e5]
  omega
 simp only [wA,BQ,Fa,hb,Bool.false_eq_true,if_false,e3,ho,dD,e1,e2,va q he hq,Nat.sub_zero,List.drop_succ_cons,List.drop_zero,and_true]
theorem Jx {p:List UInt8} (h:CF p=true) (leaf:Bool):wA (eB p leaf)=p∧BQ (eB p leaf)=leaf∧Fa (eB p leaf)=0:=by
 obtain ⟨h1,h2⟩:=u9 h
 unfold eB
 split
 ·rename_i ho
  cases p with
  | nil=>simp at ho
  | cons x q=>
   obtain ⟨h3,h4⟩:=AF h1
   simp at ho h2
   cases leaf
   ·exact Mp 1 x q (by decide) (by decide) h3 h4 (by omega) (by omega)
   ·exact Mp 3 x q (by decide) (by decide) h3 h4 (by omega) (by omega)
 ·cases leaf
  ·exact Mq 0 p (by decide) (by decide) h1 (by omega) h2
  ·exact Mq 2 p (by decide) (by decide) h1 (by omega) h2
theorem Mr {p:List UInt8} (h:right p=true) (k:Nat):right (p.drop k)=true:=by
 unfold right at h ⊢
 simp only [Bool.not_eq_true',List.any_eq_false] at h ⊢
 exact fun x hx=>h x (List.mem_of_mem_drop hx)
end Go.Proofs.YtlfjfoknbjcncaaGreat.K
namespace Go.Proofs.YtlfjfoknbjcncaaGreat.K
open Go
set_option linter.unusedVariables false
set_option linter.unusedSimpArgs false
theorem OM (v:List UInt8) (f:UInt8→Option Bool) (p:UInt8→Bool) (hf:∀ y∈v,f y=some (p y)) (hv:v.length≤1000000000):fK v f=some (v.any p):=by
 have hq:∀ i,i<v.length→f (idx v (i:Int))=some (p (idx v (i:Int))):=fun i hi=>hf _ (e9 v hi)
 obtain ⟨r,hr,h⟩:=Comes.ex (step:=cX v f) (fun i=> .L1 (i:Int)) (fun i=>p (idx v (i:Int))) v.length (fun i=>(i:Int)) (-1) (by
   intro i hi h
   simp only [cX]
   rw [decide_eq_true (by omega),cond_true,ah (by omega),hq i hi,Option.bind_some,h,cond_false,ah (by unfold bw;omega)]
   rfl) (by
   intro i hi h
   simp only [cX]
   rw [decide_eq_true (by omega),cond_true,ah (by omega),hq i hi,Option.bind_some,h,cond_true]) (by
   refine Comes.stop ?_
   simp only [cX]
   rw [decide_eq_false (by omega),cond_false])
 have e:kE v f=some r:=cS (Comes.next rfl hr)
 unfold fK
 rw [e,Option.bind_some]
 congr 1
 rcases h with ⟨i,hi,h1,_,rfl⟩ | ⟨h1,rfl⟩
 ·rw [decide_eq_true (by omega)];exact (List.any_eq_true.2 ⟨_,e9 v hi,h1⟩).symm
 ·rw [decide_eq_false (by omega)];symm;rw [List.any_eq_false];intro x hx
  obtain ⟨i,hi,rfl⟩:=List.mem_iff_getElem.1 hx
  have:=h1 i hi
  rw [lW v hi] at this;simpa using this
theorem HF (v:List (List UInt8)) (f:List UInt8→Option Bool) (p:List UInt8→Bool) (hf:∀ y∈v,f y=some (p y)) (hv:v.length≤1000000000):∃ r,gL v f=some r∧((∃ i:Nat,r=(i:Int)∧i<v.length∧p (idx v (i:Int))=true∧∀ j,j<i→p (idx v (j:Int))=false)∨(r= -1∧∀ i,i<v.length→p (idx v (i:Int))=false)):=by
 have hq:∀ i,i<v.length→f (idx v (i:Int))=some (p (idx v (i:Int))):=fun i hi=>hf _ (e9 v hi)
 obtain ⟨r,hr,h⟩:=Comes.ex (step:=cI v f) (fun i=> .L1 (i:Int)) (fun i=>p (idx v (i:Int))) v.length (fun i=>(i:Int)) (-1) (by
   intro i hi h
   simp only [cI]
   rw [decide_eq_true (by omega),cond_true,ah (by omega),hq i hi,Option.bind_some,h,cond_false,ah (by unfold bw;omega)]
   rfl) (by
   intro i hi h
   simp only [cI]
   rw [decide_eq_true (by omega),cond_true,ah (by omega),hq i hi,Option.bind_some,h,cond_true]) (by
   refine Comes.stop ?_
   simp only [cI]
   rw [decide_eq_false (by omega),cond_false])
 refine ⟨r,cS (Comes.next rfl hr),?_⟩
 rcases h with ⟨i,hi,h1,h2,rfl⟩ | ⟨h1,rfl⟩
 ·exact .inl ⟨i,rfl,hi,h1,h2⟩
 ·exact .inr ⟨rfl,h1⟩
theorem Jy (p:List UInt8) (hp:p.length≤1000000000):pG p=some (right p):=by
 unfold pG
 rw [OM p _ (fun b=>decide (15<b.toNat)) (fun y _=>by
  simp only [oN]
  congr 1
  rw [Bool.eq_iff_iff];simp only [decide_eq_true_eq];omega) hp,Option.bind_some]
 rfl
theorem vh (a b:List UInt8) (ha:a.length≤1000000) (hb:b.length≤1000000):rm [a,b]=some (a++b):=by
 refine cS (Comes.next (c':= .L1 [] 0) rfl (Comes.next (c':= .L1 a 1) ?_ (Comes.next (c':= .L1 (a++b) 2) ?_ (Comes.stop ?_))))
 ·simp only [lP]
  rw [decide_eq_true (by simp),cond_true,ah (by simp),ah (by show (0+a.length)*1≤_;omega),ah (by unfold bw;omega)]
  rfl
 ·simp only [lP]
  rw [decide_eq_true (by simp),cond_true,ah (by simp),ah (by show (a.length+b.length)*1≤_;omega),ah (by unfold bw;omega)]
  rfl
 ·simp only [lP]
  rw [decide_eq_false (by simp),cond_false]
theorem XQ (a:UInt8):qC a 4=a*16:=by
 unfold qC
 apply UInt8.toNat_inj.1
 rw [show min (4:Int).toNat 8=4 from rfl,UInt8.toNat_ofNat',UInt8.toNat_mul]
 rfl
theorem Tb (a:UInt8):mU a 4=a/16:=by
 unfold mU
 apply UInt8.toNat_inj.1
 have:=a.toNat_lt
 rw [show min (4:Int).toNat 8=4 from rfl,UInt8.toNat_ofNat',UInt8.toNat_div,show (16:UInt8).toNat=16 from rfl]
 exact Nat.mod_eq_of_lt (by omega)
theorem Po (a:UInt8):a&&& 15=a%16:=by
 apply UInt8.toNat_inj.1
 rw [UInt8.toNat_and,UInt8.toNat_mod]
 exact Nat.and_two_pow_sub_one_eq_mod a.toNat 4
theorem Qy (p:List UInt8) (hp:p.length≤1000000):∀ (k i:Nat) (acc:List UInt8),p.length≤i+k→i≤p.length+1→acc.length≤i→Comes (jV p) (.L1 acc (i:Int)) (acc++fq (p.drop i)):=by
 intro k
 induction k with
 | zero=>
  intro i acc h h1 h2
  refine Comes.stop ?_
  simp only [jV]
  rw [ah (by unfold bw;omega),decide_eq_false (by omega),cond_false,xU (by rw [List.length_drop];omega),List.append_nil]
 | succ k ih=>
  intro i acc h h1 h2
  by_cases hi:i+1<p.length
  ·have:=ih (i+2) (acc++[(idx p (i:Int))*16||| idx p ((i+1:Nat):Int)]) (by omega) (by omega) (by simp;omega)
   rw [List.append_assoc] at this
   have e:fq (p.drop i)=[(idx p (i:Int))*16||| idx p ((i+1:Nat):Int)]++fq (p.drop (i+2)):=by
    rw [lI p (by omega:i<p.length),lI p hi];rfl
   rw [e]
   refine Comes.next ?_ this
   simp only [jV]
   rw [ah (by unfold bw;omega),decide_eq_true (by omega),cond_true,ah (by omega),ah (by unfold bw;omega),ah (by omega),ah (by simp only [List.length_singleton];omega),ah (by unfold bw;omega),XQ]
   rfl
  ·refine Comes.stop ?_
   simp only [jV]
   rw [ah (by unfold bw;omega),decide_eq_false (by omega),cond_false,xU (by rw [List.length_drop];omega),List.append_nil]
theorem Bb (p:List UInt8) (hp:p.length≤1000000):uY p=some (fq p):=by
 refine cS (Comes.next rfl ?_)
 have:=Qy p hp p.length 0 [] (by omega) (by omega) (by simp)
 simpa using this
theorem HG (n:Nat):decide ((n:Int).tmod 2=1)=decide (n%2=1):=by
 rw [Bool.eq_iff_iff];simp only [decide_eq_true_eq]
 rw [Int.tmod_eq_emod_of_nonneg (by omega)];omega
theorem HH {p:List UInt8} (h:CF p=true) (leaf:Bool):tU p leaf=some (eB p leaf,0):=by
 obtain ⟨h1,h2⟩:=u9 h
 unfold tU
 rw [Jy p (by omega),Option.bind_some,h1,decide_eq_false (by omega),HG]
 by_cases ho:p.length%2=1
 ·rw [decide_eq_true ho]
  unfold eB
  rw [if_pos ho]
  cases leaf
  ·simp only [Bool.not_true,Bool.or_self,cond_false,Option.bind_some,cond_true]
   rw [vh _ _ (by simp) (by omega),Option.bind_some,Bb _ (by simp;omega)]
   rfl
  ·simp only [Bool.not_true,Bool.or_self,cond_false,Option.bind_some,cond_true]
   rw [vh _ _ (by simp) (by omega),Option.bind_some,Bb _ (by simp;omega)]
   rfl
 ·rw [decide_eq_false ho]
  unfold eB
  rw [if_neg ho]
  cases leaf
  ·simp only [Bool.not_true,Bool.or_self,cond_false,Option.bind_some,cond_true]
   rw [vh _ _ (by simp) (by omega),Option.bind_some,Bb _ (by simp;omega)]
   rfl
  ·simp only [Bool.not_true,Bool.or_self,cond_false,Option.bind_some,cond_true]
   rw [vh _ _ (by simp) (by omega),Option.bind_some,Bb _ (by simp;omega)]
   rfl
theorem ON (s:List UInt8) (hs:s.length≤1000000):xG s=some (wA s,BQ s,Fa s):=by
 cases s with
 | nil=>exact cS (Comes.stop rfl)
 | cons c r=>
  refine cS (Comes.next (c':= .L1 0 []) rfl ?_)
  have hm:eY (((c::r).length:Nat):Int) 64=((min (c::r).length 64:Nat):Int):=by unfold eY;split<;>omega
  have h1:1≤min (c::r).length 64:=by simp only [List.length_cons];omega
  refine Comes.upto (step:=j8 (c::r)) (fun i=> .L1 (i:Int) (dD ((c::r).take i))) (min (c::r).length 64) ?_ ?_
  ·intro i hi
   have hi':i<(c::r).length:=by omega
   have hl:(dD ((c::r).take i)).length≤2*i:=by rw [qR,List.length_take];omega
   simp only [j8]
   rw [hm,decide_eq_true (by omega),cond_true,ah (by omega)]
   unfold qp
   rw [ah (by simp only [List.length_cons,List.length_nil];omega),Option.bind_some,ah (by unfold bw;omega),Tb,Po,Fb hi',gl]
   rfl
  ·have ho:(dD ((c::r).take (min (c::r).length 64))).length=2*min (c::r).length 64:=by
    rw [qR,List.length_take];omega
   obtain ⟨e0,e1⟩:=Qx (c:=c) (r:=r) (i:=min (c::r).length 64) rfl (by omega)
   generalize hO:dD ((c::r).take (min (c::r).length 64))=o at ho e0 e1
   have i0:idx o (0:Int)=c/16:=by rw [← e0];rfl
   have i1:idx o (1:Int)=c%16:=by rw [← e1];rfl
   have hc:=c.toNat_lt
   have m2:((c/16%2).toNat:Int)=((c.toNat/16%2:Nat):Int):=by rw [UInt8.toNat_mod,qS];rfl
   have hL:(c::r).length=r.length+1:=rfl
   refine Comes.stop ?_
   simp only [j8]
   rw [hm,decide_eq_false (by omega),cond_false,ah (by omega),i0,i1,m2,qS,pe,ah (by unfold bw;omega),ah (fun _=>by omega),ah (fun _=>by unfold bw;omega),ah (fun _=>by unfold bw;omega)]
   by_cases hb:u7 c (r.length+1)=true
   ·have hb':=(xl _ _).1 hb
    have:((decide ((3:Int)<((c.toNat/16:Nat):Int))||(decide (((c.toNat/16%2:Nat):Int)=0)&& !decide (((c.toNat%16:Nat):Int)=0)))||decide ((64:Int)<2*(((c::r).length:Nat):Int)-(2-((c.toNat/16%2:Nat):Int))))=true:=by
     simp only [Bool.or_eq_true,Bool.and_eq_true,Bool.not_eq_true',decide_eq_true_eq,decide_eq_false_iff_not];omega
    rw [this,cond_true]
    simp only [wA,BQ,Fa,hb,if_true]
   ·have hb':u7 c (r.length+1)=false:=by simpa using hb
    have RB:=mt (xl c (r.length+1)).2 hb
    have:((decide ((3:Int)<((c.toNat/16:Nat):Int))||(decide (((c.toNat/16%2:Nat):Int)=0)&& !decide (((c.toNat%16:Nat):Int)=0)))||decide ((64:Int)<2*(((c::r).length:Nat):Int)-(2-((c.toNat/16%2:Nat):Int))))=false:=by
     simp only [Bool.or_eq_false_iff,Bool.and_eq_false_iff,Bool.not_eq_false',decide_eq_true_eq,decide_eq_false_iff_not];omega
    rw [this,cond_false,ah (by omega)]
    have hn:(c::r).take (min (c::r).length 64)=c::r:=List.take_of_length_le (by omega)
    rw [hn] at hO
    subst hO
    have e2:(2:Int)-((c.toNat/16%2:Nat):Int)=((2-c.toNat/16%2:Nat):Int):=by omega
    rw [e2,nB]
    simp only [wA,BQ,Fa,hb',Bool.false_eq_true,if_false]
    congr 4
    rw [Bool.eq_iff_iff];simp only [decide_eq_true_eq];omega
theorem Jz (p:List UInt8) (leaf:Bool) (hr:right p=true) (hp:p.length≤64):∀ (k i:Nat) (acc:List UInt8),p.length=i+2*k→acc.length≤i+1→Comes (gj p leaf) (.L3 acc (i:Int)) (acc++fq (p.drop i)):=by
 intro k
 induction k with
 | zero=>
  intro i acc h h2
  refine Comes.stop ?_
  simp only [gj]
  rw [decide_eq_false (by omega),cond_false,xU (by rw [List.length_drop];omega),List.append_nil]
 | succ k ih=>
  intro i acc h h2
  have:=ih (i+2) (acc++[(idx p (i:Int))*16||| idx p ((i+1:Nat):Int)]) (by omega) (by simp;omega)
  rw [List.append_assoc] at this
  have e:fq (p.drop i)=[(idx p (i:Int))*16||| idx p ((i+1:Nat):Int)]++fq (p.drop (i+2)):=by
   rw [lI p (by omega:i<p.length),lI p (by omega:i+1<p.length)];rfl
  rw [e]
  refine Comes.next ?_ this
  have hlt:(idx p ((i+1:Nat):Int)).toNat<16:=by rw [gl];exact yx hr _
  simp only [gj]
  rw [decide_eq_true (by omega),cond_true,ah (by omega),ah (by unfold bw;omega),ah (by omega),ah (by simp only [List.length_singleton];omega),ah (by unfold bw;omega), ← DC hlt]
  rfl
theorem Bc {p:List UInt8} (h:CF p=true) (leaf:Bool):tB p leaf=some (eB p leaf):=by
 obtain ⟨h1,h2⟩:=u9 h
 have h0:(idx p (0:Int)).toNat<16:=yx h1 0
 have Kk:(p.getD 0 0).toNat<16:=yx h1 0
 have hg:idx p (0:Int)=p.getD 0 0:=rfl
 refine cS ?_
 by_cases ho:p.length%2=1
 ·have hL:=fun a=>Jz p leaf h1 h2 (p.length/2) 1 [a] (by omega) (by simp)
  cases leaf
  ·rw [Ev ho Kk]
   refine Comes.next ?_ (hL _)
   simp only [gj,cond_false,Option.bind_some]
   rw [HG,decide_eq_true ho,cond_true,ah (by unfold bw;omega),ah (by omega),ah (by unfold bw;omega),Option.bind_some,show (0:Int)+16+((idx p (0:Int)).toNat:Int)=((16+(p.getD 0 0).toNat:Nat):Int) by rw [hg];omega,wv]
   rw [show ((16:Int)+((p.getD 0 0).toNat:Int)).toNat=16+(p.getD 0 0).toNat by omega]
   rfl
  ·rw [FC ho Kk]
   refine Comes.next ?_ (hL _)
   simp only [gj,cond_true,Option.bind_some]
   rw [HG,decide_eq_true ho,cond_true,ah (by unfold bw;omega),ah (by omega),ah (by unfold bw;omega),Option.bind_some,show (32:Int)+16+((idx p (0:Int)).toNat:Int)=((48+(p.getD 0 0).toNat:Nat):Int) by rw [hg];omega,wv]
   rw [show ((48:Int)+((p.getD 0 0).toNat:Int)).toNat=48+(p.getD 0 0).toNat by omega]
   rfl
 ·have hL:=fun a=>Jz p leaf h1 h2 (p.length/2) 0 [a] (by omega) (by simp)
  cases leaf
  ·rw [DD (by omega)]
   refine Comes.next ?_ (hL _)
   simp only [gj,cond_false,Option.bind_some]
   rw [HG,decide_eq_false ho,cond_false,Option.bind_some]
   rfl
  ·rw [Eu (by omega)]
   refine Comes.next ?_ (hL _)
   simp only [gj,cond_true,Option.bind_some]
   rw [HG,decide_eq_false ho,cond_false,Option.bind_some]
   rfl
end Go.Proofs.YtlfjfoknbjcncaaGreat.K
namespace Go.Proofs.YtlfjfoknbjcncaaGreat.K
open Go
set_option linter.unusedVariables false
set_option linter.unusedSimpArgs false
theorem RT.mono:∀ {n m:Nat} {x:Item},RT n x→n≤m→RT m x
 | n+1,m+1,x,h,hm=>⟨h.1,h.2.1,fun y hy=>RT.mono (h.2.2 y hy) (by omega)⟩
 | n+1,0,x,h,hm=>by omega
theorem Bd (x:Item):1≤(cn x).length:=List.length_pos_iff.2 (HB x)
theorem HI:∀ (l:List Item) (y:Item),y∈l→(cn y).length≤(cC l).length
 | x::r,y,h=>by
  simp only [cC,List.length_append]
  rcases List.mem_cons.1 h with rfl | h
  ·omega
  ·have:=HI r y h;omega
theorem CG:∀ l:List Item,l.length≤(cC l).length
 | []=>Nat.le_refl _
 | x::r=>by have:=CG r;have:=Bd x;simp only [cC,List.length_append,List.length_cons];omega
theorem CH:∀ a b:List Item,cC (a++b)=cC a++cC b
 | [],b=>by simp [cC]
 | x::r,b=>by simp only [List.cons_append,cC,CH r b,List.append_assoc]
theorem wB (l:List Item):cn ⟨true,[],l⟩=hd true (cC l).length++cC l:=by rw [o9];simp
theorem FM {x:Item} (h:x.cF=true):cn x=hd true (cC x.fL).length++cC x.fL:=by rw [o9,if_neg (by simp [h])]
theorem Pp (l:Bool) (k:Nat):1≤(hd l k).length:=List.length_pos_iff.2 (HA l k)
theorem Be {x y:Item} (h:x.cF=true) (hy:y∈x.fL):(cn y).length<(cn x).length:=by
 rw [FM h,List.length_append]
 have:=HI _ _ hy;have:=Pp true (cC x.fL).length;omega
theorem Kw (x:Item) (h:x.cF=false):x.fS.length≤(cn x).length:=by
 rw [o9,if_pos h]
 split
 ·exact Nat.le_refl _
 ·simp
theorem JA:∀ l:List Item,(∀ y∈l,o8 y≤(cn y).length)→sj l≤(cC l).length
 | [],_=>Nat.le_refl _
 | x::r,h=>by
  have:=JA r fun y hy=>h y (List.mem_cons_of_mem _ hy)
  have:=h x (List.mem_cons_self ..)
  simp only [sj,cC,List.length_append];omega
theorem HJ:∀ (n:Nat) (x:Item),RT n x→o8 x≤(cn x).length
 | n+1,x,h=>by
  rw [wz]
  cases hx:x.cF with
  | false=>rw [h.1 hx];exact Bd x
  | true=>
   rw [FM hx,List.length_append]
   have:=JA x.fL fun y hy=>HJ n y (h.2.2 y hy)
   have:=Pp true (cC x.fL).length;omega
theorem Pq:∀ (n:Nat) (x:Item),RT n x→RT (cn x).length x
 | n+1,x,h=>by
  obtain ⟨j,hj⟩:∃ j,(cn x).length=j+1:=⟨(cn x).length-1,by have:=Bd x;omega⟩
  rw [hj]
  refine ⟨h.1,h.2.1,fun y hy=>?_⟩
  cases hx:x.cF with
  | false=>rw [h.1 hx] at hy;cases hy
  | true=>
   have:=Be hx hy
   exact (Pq n y (h.2.2 y hy)).mono (by omega)
theorem Pr:∀ (n:Nat) (x:Item),RT n x→(cn x).length≤2 ^ 32→VP n x
 | n+1,x,h,hl=>by
  cases hx:x.cF with
  | false=>
   have:=Kw x hx
   refine ⟨by rw [h.1 hx];simp,by omega,fun y hy=>?_⟩
   rw [h.1 hx] at hy;cases hy
  | true=>
   have:=CG x.fL
   have e:=FM hx
   have:(cC x.fL).length≤(cn x).length:=by rw [e,List.length_append];omega
   refine ⟨by omega,by rw [h.2.1 hx];simp,fun y hy=>Pr n y (h.2.2 y hy) (by have:=Be hx hy;omega)⟩
theorem zj {n:Nat} {x:Item} (h:RT n x) (hn:n≤65) (hl:(cn x).length≤4096):lR x=some (cn x,0):=
 VR x (Pr n x h (by omega)) h hn (by omega) (by have:=HJ n x h;omega)
theorem DF {n:Nat} {x:Item} (h:RT n x) (hn:n≤65) (hl:(cn x).length≤4096):ku (cn x)=some (x,0):=
 Qv x h hn (by omega) (by have:=HJ n x h;omega)
theorem Tc (f:Item→Option (List UInt8)) (x:Item) (hf:∀ y∈x.fL,f y=some (cn y)) (hl:(cC x.fL).length≤2 ^ 32):∀ (k i:Nat) (acc:List UInt8),k+i=x.fL.length→acc++cC (x.fL.drop i)=cC x.fL→
  Comes (jf f x) (.L1 acc (i:Int)) (hd true (cC x.fL).length++cC x.fL):=by
 have PE:=CG x.fL
 intro k
 induction k with
 | zero=>
  intro i acc h1 h2
  have e:acc=cC x.fL:=by rw [← h2,List.drop_eq_nil_of_le (by omega)];simp [cC]
  subst e
  have:=CD true (k:=(cC x.fL).length) hl
  refine Comes.stop ?_
  simp only [jf]
  rw [decide_eq_false (by omega),cond_false,A9 _ true (by omega),Option.bind_some,ah (by omega)]
 | succ k ih=>
  intro i acc h1 h2
  have hi:i<x.fL.length:=by omega
  rw [lI x.fL hi] at h2
  simp only [cC] at h2
  have hal:acc.length+(cn (idx x.fL (i:Int))).length≤2 ^ 32:=by
   have:=congrArg List.length h2
   simp only [List.length_append] at this
   omega
  refine Comes.next ?_ (ih (i+1) (acc++cn (idx x.fL (i:Int))) (by omega) (by rw [List.append_assoc];exact h2))
  simp only [jf]
  rw [decide_eq_true (by omega),cond_true,ah (by omega),hf _ (e9 x.fL hi),Option.bind_some,ah (by omega),ah (by unfold bw;omega)]
  rfl
theorem JB:∀ (n m:Nat) (x:Item),RT n x→n≤m→(cn x).length≤2 ^ 32→nw m x=some (cn x)
 | n+1,m+1,x,h,hm,hl=>by
  show xP (nw m) x=_
  refine cS ?_
  cases hx:x.cF with
  | true=>
   have e:=FM hx
   have h2:(cC x.fL).length≤2 ^ 32:=by rw [e,List.length_append] at hl;omega
   rw [e]
   refine Comes.next (c':= .L1 [] 0) ?_ (Tc _ x (fun y hy=>JB n m y (h.2.2 y hy) (by omega) (by have:=Be hx hy;omega)) h2 x.fL.length 0 [] (by omega) rfl)
   simp only [jf]
   rw [hx];rfl
  | false=>
   have hfl:=Kw x hx
   refine Comes.stop ?_
   simp only [jf]
   rw [hx,Bool.not_false,cond_true,ah (fun h=>by have:=of_decide_eq_true h;omega),o9,if_pos hx]
   by_cases h1:x.fS.length=1∧(x.fS.getD 0 0).toNat<128
   ·have CV:(idx x.fS (0:Int)).toNat<128:=h1.2
    rw [if_pos h1,decide_eq_true (by omega),decide_eq_true (by omega)]
    rfl
   ·rw [if_neg h1]
    have e:(decide ((x.fS.length:Int)=1)&&decide (((idx x.fS (0:Int)).toNat:Int)≤127))=false:=by
     rw [Bool.and_eq_false_iff,decide_eq_false_iff_not,decide_eq_false_iff_not]
     have hg:idx x.fS (0:Int)=x.fS.getD 0 0:=rfl
     rw [hg];omega
    have:=CD false (k:=x.fS.length) (by omega)
    rw [e,cond_false,A9 _ false (by omega),Option.bind_some,ah (by omega)]
theorem Td {n:Nat} {x:Item} (h:RT n x) (hl:(cn x).length≤2 ^ 32):zc x=some (cn x):=ni n fun m hm=>JB n m x h hm hl
end Go.Proofs.YtlfjfoknbjcncaaGreat.K
namespace Go.Proofs.YtlfjfoknbjcncaaGreat.K
open Go
set_option linter.unusedVariables false
set_option linter.unusedSimpArgs false
def wC (k:List UInt8):Bool:= !(k==[])
def yy (n:Node):Nat:=(n.aR.1.filter wC).length
theorem xo (n:Node):n.aR.1.length=16:=n.aR.2
theorem CI {α:Type} (p:α→Bool) (l:List α) (x:α):(l++[x]).filter p=l.filter p++(if p x=true then [x] else []):=by
 rw [List.filter_append,List.filter_cons,List.filter_nil]
theorem VT (f:List UInt8→Option Bool) (v:List (List UInt8)) (hf:∀ y∈v,f y=some (!(wC y))) (hv:v.length≤1000000):∀ (k i j:Nat) (c:List (List UInt8)),k+j=v.length→c.length=v.length→c.drop j=v.drop j→c.take i=(v.take j).filter wC→i<j→
  i≤v.length→Comes (cg f v) (.L1 (i:Int) (j:Int) c) (v.filter wC):=by
 intro k
 induction k with
 | zero=>
  intro i j c h1 h2 h3 h4 h5 h6
  have e:c.take i=v.filter wC:=by rw [h4,List.take_of_length_le (by omega)]
  refine Comes.stop ?_
  simp only [cg]
  rw [decide_eq_false (by omega),cond_false,ah (by omega),ah h2.symm,ah (by omega),ah (by rw [List.length_take];omega),Int.toNat_natCast,e]
 | succ k ih=>
  intro i j c h1 h2 h3 h4 h5 h6
  have hj:j<v.length:=by omega
  have Zs:j<c.length:=by omega
  have hx:idx c (j:Int)=idx v (j:Int):=by
   have:=h3
   rw [lI c Zs,lI v hj] at this
   exact (List.cons.inj this).1
  have hd:c.drop (j+1)=v.drop (j+1):=by
   have:=h3
   rw [lI c Zs,lI v hj] at this
   exact (List.cons.inj this).2
  have Zt:=hf _ (e9 v hj)
  cases hk:wC (idx v (j:Int)) with
  | true=>
   have hi:i<c.length:=by omega
   refine Comes.next (c':= .L1 ((i+1:Nat):Int) ((j+1:Nat):Int) (c.set i (idx v (j:Int)))) ?_ (ih (i+1) (j+1) _ (by omega) (by simp [h2]) ?_ ?_ (by omega) (by omega))
   ·simp only [cg]
    rw [decide_eq_true (by omega),cond_true,ah (by omega),ah (by omega),hx,Zt,Option.bind_some,hk,Bool.not_true,Bool.not_false,cond_true,ah (by omega),ah (by omega),ah (by unfold bw;omega),Option.bind_some]
    simp only
    rw [ah (by unfold bw;omega),Int.toNat_natCast]
    rfl
   ·rw [List.drop_set_of_lt (by omega),hd]
   ·have e1:(c.set i (idx v (j:Int))).take (i+1)=c.take i++[idx v (j:Int)]:=by
     rw [List.take_add_one,List.getElem?_set_self hi,List.take_set_of_le (Nat.le_refl _)];rfl
    rw [e1,h4,mm v hj,CI,if_pos hk]
  | false=>
   refine Comes.next (c':= .L1 (i:Int) ((j+1:Nat):Int) c) ?_ (ih i (j+1) _ (by omega) h2 hd ?_ (by omega) h6)
   ·simp only [cg]
    rw [decide_eq_true (by omega),cond_true,ah (by omega),ah (by omega),hx,Zt,Option.bind_some,hk,Bool.not_false,Bool.not_true,cond_false,Option.bind_some]
    simp only
    rw [ah (by unfold bw;omega)]
    rfl
   ·rw [h4,mm v hj,CI,if_neg (by rw [hk];simp),List.append_nil]
theorem VU (f:List UInt8→Option Bool) (v:List (List UInt8)) (hf:∀ y∈v,f y=some (!(wC y))) (hv:v.length≤1000000):jh f v=some (v.filter wC):=by
 obtain ⟨r,hr,h⟩:=HF v f (fun y=> !(wC y)) hf (by omega)
 refine cS ?_
 rcases h with ⟨i,rfl,hi,h1,h2⟩ | ⟨rfl,h1⟩
 ·have hall:(v.take i).filter wC=v.take i:=by
   rw [List.filter_eq_self]
   intro x hx
   obtain ⟨j,hj,rfl⟩:=List.mem_iff_getElem.1 hx
   have hj':j<i:=by rw [List.length_take] at hj;omega
   have:=h2 j hj'
   rw [lW v (by omega)] at this
   rw [List.getElem_take];simpa using this
  refine Comes.next (c':= .L1 (i:Int) ((i+1:Nat):Int) v) ?_ (VT f v hf hv (v.length-(i+1)) i (i+1) v (by omega) rfl rfl ?_ (by omega) (by omega))
  ·simp only [cg]
   rw [hr,Option.bind_some,decide_eq_false (by omega),cond_false,ah (by unfold bw;omega)]
   rfl
  ·have:wC (idx v (i:Int))=false:=by simpa using h1
   rw [mm v hi,CI,hall,if_neg (by rw [this];simp),List.append_nil]
 ·have hall:v.filter wC=v:=by
   rw [List.filter_eq_self]
   intro x hx
   obtain ⟨j,hj,rfl⟩:=List.mem_iff_getElem.1 hx
   have:=h1 j hj
   rw [lW v hj] at this
   simpa using this
  rw [hall]
  refine Comes.stop ?_
  simp only [cg]
  rw [hr,Option.bind_some]
  rfl
theorem Te (n:Node):rU n=some (n.aR.1.filter wC):=by
 have AG:=xo n
 unfold rU iS
 rw [ah (by omega),Option.bind_some,VU _ _ (fun y _=>by simp [oS,wC]) (by omega)]
 rfl
def oB (n:Node):Bool:=
 bif decide (n.bf=1) then ((!(n.az==[]))&&decide ((n.az.length:Int)≤65552))&&decide ((yy n:Int)=0)
 else bif decide (n.bf=2) then (((n.az==[])&&decide ((0:Int)<(n.av.length:Int)))&&decide ((yy n:Int)=1))&&(!(idx n.aR.1 (0:Int)==[]))
 else bif decide (n.bf=3) then ((n.az==[])&&decide ((n.av.length:Int)=0))&&decide ((1:Int)<(yy n:Int))
 else false
theorem Qz (n:Node):qd n=some (oB n):=by
 unfold qd oB
 rw [Te,Option.bind_some]
 show _=_
 cases decide (n.bf=1)<;>cases decide (n.bf=2)<;>cases decide (n.bf=3)<;>rfl
def xp (R:List UInt8→Bool) (n:Node):Bool:=(CF n.av&&n.aR.1.all R)&&oB n
theorem Ms {α:Type} (p:α→Bool):∀ l:List α,(l.any fun x=> !(p x))= !(l.all p)
 | []=>rfl
 | x::r=>by simp [Ms p r]
theorem Bf (self:List UInt8→Option Bool) (R:List UInt8→Bool) (n:Node) (hk:∀ k∈n.aR.1,self k=some (R k)) (hp:n.av.length≤1000000):oU self n=some (if xp R n=true then 0 else 2):=by
 have AG:=xo n
 have hR:=Jy n.av (by omega)
 obtain ⟨r,hr,h⟩:=HF n.aR.1 (fun y0=>ke self y0) (fun k=> !(R k)) (fun y hy=>by unfold ke;rw [hk y hy];rfl) (by omega)
 have hC:eU n.aR.1 (fun y0=>ke self y0)=some (!(n.aR.1.all R)):=by
  unfold eU
  rw [hr,Option.bind_some, ← Ms]
  congr 1
  rcases h with ⟨i,rfl,hi,h1,_⟩ | ⟨rfl,h1⟩
  ·rw [decide_eq_true (by omega)];exact (List.any_eq_true.2 ⟨_,e9 _ hi,h1⟩).symm
  ·rw [decide_eq_false (by omega)];symm;rw [List.any_eq_false];intro x hx
   obtain ⟨i,hi,rfl⟩:=List.mem_iff_getElem.1 hx
   have:=h1 i hi
   rw [lW _ hi] at this;simpa using this
 unfold oU xp CF
 rw [Qz,Option.bind_some,hR,hC]
 have hd:decide ((64:Int)<(n.av.length:Int))= !(decide (n.av.length≤64)):=by
  rw [Bool.eq_iff_iff];simp;omega
 rw [hd]
 cases oB n<;>cases right n.av<;>cases decide (n.av.length≤64)<;>cases n.aR.1.all R<;>rfl
end Go.Proofs.YtlfjfoknbjcncaaGreat.K
namespace Go.Proofs.YtlfjfoknbjcncaaGreat.K
open Go
set_option linter.unusedVariables false
set_option linter.unusedSimpArgs false
def iM (s:List UInt8):Item:=⟨false,s,[]⟩
theorem DG (s:List UInt8) (n:Nat):RT (n+1) (iM s):=by
 refine ⟨fun _=>rfl,fun h=>?_,fun y hy=>?_⟩
 ·exact absurd h (by simp [iM])
 ·exact absurd hy (by simp [iM])
theorem AH (s:List UInt8):cn (iM s)=if s.length=1∧(s.getD 0 0).toNat<128 then s else hd false s.length++s:=by
 rw [o9,if_pos (show (iM s).cF=false from rfl)];rfl
theorem yz {s:List UInt8} (h:s.length≤100000):(cn (iM s)).length≤s.length+6:=by
 have:=CD false (k:=s.length) (by omega)
 rw [AH]
 split
 ·omega
 ·rw [List.length_append];omega
theorem HK:cn (iM [])=[128]:=by rw [AH];rfl
theorem sn {s:List UInt8} (h:s.length≤100000):lG s=some (cn (iM s)):=by
 unfold lG
 have:=Td (DG s 0) (by have:=yz h;omega)
 rw [show (⟨false,s,[]⟩:Item)=iM s from rfl,this];rfl
noncomputable def Zu (k:List UInt8):Item:=((ku k).getD (noI,1)).1
noncomputable def eR (k:List UInt8):Item:=if k=[]∨k.length=32 then iM k else Zu k
def good (k:List UInt8):Prop:=k=[]∨k.length=32∨(k.length<32∧∃ x,RT 65 x∧cn x=k∧x.cF=true)
def qT (x:Item):List UInt8:=if x.cF=true then cn x else x.fS
theorem n4 {k:List UInt8} (h:good k):RT 64 (eR k)∧(cn (eR k)).length≤33∧mK k=some (eR k)∧qT (eR k)=k∧kB k=some (cn (eR k)):=by
 by_cases h0:k=[]∨k.length=32
 ·have e:eR k=iM k:=if_pos h0
  have hc:((k==[])||decide ((k.length:Int)=32))=true:=by
   rcases h0 with rfl | h0
   ·rfl
   ·rw [decide_eq_true (by omega),Bool.or_true]
  have hl:k.length≤32:=by
   rcases h0 with rfl | h0
   ·simp
   ·omega
  rw [e]
  refine ⟨DG k 63,?_,?_,rfl,?_⟩
  ·rcases h0 with rfl | h0
   ·rw [HK];simp
   ·rw [AH,if_neg (by omega),List.length_append,Ba,if_pos (by omega)];omega
  ·unfold mK;rw [hc,cond_true];rfl
  ·unfold kB;rw [hc,cond_true,sn (by omega)];rfl
 ·obtain ⟨XR,x,h1,h2,h3⟩:=(h.resolve_left fun e=>h0 (.inl e)).resolve_left fun e=>h0 (.inr e)
  have hw:ku k=some (x,0):=by rw [← h2];exact DF h1 (by omega) (by rw [h2];omega)
  have e:eR k=x:=by
   unfold eR Zu
   rw [if_neg h0,hw];rfl
  have hc:((k==[])||decide ((k.length:Int)=32))=false:=by
   rw [Bool.or_eq_false_iff]
   exact ⟨by rw [beq_eq_false_iff_ne];exact fun e=>h0 (.inl e),decide_eq_false (by omega)⟩
  rw [e]
  refine ⟨(Pq _ _ h1).mono (by rw [h2];omega),by rw [h2];omega,?_,by unfold qT;rw [if_pos h3,h2],?_⟩
  ·unfold mK;rw [hc,cond_false,hw];rfl
  ·unfold kB;rw [hc,cond_false,h2]
noncomputable def iN (n:Node):Item:=
 if n.bf=1 then ⟨true,[],[iM (eB n.av true),iM n.az]⟩
 else if n.bf=2 then ⟨true,[],[iM (eB n.av false),eR (idx n.aR.1 (0:Int))]⟩
 else ⟨true,[],n.aR.1.map eR++[iM []]⟩
theorem Ew {b:Nat}:∀ l:List Item,(∀ y∈l,(cn y).length≤b)→(cC l).length≤l.length*b
 | [],_=>by simp [cC]
 | x::r,h=>by
  have:=Ew r fun y hy=>h y (List.mem_cons_of_mem _ hy)
  have:=h x (List.mem_cons_self ..)
  simp only [cC,List.length_append,List.length_cons,Nat.succ_mul];omega
theorem Ex (n:Node) (hg:∀ k∈n.aR.1,good k) (hp:n.av.length≤64) (hv:n.az.length≤3000):RT 65 (iN n)∧(cn (iN n)).length≤700+n.az.length∧(iN n).cF=true:=by
 have AG:=xo n
 have hP:∀ b,(cn (iM (eB n.av b))).length≤39:=by
  intro b
  have:=yz (s:=eB n.av b) (by rw [zh];omega)
  rw [zh] at this;omega
 have hV:=yz (s:=n.az) (by omega)
 have XS:∀ k,k≤2 ^ 32→(hd true k).length≤6:=fun k h=>CD true h
 unfold iN
 split
 ·refine ⟨⟨fun h=>(by cases h),fun _=>rfl,fun y hy=>?_⟩,?_,rfl⟩
  ·simp only [List.mem_cons,List.not_mem_nil,or_false] at hy
   rcases hy with rfl | rfl<;>exact DG _ 63
  ·have e:(cC [iM (eB n.av true),iM n.az]).length=(cn (iM (eB n.av true))).length+(cn (iM n.az)).length:=by simp [cC]
   have:=hP true
   have:=XS (cC [iM (eB n.av true),iM n.az]).length (by omega)
   rw [wB,List.length_append];omega
 ·split
  ·have Tf:=n4 (hg _ (e9 n.aR.1 (i:=0) (by omega)))
   have Tf:RT 64 (eR (idx n.aR.1 (0:Int)))∧(cn (eR (idx n.aR.1 (0:Int)))).length≤33:=⟨Tf.1,Tf.2.1⟩
   refine ⟨⟨fun h=>(by cases h),fun _=>rfl,fun y hy=>?_⟩,?_,rfl⟩
   ·simp only [List.mem_cons,List.not_mem_nil,or_false] at hy
    rcases hy with rfl | rfl
    ·exact DG _ 63
    ·exact Tf.1
   ·have e:(cC [iM (eB n.av false),eR (idx n.aR.1 (0:Int))]).length=(cn (iM (eB n.av false))).length+(cn (eR (idx n.aR.1 (0:Int)))).length:=by simp [cC]
    have:=hP false
    have:=Tf.2
    have:=XS (cC [iM (eB n.av false),eR (idx n.aR.1 (0:Int))]).length (by omega)
    rw [wB,List.length_append];omega
  ·have hall:∀ y∈n.aR.1.map eR++[iM []],RT 64 y∧(cn y).length≤33:=by
    intro y hy
    rcases List.mem_append.1 hy with hy | hy
    ·obtain ⟨k,hk,rfl⟩:=List.mem_map.1 hy
     have:=n4 (hg k hk)
     exact ⟨this.1,this.2.1⟩
    ·rw [List.mem_singleton] at hy;subst hy
     exact ⟨DG _ 63,by rw [HK];simp⟩
   refine ⟨⟨fun h=>(by cases h),fun _=>rfl,fun y hy=>(hall y hy).1⟩,?_,rfl⟩
   have:=Ew _ fun y hy=>(hall y hy).2
   have hlen:(n.aR.1.map eR++[iM []]).length=17:=by simp [AG]
   rw [hlen] at this
   have:=XS (cC (n.aR.1.map eR++[iM []])).length (by omega)
   rw [wB,List.length_append];omega
theorem HL (l:List Item) (h:l.length≤1000000):oO l=some ⟨true,[],l⟩:=by
 unfold oO
 rw [ah (by simp only [List.length_nil];omega)];rfl
theorem CJ {R:List UInt8→Bool} {n:Node} (h:xp R n=true):CF n.av=true∧(∀ k∈n.aR.1,R k=true)∧oB n=true:=by
 unfold xp at h
 rw [Bool.and_eq_true,Bool.and_eq_true] at h
 exact ⟨h.1.1,fun k hk=>List.all_eq_true.1 h.1.2 k hk,h.2⟩
theorem Fc {n:Node} (h:oB n=true):n.bf=1∨n.bf=2∨n.bf=3:=by
 unfold oB at h
 by_cases h1:n.bf=1
 ·exact .inl h1
 ·by_cases h2:n.bf=2
  ·exact .inr (.inl h2)
  ·by_cases h3:n.bf=3
   ·exact .inr (.inr h3)
   ·rw [decide_eq_false h1,decide_eq_false h2,decide_eq_false h3] at h;cases h
theorem VV (self:List UInt8→Option Bool) (n:Node) (hg:∀ k∈n.aR.1,good k) (hN:RT 65 (⟨true,[],n.aR.1.map eR++[iM []]⟩:Item)) (hl:(cn (⟨true,[],n.aR.1.map eR++[iM []]⟩:Item)).length≤4096):
  Comes (gH self n) (.L1 [] 0) (cn (⟨true,[],n.aR.1.map eR++[iM []]⟩:Item),0):=by
 have AG:=xo n
 refine Comes.upto (step:=gH self n) (fun i=> .L1 ((n.aR.1.map eR).take i) (i:Int)) 16 ?_ ?_
 ·intro i hi
  have hi':i<n.aR.1.length:=by omega
  have Tg:i<(n.aR.1.map eR).length:=by rw [List.length_map];omega
  have e:idx (n.aR.1.map eR) (i:Int)=eR (idx n.aR.1 (i:Int)):=by rw [lW _ Tg,lW _ hi',List.getElem_map]
  simp only [gH]
  rw [decide_eq_true (by omega),cond_true,ah (by omega),(n4 (hg _ (e9 _ hi'))).2.2.1,Option.bind_some,ah (by rw [List.length_take];simp only [List.length_singleton];omega),ah (by unfold bw;omega),mm _ Tg,e]
  rfl
 ·refine Comes.stop ?_
  simp only [gH]
  rw [decide_eq_false (by omega),cond_false,List.take_of_length_le (by rw [List.length_map];omega)]
  simp only [iR,Option.bind_some]
  rw [ah (by rw [List.length_map];simp only [List.length_singleton];omega),HL _ (by simp;omega),Option.bind_some,show (⟨false,[],[]⟩:Item)=iM [] from rfl,zj hN (by omega) hl]
  rfl
theorem Mt (self:List UInt8→Option Bool) (R:List UInt8→Bool) (n:Node) (hk:∀ k∈n.aR.1,self k=some (R k)) (hg:∀ k∈n.aR.1,R k=true→good k) (hp:n.av.length≤1000000) (hv:n.az.length≤3000):
  uZ self n=some (if xp R n=true then (cn (iN n),0) else ([],2)):=by
 have AG:=xo n
 refine cS ?_
 by_cases hc:xp R n=true
 ·obtain ⟨c1,c2,c3⟩:=CJ hc
  have XT:∀ k∈n.aR.1,good k:=fun k h=>hg k h (c2 k h)
  obtain ⟨r1,r2,r3⟩:=Ex n XT (u9 c1).2 hv
  rw [if_pos hc]
  by_cases h1:n.bf=1
  ·have e:iN n=⟨true,[],[iM (eB n.av true),iM n.az]⟩:=if_pos h1
   refine Comes.stop ?_
   simp only [gH]
   rw [Bf self R n hk hp,if_pos hc,Option.bind_some,show (!decide ((0:Int)=0))=false from rfl,cond_false,decide_eq_true h1,HH c1,Option.bind_some,cond_true]
   simp only [iR,Option.bind_some]
   rw [HL _ (by simp),Option.bind_some]
   show (lR ⟨true,[],[iM (eB n.av true),iM n.az]⟩).bind _=_
   rw [← e,zj r1 (by omega) (by omega)]
   rfl
  ·by_cases h2:n.bf=2
   ·have e:iN n=⟨true,[],[iM (eB n.av false),eR (idx n.aR.1 (0:Int))]⟩:=by unfold iN;rw [if_neg h1,if_pos h2]
    have hi:=n4 (XT _ (e9 n.aR.1 (i:=0) (by omega)))
    refine Comes.stop ?_
    simp only [gH]
    rw [Bf self R n hk hp,if_pos hc,Option.bind_some,show (!decide ((0:Int)=0))=false from rfl,cond_false,decide_eq_false h1,HH c1,Option.bind_some,cond_false,decide_eq_true h2,cond_true]
    simp only [iR,Option.bind_some]
    rw [show mK (idx n.aR.1 (0:Int))=some (eR (idx n.aR.1 (0:Int))) from hi.2.2.1,Option.bind_some,HL _ (by simp),Option.bind_some]
    show (lR ⟨true,[],[iM (eB n.av false),eR (idx n.aR.1 (0:Int))]⟩).bind _=_
    rw [← e,zj r1 (by omega) (by omega)]
    rfl
   ·have e:iN n=⟨true,[],n.aR.1.map eR++[iM []]⟩:=by unfold iN;rw [if_neg h1,if_neg h2]
    rw [e] at r1 r2 ⊢
    refine Comes.next (c':= .L1 [] 0) ?_ (VV self n XT r1 (by omega))
    simp only [gH]
    rw [Bf self R n hk hp,if_pos hc,Option.bind_some,show (!decide ((0:Int)=0))=false from rfl,cond_false,decide_eq_false h1,HH c1,Option.bind_some,cond_false,decide_eq_false h2,cond_false]
 ·rw [if_neg hc]
  refine Comes.stop ?_
  simp only [gH]
  rw [Bf self R n hk hp,if_neg hc,Option.bind_some]
  rfl
theorem QA (R:List UInt8→Bool) (n:Node) (hc:xp R n=true) (hg:∀ k∈n.aR.1,good k) (hv:n.az.length≤3000):pK n=some (cn (iN n)):=by
 have AG:=xo n
 obtain ⟨c1,c2,c3⟩:=CJ hc
 obtain ⟨r1,r2,r3⟩:=Ex n hg (u9 c1).2 hv
 have Kx:∀ b,(eB n.av b).length≤33:=by intro b;rw [zh];have:=(u9 c1).2;omega
 have hJ:∀ l:List Item,iN n=⟨true,[],l⟩→Comes (cN n) (.J3 (cC l)) (cn (iN n)):=by
  intro l e
  rw [e,wB,List.length_append] at r2
  refine Comes.stop ?_
  simp only [cN]
  rw [A9 _ true (by omega),Option.bind_some,ah (by omega),e,wB]
 refine cS ?_
 by_cases h1:n.bf=1
 ·have e:iN n=⟨true,[],[iM (eB n.av true),iM n.az]⟩:=if_pos h1
  have:=yz (s:=eB n.av true) (by have:=Kx true;omega)
  have:=yz (s:=n.az) (by omega)
  have:=Kx true
  have ei:cC [iM (eB n.av true),iM n.az]=cn (iM (eB n.av true))++cn (iM n.az):=by simp [cC]
  refine Comes.next ?_ (hJ _ e)
  simp only [cN]
  rw [decide_eq_true h1,cond_true,Bc c1,Option.bind_some,sn (by omega),Option.bind_some,sn (by omega),Option.bind_some,ah (by omega),Option.bind_some,decide_eq_false (by omega),cond_false,Option.bind_some,decide_eq_false (by omega),cond_false,ei]
 ·by_cases h2:n.bf=2
  ·have e:iN n=⟨true,[],[iM (eB n.av false),eR (idx n.aR.1 (0:Int))]⟩:=by unfold iN;rw [if_neg h1,if_pos h2]
   have hi:=n4 (hg _ (e9 n.aR.1 (i:=0) (by omega)))
   have hi2:(cn (eR (idx n.aR.1 (0:Int)))).length≤33:=hi.2.1
   have:=yz (s:=eB n.av false) (by have:=Kx false;omega)
   have:=Kx false
   have ei:cC [iM (eB n.av false),eR (idx n.aR.1 (0:Int))]=cn (iM (eB n.av false))++cn (eR (idx n.aR.1 (0:Int))):=by simp [cC]
   refine Comes.next ?_ (hJ _ e)
   simp only [cN]
   rw [decide_eq_false h1,cond_false,Option.bind_some,decide_eq_true h2,cond_true,Bc c1,Option.bind_some,sn (by omega),Option.bind_some,show kB (idx n.aR.1 (0:Int))=some (cn (eR (idx n.aR.1 (0:Int)))) from hi.2.2.2.2,Option.bind_some,ah (by omega),Option.bind_some,decide_eq_false (by omega),cond_false,ei]
  ·have h3:n.bf=3:=((Fc c3).resolve_left h1).resolve_left h2
   have e:iN n=⟨true,[],n.aR.1.map eR++[iM []]⟩:=by unfold iN;rw [if_neg h1,if_neg h2]
   have ei:cC (n.aR.1.map eR++[iM []])=cC (n.aR.1.map eR)++[128]:=by
    rw [CH];simp only [cC,HK,List.append_nil]
   have hlen:∀ i,(cC ((n.aR.1.map eR).take i)).length≤16*33:=by
    intro i
    have:=Ew (b:=33) ((n.aR.1.map eR).take i) (fun y hy=>by
     obtain ⟨k,hk,rfl⟩:=List.mem_map.1 (List.mem_of_mem_take hy)
     exact (n4 (hg k hk)).2.1)
    have h2:((n.aR.1.map eR).take i).length≤16:=by rw [List.length_take,List.length_map];omega
    exact Nat.le_trans this (Nat.mul_le_mul_right 33 h2)
   refine Comes.next (c':= .L4 [] 0) ?_ ?_
   ·simp only [cN]
    rw [decide_eq_false h1,cond_false,Option.bind_some,decide_eq_false h2,cond_false,Option.bind_some,decide_eq_true h3,cond_true]
   ·refine Comes.upto (step:=cN n) (fun i=> .L4 (cC ((n.aR.1.map eR).take i)) (i:Int)) 16 ?_ ?_
    ·intro i hi
     have hi':i<n.aR.1.length:=by omega
     have Tg:i<(n.aR.1.map eR).length:=by rw [List.length_map];omega
     have ex:idx (n.aR.1.map eR) (i:Int)=eR (idx n.aR.1 (i:Int)):=by rw [lW _ Tg,lW _ hi',List.getElem_map]
     have hi:=n4 (hg _ (e9 _ hi'))
     have:=hlen i
     have:=hi.2.1
     simp only [cN]
     rw [decide_eq_true (by omega),cond_true,ah (by omega),hi.2.2.2.2,Option.bind_some,ah (by omega),ah (by unfold bw;omega),mm _ Tg,ex,CH]
     simp only [cC,List.append_nil]
     rfl
    ·have:=hlen 16
     refine Comes.next ?_ (hJ _ e)
     simp only [cN]
     rw [decide_eq_false (by omega),cond_false,ah (by simp only [List.length_singleton];omega),List.take_of_length_le (by rw [List.length_map];omega),ei]
end Go.Proofs.YtlfjfoknbjcncaaGreat.K
namespace Go.Proofs.YtlfjfoknbjcncaaGreat.K
open Go
set_option linter.unusedVariables false
set_option linter.unusedSimpArgs false
set_option linter.unusedSectionVars false
def Ky:Node:=⟨0,[],[],aE.rep 16 []⟩
def K1 (k:List UInt8):aE 16 (List UInt8):=(aE.rep 16 []).put 0 k
def zk (a b:Item):Node:=if BQ a.fS=true then ⟨1,wA a.fS,b.fS,aE.rep 16 []⟩ else ⟨2,wA a.fS,[],K1 (qT b)⟩
def yA (l:List Item):Nat→aE 16 (List UInt8)
 | 0=>aE.rep 16 []
 | i+1=>(yA l i).put (i:Int) (qT (idx l (i:Int)))
theorem HN (l:List Item):∀ i,i≤16→i≤l.length→(yA l i).1.take i=(l.take i).map qT
 | 0,_,_=>by simp
 | i+1,h,h2=>by
  have hi:i<(yA l i).1.length:=by rw [(yA l i).2];omega
  show ((yA l i).1.set (i:Int).toNat (qT (idx l (i:Int)))).take (i+1)=_
  rw [Int.toNat_natCast,List.take_add_one,List.getElem?_set_self hi,List.take_set_of_le (Nat.le_refl _),HN l i (by omega) (by omega),mm l (by omega),List.map_append]
  rfl
theorem JC (l:List Item) (h:16≤l.length):(yA l 16).1=(l.take 16).map qT:=by
 have:=HN l 16 (Nat.le_refl _) h
 rwa [List.take_of_length_le (by rw [(yA l 16).2];exact Nat.le_refl _)] at this
def fX (x:Item):Node:=
 if x.fL.length=2 then zk (idx x.fL (0:Int)) (idx x.fL (1:Int))
 else if x.fL.length=17 then ⟨3,[],[],yA x.fL 16⟩
 else Ky
theorem Th (p v:List UInt8) (h:p.length≤1000000):rR p v=some ⟨1,p,v,aE.rep 16 []⟩:=by
 unfold rR cW
 rw [ah (by simp only [List.length_nil];omega),Option.bind_some];rfl
theorem VW (p k:List UInt8) (h:p.length≤1000000):tW p k=some ⟨2,p,[],K1 k⟩:=by
 unfold tW cW
 rw [ah (by simp only [List.length_nil];omega),Option.bind_some];rfl
theorem BS {n:Nat} {y:Item} (h:RT n y) (hn:n≤65) (hl:(cn y).length≤4096):kR y=some (qT y):=by
 unfold kR qT
 cases hy:y.cF with
 | false=>rfl
 | true=>
  rw [Bool.not_true,cond_false,zj h hn hl];rfl
theorem JE (s:List UInt8):(wA s).length≤2*s.length:=by
 cases s with
 | nil=>simp [wA]
 | cons c r=>
  simp only [wA]
  split
  ·simp
  ·rw [List.length_drop,qR];omega
theorem Ti {n:Nat} (a:Item) {b:Item} (ha:a.fS.length≤100000) (h:RT n b) (hn:n≤65) (hl:(cn b).length≤4096):rS a b=some (zk a b):=by
 have:=JE a.fS
 unfold rS zk
 rw [ON _ (by omega),Option.bind_some]
 cases hu:BQ a.fS with
 | true=>
  simp only [cond_true,if_true]
  rw [Th _ _ (by omega)];rfl
 | false=>
  simp only [cond_false,Bool.false_eq_true,if_false]
  rw [BS h hn hl,Option.bind_some,VW _ _ (by omega)];rfl
section
variable {x:Item} {s:List UInt8} (hx:RT 65 x) (he:cn x=s)
include hx he
theorem Tj (h:x.fL≠[]):x.cF=true:=by
 cases hh:x.cF with
 | true=>rfl
 | false=>exact absurd (hx.1 hh) h
theorem Bg {y:Item} (hy:y∈x.fL):RT 64 y∧(cn y).length<s.length∧(qT y).length<s.length∧y.fS.length<s.length:=by
 have hL:=Tj hx he (by intro e;rw [e] at hy;cases hy)
 have h1:=Be hL hy
 rw [he] at h1
 have hR:RT 64 y:=hx.2.2 y hy
 have h2:y.fS.length≤(cn y).length:=by
  cases hh:y.cF with
  | false=>exact Kw y hh
  | true=>rw [hR.2.1 hh];simp
 refine ⟨hR,h1,?_,by omega⟩
 unfold qT
 split<;>omega
theorem Mu:(∀ k∈(fX x).aR.1,k.length<s.length)∧(fX x).av.length≤2*s.length∧(fX x).az.length≤s.length:=by
 have hs:0<s.length:=by rw [← he];exact Bd x
 have rep:∀ k∈(aE.rep 16 ([]:List UInt8)).1,k.length<s.length:=by
  intro k hk
  have:k=[]:=List.eq_of_mem_replicate hk
  subst this;exact hs
 unfold fX
 split
 ·rename_i h
  have ha:=Bg hx he (e9 x.fL (i:=0) (by omega))
  have hb:=Bg hx he (e9 x.fL (i:=1) (by omega))
  have hp:=JE (idx x.fL (0:Int)).fS
  have ha3:(idx x.fL (0:Int)).fS.length<s.length:=ha.2.2.2
  have hb3:(idx x.fL (1:Int)).fS.length<s.length:=hb.2.2.2
  have RB:(qT (idx x.fL (1:Int))).length<s.length:=hb.2.2.1
  unfold zk
  split
  ·exact ⟨rep,by show (wA (idx x.fL (0:Int)).fS).length≤_;omega,Nat.le_of_lt hb3⟩
  ·refine ⟨fun k hk=>?_,by show (wA (idx x.fL (0:Int)).fS).length≤_;omega,Nat.zero_le _⟩
   rcases List.mem_or_eq_of_mem_set hk with hk | rfl
   ·exact rep k hk
   ·exact RB
 ·split
  ·rename_i h
   refine ⟨fun k hk=>?_,Nat.zero_le _,Nat.zero_le _⟩
   have hk:k∈(yA x.fL 16).1:=hk
   rw [JC _ (by omega)] at hk
   obtain ⟨y,hy,rfl⟩:=List.mem_map.1 hk
   exact (Bg hx he (List.mem_of_mem_take hy)).2.2.1
  ·exact ⟨rep,Nat.zero_le _,Nat.zero_le _⟩
end
open Classical in
noncomputable def Tk (R:List UInt8→Bool) (s:List UInt8) (x:Item):Bool:=decide (xp R (fX x)=true∧cn (iN (fX x))=s)
theorem HP {R:List UInt8→Bool} {s:List UInt8} {x:Item}:Tk R s x=true↔(xp R (fX x)=true∧cn (iN (fX x))=s):=by unfold Tk;exact decide_eq_true_iff
theorem Pt {R:List UInt8→Bool} {s:List UInt8} {x:Item} (h:¬ (xp R (fX x)=true∧cn (iN (fX x))=s)):Tk R s x=false:=by
 rw [Bool.eq_false_iff,ne_eq,HP];exact h
section
variable {x:Item} {s:List UInt8} (hx:RT 65 x) (he:cn x=s) (hl:s.length≤1500) {self:List UInt8→Option Bool} {R:List UInt8→Bool}
 (fQ:∀ k∈(fX x).aR.1,self k=some (R k)) (mR:∀ k∈(fX x).aR.1,R k=true→good k)
include hx he hl fQ mR
theorem Tl:Comes (fM self s) (.J1 (fX x).bf (fX x).av (fX x).az (fX x).aR) (if Tk R s x=true then (fX x,0) else (Ky,6)):=by
 obtain ⟨k1,k2,k3⟩:=Mu hx he
 have hP:=Mt self R (fX x) fQ mR (by omega) (by omega)
 refine Comes.stop ?_
 simp only [fM]
 rw [show (⟨(fX x).bf,(fX x).av,(fX x).az,(fX x).aR⟩:Node)=fX x from rfl,hP,Option.bind_some]
 by_cases hc:xp R (fX x)=true
 ·rw [if_pos hc]
  by_cases hb:cn (iN (fX x))=s
  ·rw [if_pos (HP.2 ⟨hc,hb⟩)]
   simp only [hb,beq_self_eq_true,Bool.not_true,decide_true,Bool.or_self,cond_false]
  ·rw [if_neg (by rw [Pt (fun h=>hb h.2)];simp)]
   have:(cn (iN (fX x))==s)=false:=by rw [beq_eq_false_iff_ne];exact hb
   simp only [this,Bool.not_false,Bool.or_true,cond_true]
   rfl
 ·rw [if_neg hc,if_neg (by rw [Pt (fun h=>hc h.1)];simp)]
  rfl
theorem Tm (hw:ku s=some (x,0)):rW self s=some (if Tk R s x=true then (fX x,0) else (Ky,6)):=by
 have hJ:=Tl hx he hl fQ mR
 refine cS ?_
 by_cases h2:x.fL.length=2
 ·have ha:RT 64 (idx x.fL (0:Int))∧(cn (idx x.fL (0:Int))).length<s.length∧(qT (idx x.fL (0:Int))).length<s.length∧(idx x.fL (0:Int)).fS.length<s.length:=Bg hx he (e9 x.fL (i:=0) (by omega))
  have hb:RT 64 (idx x.fL (1:Int))∧(cn (idx x.fL (1:Int))).length<s.length∧(qT (idx x.fL (1:Int))).length<s.length∧(idx x.fL (1:Int)).fS.length<s.length:=Bg hx he (e9 x.fL (i:=1) (by omega))
  have e:fX x=zk (idx x.fL (0:Int)) (idx x.fL (1:Int)):=if_pos h2
  refine Comes.next ?_ hJ
  simp only [fM,hw,Option.bind_some,decide_true,Bool.not_true,cond_false]
  rw [decide_eq_true (by omega),cond_true,ah (by omega),ah (by omega)]
  have:=Ti (n:=64) (idx x.fL (0:Int)) (b:=idx x.fL (1:Int)) (by have:=ha.2.2.2;omega) hb.1 (by omega) (by have:=hb.2.1;omega)
  rw [this,Option.bind_some,e]
 ·by_cases Zw:x.fL.length=17
  ·have e:fX x=⟨3,[],[],yA x.fL 16⟩:=by unfold fX;rw [if_neg h2,if_pos Zw]
   rw [e] at hJ
   refine Comes.next (c':= .L2 0 x.cF x.fS x.fL (aE.rep 16 [])) ?_ ?_
   ·simp only [fM,hw,Option.bind_some,decide_true,Bool.not_true,cond_false]
    rw [decide_eq_false (by omega),cond_false,decide_eq_true (by omega),cond_true]
   ·rw [e]
    refine Comes.upto (step:=fM self s) (fun i=> .L2 (i:Int) x.cF x.fS x.fL (yA x.fL i)) 16 ?_ ?_
    ·intro i hi
     have hk:=Bg hx he (e9 x.fL (i:=i) (by omega))
     simp only [fM]
     rw [decide_eq_true (by omega),cond_true,ah (by omega),BS hk.1 (by omega) (by have:=hk.2.1;omega),Option.bind_some,ah (by omega),ah (by unfold bw;omega)]
     rfl
    ·refine Comes.next ?_ hJ
     simp only [fM]
     rw [decide_eq_false (by omega),cond_false]
     rfl
  ·have e:fX x=Ky:=by unfold fX;rw [if_neg h2,if_neg Zw]
   rw [e] at hJ
   rw [e]
   refine Comes.next ?_ hJ
   simp only [fM,hw,Option.bind_some,decide_true,Bool.not_true,cond_false]
   rw [decide_eq_false (by omega),cond_false,decide_eq_false (by omega),cond_false]
   rfl
end
theorem Tn {s:List UInt8} (h0:¬ (s=[]∨s.length=32)):((s==[])||decide ((s.length:Int)=32))=false:=by
 rw [Bool.or_eq_false_iff]
 exact ⟨by rw [beq_eq_false_iff_ne];exact fun e=>h0 (.inl e),decide_eq_false (by omega)⟩
theorem Kz {s:List UInt8} (h0:s=[]∨s.length=32):((s==[])||decide ((s.length:Int)=32))=true:=by
 rcases h0 with rfl | h
 ·rfl
 ·rw [decide_eq_true (by omega),Bool.or_true]
theorem QB {s:List UInt8} (self:List UInt8→Option Bool) {n:Node} {e:Int} {b:Bool} (h0:¬ (s=[]∨s.length=32)) (h:rW self s=some (n,e)) (hb:(decide ((s.length:Int)<32)&&decide (e=0))=b):eP self s=some b:=by
 unfold eP
 rw [Tn h0,cond_false,h,Option.bind_some, ← hb]
theorem XU {n:Node} (h:yy n=0):n.aR=aE.rep 16 []:=by
 apply Subtype.ext
 show n.aR.1=List.replicate 16 []
 rw [List.eq_replicate_iff]
 refine ⟨n.aR.2,fun k hk=>?_⟩
 have h2:=List.length_eq_zero_iff.1 h
 rw [List.filter_eq_nil_iff] at h2
 have:=h2 k hk
 simpa [wC] using this
theorem XV {n:Node} (h:yy n=1) (h0:idx n.aR.1 (0:Int)≠[]):n.aR=K1 (idx n.aR.1 (0:Int)):=by
 apply Subtype.ext
 have AG:=xo n
 obtain ⟨a,r,e⟩:∃ a r,n.aR.1=a::r:=by
  cases hh:n.aR.1 with
  | nil=>rw [hh] at AG;cases AG
  | cons a r=>exact ⟨a,r,rfl⟩
 unfold yy at h
 rw [e] at h h0 AG ⊢
 have ha:idx (a::r) (0:Int)=a:=rfl
 rw [ha] at h0 ⊢
 have hne:wC a=true:=by simpa [wC] using h0
 rw [List.filter_cons,if_pos hne,List.length_cons] at h
 have h2:=List.length_eq_zero_iff.1 (by omega:(r.filter wC).length=0)
 rw [List.filter_eq_nil_iff] at h2
 have hr:r=List.replicate 15 []:=by
  rw [List.eq_replicate_iff]
  refine ⟨by simpa using AG,fun k hk=>?_⟩
  have:=h2 k hk
  simpa [wC] using this
 rw [hr];rfl
theorem IB {R:List UInt8→Bool} {n:Node} (hc:xp R n=true) (hg:∀ k∈n.aR.1,good k):fX (iN n)=n:=by
 have AG:=xo n
 obtain ⟨c1,c2,c3⟩:=CJ hc
 obtain ⟨kind,path,value,kids⟩:=n
 rcases Fc c3 with h | h | h
 ·simp only at h
  subst h
  have e:iN ⟨1,path,value,kids⟩=⟨true,[],[iM (eB path true),iM value]⟩:=by unfold iN;rw [if_pos rfl]
  have hs:yy ⟨1,path,value,kids⟩=0:=by
   simp only [oB,decide_true,cond_true,Bool.and_eq_true,decide_eq_true_eq] at c3
   omega
  have hk:kids=aE.rep 16 []:=XU hs
  obtain ⟨p1,p2,_⟩:=Jx c1 true
  simp only at p1 p2
  rw [e]
  show zk (iM (eB path true)) (iM value)=_
  unfold zk
  rw [show (iM (eB path true)).fS=eB path true from rfl,if_pos p2,p1,hk]
  rfl
 ·simp only at h
  subst h
  have e:iN ⟨2,path,value,kids⟩=⟨true,[],[iM (eB path false),eR (idx kids.1 (0:Int))]⟩:=by unfold iN;rw [if_neg (by show ¬ ((2:Int)=1);decide),if_pos rfl]
  simp only [oB,show decide ((2:Int)=1)=false from rfl,decide_true,cond_true,cond_false,Bool.and_eq_true,decide_eq_true_eq,beq_iff_eq,Bool.not_eq_true',beq_eq_false_iff_ne] at c3
  have hk:kids=K1 (idx kids.1 (0:Int)):=XV (n:=⟨2,path,value,kids⟩) (by omega) c3.2
  have hv:value=[]:=c3.1.1.1
  obtain ⟨p1,p2,_⟩:=Jx c1 false
  simp only at p1 p2
  have XW:=(n4 (hg _ (e9 kids.1 (i:=0) (by rw [kids.2];omega)))).2.2.2.1
  have XW:qT (eR (idx kids.1 (0:Int)))=idx kids.1 (0:Int):=XW
  rw [e]
  show zk (iM (eB path false)) (eR (idx kids.1 (0:Int)))=_
  unfold zk
  rw [show (iM (eB path false)).fS=eB path false from rfl,if_neg (by rw [p2];simp),p1,XW, ← hk,hv]
 ·simp only at h
  subst h
  have e:iN ⟨3,path,value,kids⟩=⟨true,[],kids.1.map eR++[iM []]⟩:=by
   unfold iN
   rw [if_neg (by show ¬ ((3:Int)=1);decide),if_neg (by show ¬ ((3:Int)=2);decide)]
  simp only [oB,show decide ((3:Int)=1)=false from rfl,show decide ((3:Int)=2)=false from rfl,decide_true,cond_true,cond_false,Bool.and_eq_true,decide_eq_true_eq,beq_iff_eq] at c3
  have hv:value=[]:=c3.1.1
  have hp:path=[]:=List.length_eq_zero_iff.1 (by omega)
  have hlen:(kids.1.map eR).length=16:=by rw [List.length_map,kids.2]
  have hk:yA (kids.1.map eR++[iM []]) 16=kids:=by
   apply Subtype.ext
   rw [JC _ (by rw [List.length_append,hlen];omega),List.take_append_of_le_length (by omega),List.take_of_length_le (by omega),List.map_map]
   conv=>rhs;rw [← List.map_id kids.1]
   exact List.map_congr_left fun k hk=>(n4 (hg k hk)).2.2.2.1
  rw [e]
  generalize hl:kids.1.map eR++[iM []]=l at hk
  have Zx:l.length=17:=by rw [← hl,List.length_append,hlen];rfl
  unfold fX
  rw [if_neg (by show ¬ (l.length=2);omega),if_pos (by show l.length=17;exact Zx),hv,hp]
  show (⟨3,[],[],yA l 16⟩:Node)=_
  rw [hk]
end Go.Proofs.YtlfjfoknbjcncaaGreat.K
namespace Go.Proofs.YtlfjfoknbjcncaaGreat.K
open Go
theorem Mv {l:List UInt8} {i:Nat} (h:i<l.length):l.drop i=l.getD i 0::l.drop (i+1):=by
 rw [List.drop_eq_getElem_cons h,List.getD_eq_getElem?_getD,List.getElem?_eq_getElem h]
 rfl
def jz (x:Wd) (n:Nat):Wd:=x.rotateRight n
def JF (a b c d:UInt8):Wd:=(((a.toBitVec.setWidth 32 <<< 24)||| (b.toBitVec.setWidth 32 <<< 16))||| (c.toBitVec.setWidth 32 <<< 8))||| d.toBitVec.setWidth 32
def yB (x:Wd) (a b c:Nat) (shift:Bool):Wd:=if shift then (jz x a^^^jz x b)^^^(x >>> c) else (jz x a^^^jz x b)^^^jz x c
def p7 (s:List UInt8) (i:Nat):Wd:=
 if h:i<16 then JF (s.getD (4*i) 0) (s.getD (4*i+1) 0) (s.getD (4*i+2) 0) (s.getD (4*i+3) 0)
 else p7 s (i-16)+yB (p7 s (i-15)) 7 18 3 true+p7 s (i-7)+yB (p7 s (i-2)) 17 19 10 true
termination_by i
def j0 (s:List UInt8) (n:Nat):List Wd:=(List.range n).map (p7 s)
theorem wD (s:List UInt8) (n:Nat):(j0 s n).length=n:=by simp [j0]
theorem qU {s:List UInt8} {n i:Nat} (h:i<n):(j0 s n).getD i 0=p7 s i:=by
 rw [j0,List.getD_eq_getElem?_getD,List.getElem?_map,List.getElem?_range h]
 rfl
theorem Fe (s:List UInt8) (n:Nat):j0 s (n+1)=j0 s n++[p7 s n]:=by simp [j0,List.range_succ]
def wE (s:List UInt8) (n:Nat):List Wd:=j0 s n++List.replicate (64-n) 0
theorem QC {s:List UInt8} {n:Nat} (h:n≤64):(wE s n).length=64:=by simp [wE,wD];omega
theorem QD {s:List UInt8} {n i:Nat} (h:i<n):(wE s n).getD i 0=p7 s i:=by
 rw [wE,List.getD_eq_getElem?_getD,List.getElem?_append_left (by rw [wD];exact h), ← List.getD_eq_getElem?_getD,qU h]
theorem JG {s:List UInt8} {n:Nat} (h:n<64):(wE s n).set n (p7 s n)=wE s (n+1):=by
 rw [wE,wE,Fe,List.set_append_right _ _ (by rw [wD];exact Nat.le_refl _),wD,Nat.sub_self,List.append_assoc]
 congr 1
 rw [show 64-n=(64-(n+1))+1 by omega,List.replicate_succ]
 rfl
def Ff:List Wd:=[1116352408,1899447441,3049323471,3921009573,961987163,1508970993,2453635748,2870763221,3624381080,310598401,607225278,1426881987,1925078388,2162078206,2614888103,3248222580,3835390401,4022224774,264347078,604807628,770255983,1249150122,1555081692,1996064986,2554220882,2821834349,2952996808,3210313671,3336571891,3584528711,113926993,338241895,666307205,773529912,1294757372,1396182291,1695183700,1986661051,2177026350,2456956037,2730485921,2820302411,3259730800,3345764771,3516065817,3600352804,4094571909,275423344,430227734,506948616,659060556,883997877,958139571,1322822218,1537002063,1747873779,1955562222,2024104815,2227730452,2361852424,2428436474,2756734187,3204031479,3329325298]
def Mw:List Wd:=[1779033703,3144134277,1013904242,2773480762,1359893119,2600822924,528734635,1541459225]
theorem Pu (x:Wd) (n:Nat) (h:0<n∧n<32):jz x n=(x <<< (32-n))||| (x >>> n):=by
 rw [jz,BitVec.rotateRight_def,Nat.mod_eq_of_lt h.2,BitVec.or_comm]
theorem DH (x:Wd) (r i:Nat) (hr:r<32) (hi:i<32):(x.rotateRight r).getLsbD i=x.getLsbD (if i+r<32 then i+r else i+r-32):=by
 rw [BitVec.getLsbD_rotateRight,Nat.mod_eq_of_lt hr]
 by_cases h:i+r<32
 ·rw [if_pos h,decide_eq_true (show i<32-r by omega),cond_true,Nat.add_comm]
 ·rw [if_neg h,decide_eq_false (show ¬ i<32-r by omega),cond_false,decide_eq_true hi,Bool.true_and,show i-(32-r)=i+r-32 by omega]
theorem QE (x:Wd) (n:Nat) (h:n<31):jz (jz x n) 1=jz x (n+1):=by
 unfold jz
 apply BitVec.eq_of_getLsbD_eq
 intro i hi
 rw [DH _ _ _ (by omega) hi,DH _ _ _ (by omega) hi,DH _ _ _ (by omega) (by split<;>omega)]
 congr 1
 repeat' split
 all_goals omega
theorem To (x:Wd):((x.toNat/2+x.toNat%2*2147483648:Nat))=(jz x 1).toNat:=by
 have h:=Pu x 1 (by omega)
 have e:(x <<< 31)&&& (x >>> 1)=0#32:=by
  apply BitVec.eq_of_getLsbD_eq
  intro i hi
  rw [BitVec.getLsbD_and,BitVec.getLsbD_shiftLeft,BitVec.getLsbD_ushiftRight,BitVec.getLsbD_zero]
  by_cases h1:i<31
  ·simp [h1]
  ·rw [BitVec.getLsbD_of_ge x (1+i) (by omega)];simp
 rw [h, ← BitVec.add_eq_or_of_and_eq_zero _ _ e,BitVec.toNat_add,BitVec.toNat_shiftLeft,BitVec.toNat_ushiftRight,Nat.shiftLeft_eq,Nat.shiftRight_eq_div_pow]
 have:=x.isLt
 omega
theorem OO (x:Wd):jz x 0=x:=by
 unfold jz
 apply BitVec.eq_of_getLsbD_eq
 intro i hi
 rw [DH _ _ _ (by omega) hi,if_pos (by omega),Nat.add_zero]
theorem QF (x:Wd) (i:Nat):((x >>> i).toNat:Int)/2=((x >>> (i+1)).toNat:Int):=by
 rw [BitVec.toNat_ushiftRight,BitVec.toNat_ushiftRight,Nat.shiftRight_succ]
 omega
theorem OP (s:List UInt8):List.replicate 64 0=wE s 0:=rfl
theorem Mx {s:List UInt8} {i:Nat} (h:i<16):p7 s i=JF (s.getD (4*i) 0) (s.getD (4*i+1) 0) (s.getD (4*i+2) 0) (s.getD (4*i+3) 0):=by rw [p7,dif_pos h]
theorem JH {s:List UInt8} {i:Nat} (h:16≤i):p7 s i=p7 s (i-16)+yB (p7 s (i-15)) 7 18 3 true+p7 s (i-7)+yB (p7 s (i-2)) 17 19 10 true:=by rw [p7,dif_neg (by omega)]
theorem OQ (s:List UInt8):wE s 64=j0 s 64:=by simp [wE]
def Zy (s:List UInt8) (i:Nat) (v:List Wd):List Wd:=
  [(v.getD 7 0+yB (v.getD 4 0) 6 11 25 false+((v.getD 4 0&&& v.getD 5 0)^^^(~~~(v.getD 4 0)&&& v.getD 6 0))+Ff.getD i 0+p7 s i)+(yB (v.getD 0 0) 2 13 22 false+(((v.getD 0 0&&& v.getD 1 0)^^^(v.getD 0 0&&& v.getD 2 0))^^^(v.getD 1 0&&& v.getD 2 0))),
   v.getD 0 0,v.getD 1 0,v.getD 2 0,
   v.getD 3 0+(v.getD 7 0+yB (v.getD 4 0) 6 11 25 false+((v.getD 4 0&&& v.getD 5 0)^^^(~~~(v.getD 4 0)&&& v.getD 6 0))+Ff.getD i 0+p7 s i),v.getD 4 0,v.getD 5 0,v.getD 6 0]
def ug (s:List UInt8) (h:List Wd):Nat→List Wd
 | 0=>h
 | n+1=>Zy s n (ug s h n)
theorem OR (s:List UInt8) (h:List Wd) (n:Nat):ug s h (n+1)=Zy s n (ug s h n):=rfl
theorem yC (s:List UInt8) (h:List Wd) (n:Nat) (hh:h.length=8):(ug s h n).length=8:=by
 cases n with
 | zero=>exact hh
 | succ n=>rfl
def uh (h v:List Wd) (n:Nat):List Wd:=List.zipWith (· +·) (h.take n) (v.take n)++h.drop n
theorem OS (h v:List Wd):uh h v 0=h:=by simp [uh]
theorem Ey (h v:List Wd) (n:Nat) (hh:h.length=8) (hv:v.length=8) (hn:n≤8):(uh h v n).length=8:=by simp [uh,hh,hv];omega
theorem QG {h v:List Wd} {i:Nat} (hi:i<h.length) (hv:h.length=v.length):(uh h v i).getD i 0=h.getD i 0:=by
 rw [uh,List.getD_eq_getElem?_getD,List.getElem?_append_right (by simp;omega),List.getD_eq_getElem?_getD]
 congr 1
 rw [List.getElem?_drop]
 congr 1
 simp
 omega
theorem QH {h v:List Wd} {i:Nat} (hi:i<h.length) (hv:h.length=v.length):(uh h v i).set i ((uh h v i).getD i 0+v.getD i 0)=uh h v (i+1):=by
 rw [QG hi hv,uh,uh,List.set_append_right _ _ (by simp;omega)]
 have e:(List.zipWith (· +·) (h.take i) (v.take i)).length=i:=by simp;omega
 have e1:h.drop i=h.getD i 0::h.drop (i+1):=by
  rw [List.drop_eq_getElem_cons hi,List.getD_eq_getElem?_getD,List.getElem?_eq_getElem hi];rfl
 have e2:h.take (i+1)=h.take i++[h.getD i 0]:=by
  rw [List.take_add_one,List.getD_eq_getElem?_getD,List.getElem?_eq_getElem hi];rfl
 have e3:v.take (i+1)=v.take i++[v.getD i 0]:=by
  rw [List.take_add_one,List.getD_eq_getElem?_getD,List.getElem?_eq_getElem (by omega)];rfl
 rw [e,Nat.sub_self,e1,List.set_cons_zero,e2,e3,List.zipWith_append (by simp;omega)]
 simp
def sq (h:List Wd) (s:List UInt8):List Wd:=uh h (ug s h 64) 8
theorem KA {h:List Wd} {s:List UInt8} (hh:h.length=8):(sq h s).length=8:=Ey h _ 8 hh (yC s h 64 hh) (by omega)
def DI (m w:Nat):List UInt8:=(List.range w).map fun i=>UInt8.ofNat (m/256 ^ i)
theorem DJ (m w:Nat):(DI m w).length=w:=by simp [DI]
def sr (n:Nat):Nat:=(119-n%64)%64
def uB (s:List UInt8):List UInt8:=s++128::List.replicate (sr s.length) 0
def su (s:List UInt8):List UInt8:=uB s++(DI (s.length*8) 8).reverse
theorem CK (s:List UInt8):(uB s).length=s.length+1+sr s.length:=by simp [uB];omega
theorem HQ (s:List UInt8):(su s).length%64=0∧(su s).length≤s.length+72:=by
 have:=CK s
 have h2:(su s).length=(uB s).length+8:=by simp [su,DJ]
 rw [h2,this]
 unfold sr
 omega
theorem div_pow (m i:Nat):m/256 ^ i/256=m/256 ^ (i+1):=by rw [Nat.div_div_eq_div_mul,Nat.pow_succ]
theorem JI (n:Nat):List.replicate n (0:UInt8)++[0]=List.replicate (n+1) 0:=by rw [List.replicate_succ']
theorem QI {l:List UInt8} {j:Nat} (h:j<l.length):(l.drop (j+1)).reverse++[l.getD j 0]=(l.drop j).reverse:=by
 rw [Mv h,List.reverse_cons]
def sv (h:List Wd) (t:List UInt8):List Wd:=
 if t.length<64 then h else sv (sq h (t.take 64)) (t.drop 64)
termination_by t.length
decreasing_by simp;omega
def Ww (s:List UInt8):List Wd:=sv Mw (su s)
def uO (h:List Wd) (i:Nat):UInt8:=UInt8.ofNat (h.getD (i/4) 0 >>> (24-8*(i%4))).toNat
def Fg (s:List UInt8):List UInt8:=(List.range 32).map (uO (Ww s))
theorem Bh (s:List UInt8):(Fg s).length=32:=by simp [Fg]
theorem BT (h:List Wd) {t:List UInt8} (ht:64≤t.length):sv h t=sv (sq h (t.take 64)) (t.drop 64):=by rw [sv,if_neg (by omega)]
theorem DK {h g:List Wd} {t:List UInt8} (f:sv h t=g) (ht:t=[]):h=g:=by rw [← f,ht,sv];rfl
def HR (s:List UInt8) (a:Nat):Nat→Nat
 | 0=>0
 | j+1=>256*HR s a j+(s.getD (a+j) 0).toNat
theorem KB (s:List UInt8) (a j:Nat) (h:j≤4):HR s a j<4294967296:=by
 have b0:=nc (s.getD (a+0) 0)
 have b1:=nc (s.getD (a+1) 0)
 have b2:=nc (s.getD (a+2) 0)
 have b3:=nc (s.getD (a+3) 0)
 match j,h with
 | 0,_=>show 0<_;omega
 | 1,_=>show 256*0+(s.getD (a+0) 0).toNat<_;omega
 | 2,_=>show 256*(256*0+(s.getD (a+0) 0).toNat)+(s.getD (a+1) 0).toNat<_;omega
 | 3,_=>show 256*(256*(256*0+(s.getD (a+0) 0).toNat)+(s.getD (a+1) 0).toNat)+(s.getD (a+2) 0).toNat<_;omega
 | 4,_=>show 256*(256*(256*(256*0+(s.getD (a+0) 0).toNat)+(s.getD (a+1) 0).toNat)+(s.getD (a+2) 0).toNat)+(s.getD (a+3) 0).toNat<_;omega
theorem Ez (x y:Wd) (k:Nat) (hk:k<32) (h:y.toNat<2 ^ k):((x <<< k)||| y).toNat=(x <<< k).toNat+y.toNat:=by
  have e:(x <<< k)&&& y=0#32:=by
    apply BitVec.eq_of_getLsbD_eq
    intro i hi
    rw [BitVec.getLsbD_and,BitVec.getLsbD_shiftLeft,BitVec.getLsbD_zero]
    by_cases h1:i<k
    · simp [h1]
    · have:y.getLsbD i=false:=by
        rw [BitVec.getLsbD,Nat.testBit_lt_two_pow (Nat.lt_of_lt_of_le h (Nat.pow_le_pow_right (by omega) (by omega)))]
      simp [this]
  rw [← BitVec.add_eq_or_of_and_eq_zero _ _ e,BitVec.toNat_add,Nat.mod_eq_of_lt]
  rw [BitVec.toNat_shiftLeft,Nat.shiftLeft_eq]
  obtain ⟨m,hm⟩:∃ m,2 ^ 32=2 ^ k*m:=⟨2 ^ (32-k),by rw [← Nat.pow_add];congr 1;omega⟩
  rw [hm,Nat.mul_comm x.toNat,Nat.mul_mod_mul_left]
  have hm0:0<m:=by
                         rcases Nat.eq_zero_or_pos m with h0 | h0;· rw [h0] at hm;simp at hm
                         · exact h0
  have:=Nat.mod_lt x.toNat hm0
  calc 2 ^ k*(x.toNat%m)+y.toNat<2 ^ k*(x.toNat%m)+2 ^ k:=by omega
    _=2 ^ k*(x.toNat%m+1):=by rw [Nat.mul_add,Nat.mul_one]
    _≤2 ^ k*m:=Nat.mul_le_mul_left _ (by omega)
theorem QJ (a b c d:UInt8):(JF a b c d).toNat=256*(256*(256*(256*0+a.toNat)+b.toNat)+c.toNat)+d.toNat:=by
 have ha:=nc a
 have hb:=nc b
 have hc:=nc c
 have hd:=nc d
 have w:∀ x:UInt8,(x.toBitVec.setWidth 32).toNat=x.toNat:=fun x=>by
  rw [BitVec.toNat_setWidth];have:=nc x;exact Nat.mod_eq_of_lt (by show x.toNat<_;omega)
 have s24:(a.toBitVec.setWidth 32 <<< 24).toNat=a.toNat*16777216:=by rw [BitVec.toNat_shiftLeft,w,Nat.shiftLeft_eq];omega
 have s16:(b.toBitVec.setWidth 32 <<< 16).toNat=b.toNat*65536:=by rw [BitVec.toNat_shiftLeft,w,Nat.shiftLeft_eq];omega
 have s8:(c.toBitVec.setWidth 32 <<< 8).toNat=c.toNat*256:=by rw [BitVec.toNat_shiftLeft,w,Nat.shiftLeft_eq];omega
 unfold JF
 rw [BitVec.or_assoc,BitVec.or_assoc]
 have e1:((c.toBitVec.setWidth 32 <<< 8)||| d.toBitVec.setWidth 32).toNat=c.toNat*256+d.toNat:=by rw [Ez _ _ 8 (by omega) (by rw [w];omega),s8,w]
 have e2:((b.toBitVec.setWidth 32 <<< 16)||| ((c.toBitVec.setWidth 32 <<< 8)||| d.toBitVec.setWidth 32)).toNat=b.toNat*65536+(c.toNat*256+d.toNat):=by rw [Ez _ _ 16 (by omega) (by rw [e1];omega),s16,e1]
 rw [Ez _ _ 24 (by omega) (by rw [e2];omega),s24,e2]
 omega
theorem QK {s:List UInt8} {i j:Nat} (hi:i<16) (hj:j=4):((HR s (4*i) j:Nat):Int)=((p7 s i).toNat:Int):=by
 rw [hj,Mx hi,QJ]
 rfl
theorem XX {s:List UInt8} {i:Nat} (h:16≤i):(j0 s i).getD (i-16) 0+((jz ((j0 s i).getD (i-15) 0) 7^^^jz ((j0 s i).getD (i-15) 0) 18)^^^((j0 s i).getD (i-15) 0 >>> 3))+(j0 s i).getD (i-7) 0+
  ((jz ((j0 s i).getD (i-2) 0) 17^^^jz ((j0 s i).getD (i-2) 0) 19)^^^((j0 s i).getD (i-2) 0 >>> 10))=p7 s i:=by
 rw [qU (by omega),qU (by omega),qU (by omega),qU (by omega),JH h]
 rfl
theorem Tp (e f g:Wd):(e&&& f)||| (~~~e&&& g)=(e&&& f)^^^(~~~e&&& g):=by
 apply BitVec.eq_of_getLsbD_eq
 intro i hi
 simp only [BitVec.getLsbD_or,BitVec.getLsbD_xor,BitVec.getLsbD_and,BitVec.getLsbD_not,hi,decide_true,Bool.true_and]
 cases e.getLsbD i<;>cases f.getLsbD i<;>cases g.getLsbD i<;>rfl
theorem Tq (a b c:Wd):((a&&& b)||| (a&&& c))||| (b&&& c)=((a&&& b)^^^(a&&& c))^^^(b&&& c):=by
 apply BitVec.eq_of_getLsbD_eq
 intro i hi
 simp only [BitVec.getLsbD_or,BitVec.getLsbD_xor,BitVec.getLsbD_and]
 cases a.getLsbD i<;>cases b.getLsbD i<;>cases c.getLsbD i<;>rfl
def DL (h v:List Wd) (i:Nat):List Wd:=(List.range i).map fun j=>h.getD j 0+v.getD j 0
theorem QL (h v:List Wd) (i:Nat):(DL h v i).length=i:=by simp [DL]
theorem OT (h v:List Wd) (i:Nat):DL h v (i+1)=DL h v i++[h.getD i 0+v.getD i 0]:=by simp [DL,List.range_succ]
theorem OU (h:List Wd) (s:List UInt8) (hh:h.length=8):DL h (ug s h 64) 8=sq h s:=by
 have hv:=yC s h 64 hh
 unfold sq
 generalize ug s h 64=v at*
 match h,v,hh,hv with
 | [a0,a1,a2,a3,a4,a5,a6,a7],[b0,b1,b2,b3,b4,b5,b6,b7],_,_=>rfl
theorem JJ (m i:Nat):DI m (i+1)=DI m i++[UInt8.ofNat (m/256 ^ i)]:=by simp [DI,List.range_succ]
theorem Tt (m i:Nat):[UInt8.ofNat (m/256 ^ i)]++(DI m i).reverse=(DI m (i+1)).reverse:=by rw [JJ,List.reverse_append];rfl
theorem Tu (h:List Wd) (i:Nat):UInt8.ofNat ((h.getD (i/4) 0).toNat/256 ^ (3-i%4))=uO h i:=by
 unfold uO
 rw [BitVec.toNat_ushiftRight,Nat.shiftRight_eq_div_pow,show (256:Nat)=2 ^ 8 from rfl, ← Nat.pow_mul,show 8*(3-i%4)=24-8*(i%4) by omega]
end Go.Proofs.YtlfjfoknbjcncaaGreat.K
namespace Go.Proofs.YtlfjfoknbjcncaaGreat.K
open Go
set_option linter.unusedVariables false
set_option linter.unusedSimpArgs false
theorem Tv (n:Nat) (a:aE 8 UInt8) (i:Nat) (h:i<8) (ha:a.1=CC n i++List.replicate (8-i) 0) (b:UInt8) (hb:b=UInt8.ofNat (n/256 ^ i%256)):(a.put (i:Int) b).1=CC n (i+1)++List.replicate (8-(i+1)) 0:=by
 subst hb
 show a.1.set (i:Int).toNat _=_
 rw [ha,Int.toNat_natCast,Eo,List.set_append_right _ _ (by simp),Mk,Nat.sub_self,show 8-i=(8-(i+1))+1 by omega,List.replicate_succ,List.set_cons_zero]
 simp
theorem VX (n:BitVec 64) (w:Nat) (hw:w≤8):xd n (w:Int)=some (CC n.toNat w):=by
 have hm:eY (gQ (w:Int) 0) 8=(w:Int):=by unfold eY gQ;repeat' split<;>omega
 refine cS (.next rfl ?_)
 have key:∀ i,i≤w→(∀ a:aE 8 UInt8,a.1=CC n.toNat i++List.replicate (8-i) 0→Comes (kG n (w:Int)) (.L1 (BitVec.ofNat 64 (n.toNat/256 ^ i)) (i:Int) a) (CC n.toNat w))→Comes (kG n (w:Int)) (.L1 n 0 (aE.rep 8 0)) (CC n.toNat w):=by
  intro i
  induction i with
  | zero=>
   intro _ h
   have:=h (aE.rep 8 0) rfl
   simpa using this
  | succ i ih=>
   intro hi h
   refine ih (by omega) fun a ha=> .next ?_ (h (a.put (i:Int) (UInt8.ofNat (n.toNat/256 ^ i%256))) (Tv n.toNat a i (by omega) ha _ rfl))
   simp only [kG]
   have h2:n.toNat/256 ^ i<2 ^ 64:=Nat.lt_of_le_of_lt (Nat.div_le_self _ _) n.isLt
   have e2:oL (BitVec.ofNat 64 (n.toNat/256 ^ i)) (8:Int)=BitVec.ofNat 64 (n.toNat/256 ^ (i+1)):=by
    apply BitVec.eq_of_toNat_eq
    show (BitVec.ofNat 64 (n.toNat/256 ^ i) >>> 8).toNat=_
    rw [BitVec.toNat_ushiftRight,BitVec.toNat_ofNat,BitVec.toNat_ofNat,Nat.mod_eq_of_lt h2,Nat.mod_eq_of_lt (Nat.lt_of_le_of_lt (Nat.div_le_self _ _) n.isLt),Nat.pow_succ, ← Nat.div_div_eq_div_mul,Nat.shiftRight_eq_div_pow]
   rw [hm,decide_eq_true (by omega),cond_true,ah (by omega),ah (by unfold bw;omega),e2,wv,BitVec.toNat_ofNat,Nat.mod_eq_of_lt h2,tD]
   rfl
 refine key w (Nat.le_refl _) fun a ha=> .stop ?_
 simp only [kG]
 rw [hm,decide_eq_false (by omega),cond_false,ah (by omega),Dz,ha,List.take_left' (by simp)]
end Go.Proofs.YtlfjfoknbjcncaaGreat.K
namespace Go.Proofs.YtlfjfoknbjcncaaGreat.K
open Go
set_option linter.unusedVariables false
set_option linter.unusedSimpArgs false
theorem QM:∀ n:Fin 32,0<n.val→((BitVec.ofInt 64 (0-(n.val:Int)))&&& (31:BitVec 64)).toNat=32-n.val∧((32:BitVec 64)-((BitVec.ofInt 64 (0-(n.val:Int)))&&& (31:BitVec 64))).toNat=n.val:=by decide
theorem Tw (x:BitVec 32) (n:Nat) (h:0<n∧n<32):iI x (0-(n:Int))=some (jz x n):=by
 obtain ⟨h1,h2⟩:=QM ⟨n,h.2⟩ h.1
 simp only at h1 h2
 unfold iI
 rw [ah (by omega),ah (by omega),h1,h2,Pu x n h]
 unfold q6 oL
 rw [show min (((32-n:Nat):Int)).toNat 32=32-n by omega,show min ((n:Int)).toNat 32=n by omega]
theorem HS (x:BitVec 32) (n:Nat) (h:0<n∧n<32):lz (n:Int) x=some (jz x n):=by
 unfold lz
 rw [ah (by unfold bw;omega),Tw x n h];rfl
theorem FN (x:BitVec 32) (a b c:Nat) (s:Bool) (ha:0<a∧a<32) (hb:0<b∧b<32) (hc:0<c∧c<32):kU x (a:Int) (b:Int) (c:Int) s=some (yB x a b c s):=by
 unfold kU yB
 rw [HS x a ha,HS x b hb,HS x c hc]
 cases s with
 | true=>
  simp only [cond_true,Option.bind_some,if_true]
  rw [ah (by omega)]
  unfold oL
  rw [show min ((c:Int)).toNat 32=c by omega]
 | false=>rfl
theorem Tx (s:List UInt8) (h:4≤s.length):ua s=some (JF (s.getD 0 0) (s.getD 1 0) (s.getD 2 0) (s.getD 3 0)):=by
 have e:∀ b:UInt8,BitVec.ofInt 32 ((b.toNat:Nat):Int)=b.toBitVec.setWidth 32:=by
  intro b
  apply BitVec.eq_of_toNat_eq
  have:=b.toNat_lt
  rw [BitVec.toNat_setWidth,BitVec.toNat_ofInt]
  show ((b.toNat:Int)%(2 ^ 32:Nat)).toNat=b.toNat%2 ^ 32
  omega
 unfold ua JF
 rw [ah (by omega),ah (by omega),ah (by omega),ah (by omega),e,e,e,e]
 rfl
theorem QN (s:List UInt8) (h:s.length=64):∃ r:aE 64 (BitVec 32),r.1=j0 s 64∧y4 s=some r:=by
 have P:∀ n,n≤64→(wE s n).length=64:=fun n h=>QC h
 let A:Nat→aE 64 (BitVec 32):=fun n=>if h:n≤64 then ⟨wE s n,P n h⟩ else aE.rep 64 0
 have hA:∀ n,n≤64→(A n).1=wE s n:=by intro n h;show (if h:n≤64 then (⟨wE s n,P n h⟩:aE 64 (BitVec 32)) else aE.rep 64 0).1=_;rw [dif_pos h]
 have get:∀ n i,n≤64→i<n→idx (A n).1 (i:Int)=p7 s i:=by
  intro n i h1 h2
  rw [hA n h1,gl];exact QD h2
 refine ⟨A 64,by rw [hA 64 (Nat.le_refl _),OQ],cS (Comes.next (c':= .L1 0 (A 0)) ?_ ?_)⟩
 ·have:A 0=aE.rep 64 0:=Subtype.ext ((hA 0 (by omega)).trans (OP s).symm)
  rw [this];rfl
 ·refine Comes.upto (step:=ga s) (fun i=> .L1 (i:Int) (A i)) 16 ?_ ?_
  ·intro i hi
   have e1:(4:Int)*(i:Int)=((4*i:Nat):Int):=by omega
   have hw:=Tx (s.drop (4*i)) (by rw [List.length_drop];omega)
   have g:∀ k,(s.drop (4*i)).getD k 0=s.getD (4*i+k) 0:=by intro k;simp [List.getD_eq_getElem?_getD]
   rw [g,g,g,g,Nat.add_zero, ← Mx hi] at hw
   have hn:(A i).put (i:Int) (p7 s i)=A (i+1):=by
    apply Subtype.ext
    show (A i).1.set (i:Int).toNat (p7 s i)=_
    rw [Int.toNat_natCast,hA i (by omega),hA (i+1) (by omega),JG (by omega)]
   simp only [ga]
   rw [decide_eq_true (by omega),cond_true,ah (by unfold bw;omega),ah (by omega),e1,nB,hw,Option.bind_some,ah (by omega),ah (by unfold bw;omega),hn]
   rfl
  ·refine Comes.next (c':= .L2 16 (A 16)) ?_ ?_
   ·simp only [ga]
    rw [decide_eq_false (by omega),cond_false]
   ·have:=Comes.upto (step:=ga s) (fun j=> .L2 ((16+j:Nat):Int) (A (16+j))) 48 (r:=A 64) (by
     intro j hj
     have d16:((16+j:Nat):Int)-16=((16+j-16:Nat):Int):=by omega
     have d15:((16+j:Nat):Int)-15=((16+j-15:Nat):Int):=by omega
     have d7:((16+j:Nat):Int)-7=((16+j-7:Nat):Int):=by omega
     have d2:((16+j:Nat):Int)-2=((16+j-2:Nat):Int):=by omega
     have hn:(A (16+j)).put ((16+j:Nat):Int) (p7 s (16+j))=A (16+j+1):=by
      apply Subtype.ext
      show (A (16+j)).1.set ((16+j:Nat):Int).toNat (p7 s (16+j))=_
      rw [Int.toNat_natCast,hA (16+j) (by omega),hA (16+j+1) (by omega),JG (by omega)]
     simp only [ga]
     rw [decide_eq_true (by omega),cond_true,d16,d15,d7,d2,ah (by unfold bw;omega),ah (by omega),ah (by unfold bw;omega),ah (by omega),get _ _ (by omega) (by omega),get _ _ (by omega) (by omega),get _ _ (by omega) (by omega),get _ _ (by omega) (by omega)]
     rw [show kU (p7 s (16+j-15)) 7 18 3 true=some (yB (p7 s (16+j-15)) 7 18 3 true) from FN _ 7 18 3 true (by omega) (by omega) (by omega),Option.bind_some,ah (by unfold bw;omega),ah (by omega),ah (by unfold bw;omega),ah (by omega),
      show kU (p7 s (16+j-2)) 17 19 10 true=some (yB (p7 s (16+j-2)) 17 19 10 true) from FN _ 17 19 10 true (by omega) (by omega) (by omega),Option.bind_some,ah (by omega),ah (by unfold bw;omega), ← JH (by omega),hn]
     rfl) (by
     refine Comes.stop ?_
     simp only [ga]
     rw [decide_eq_false (by omega)]
     rfl)
    exact this
theorem Tz (h:aE 8 (BitVec 32)) (s:List UInt8) (hs:s.length=64):∃ r:aE 8 (BitVec 32),r.1=sq h.1 s∧Aq h s=some r:=by
 obtain ⟨w,hw1,XY⟩:=QN s hs
 let B:Nat→aE 8 (BitVec 32):=fun n=>⟨ug s h.1 n,yC s h.1 n h.2⟩
 let K:aE 64 (BitVec 32):=⟨Ff,rfl⟩
 have hwg:∀ i:Nat,i<64→idx w.1 (i:Int)=p7 s i:=by intro i hi;rw [hw1,gl];exact qU hi
 let A:Nat→aE 8 (BitVec 32):=fun n=>if hn:n≤8 then ⟨uh h.1 (B 64).1 n,Ey h.1 _ n h.2 (B 64).2 hn⟩ else h
 have hA:∀ n,n≤8→(A n).1=uh h.1 (B 64).1 n:=by
  intro n hn
  show (if hn:n≤8 then (⟨uh h.1 (B 64).1 n,Ey h.1 _ n h.2 (B 64).2 hn⟩:aE 8 (BitVec 32)) else h).1=_
  rw [dif_pos hn]
 refine ⟨A 8,hA 8 (Nat.le_refl _),cS (Comes.next (c':= .L1 0 w K h) ?_ ?_)⟩
 ·simp only [gi]
  rw [XY];rfl
 ·refine Comes.upto (step:=gi h s) (fun i=> .L1 (i:Int) w K (B i)) 64 ?_ ?_
  ·intro i hi
   have x4:kU (idx (B i).1 (4:Int)) 6 11 25 false=some (yB ((B i).1.getD 4 0) 6 11 25 false):=FN _ 6 11 25 false (by omega) (by omega) (by omega)
   have hm2:kU (idx (B i).1 (0:Int)) 2 13 22 false=some (yB ((B i).1.getD 0 0) 2 13 22 false):=FN _ 2 13 22 false (by omega) (by omega) (by omega)
   have hk:idx K.1 (i:Int)=Ff.getD i 0:=gl _ _
   simp only [gi]
   rw [decide_eq_true (by omega),cond_true,x4,Option.bind_some,ah (by omega),ah (by omega),hm2,Option.bind_some,ah (by unfold bw;omega),hk,hwg i hi]
   rfl
  ·refine Comes.next (c':= .L2 0 h (B 64)) ?_ ?_
   ·simp only [gi]
    rw [decide_eq_false (by omega)];rfl
   ·have h0:A 0=h:=Subtype.ext ((hA 0 (by omega)).trans (OS _ _))
    have:=Comes.upto (step:=gi h s) (fun i=> .L2 (i:Int) (A i) (B 64)) 8 (r:=A 8) (by
     intro i hi
     have hlen:h.1.length=8:=h.2
     have hB:(B 64).1.length=8:=(B 64).2
     have e1:idx (A i).1 (i:Int)=(uh h.1 (B 64).1 i).getD i 0:=by rw [hA i (by omega),gl];rfl
     have e2:idx (B 64).1 (i:Int)=(B 64).1.getD i 0:=gl _ _
     have hn:(A i).put (i:Int) ((uh h.1 (B 64).1 i).getD i 0+(B 64).1.getD i 0)=A (i+1):=by
      apply Subtype.ext
      show (A i).1.set (i:Int).toNat _=_
      rw [Int.toNat_natCast,hA i (by omega),hA (i+1) (by omega),QH (by omega) (by omega)]
     simp only [gi]
     rw [decide_eq_true (by omega),cond_true,ah (by omega),ah (by omega),ah (by omega),ah (by unfold bw;omega),e1,e2,hn]
     rfl) (by
     refine Comes.stop ?_
     simp only [gi]
     rw [decide_eq_false (by omega)];rfl)
    rw [h0] at this
    exact this
theorem TA (n:Nat):∀ w,CC n w=DI n w
 | 0=>rfl
 | w+1=>by rw [Eo,JJ,TA n w,tD]
theorem OV (s:List UInt8) (hs:s.length≤1000000):xJ s=some (su s):=by
 have Zz:sr s.length<64:=by unfold sr;omega
 refine cS (Comes.next (c':= .L1 (s++[128])) ?_ ?_)
 ·simp only [fc]
  rw [ah (by omega),ah (by simp only [List.length_singleton];omega)]
 ·refine Comes.upto (step:=fc s) (fun j=> .L1 (s++128::List.replicate j 0)) (sr s.length) ?_ ?_
  ·intro j hj
   have hl:(s++128::List.replicate j (0:UInt8)).length=s.length+1+j:=by simp;omega
   have e:s++128::List.replicate j (0:UInt8)++[0]=s++128::List.replicate (j+1) 0:=by rw [List.append_assoc,List.cons_append,JI]
   have hne:¬ (((s.length+1+j:Nat):Int).tmod 64=56):=by
    rw [Int.tmod_eq_emod_of_nonneg (by omega)]
    unfold sr at hj
    omega
   simp only [fc]
   rw [hl,decide_eq_false hne,Bool.not_false,cond_true,ah (by simp only [List.length_singleton];omega),e]
  ·have hl:(s++128::List.replicate (sr s.length) (0:UInt8)).length=s.length+1+sr s.length:=by simp;omega
   have he:((s.length+1+sr s.length:Nat):Int).tmod 64=56:=by
    rw [Int.tmod_eq_emod_of_nonneg (by omega)]
    unfold sr
    omega
   have hN:=VX (BitVec.ofInt 64 (s.length:Int)*(8:BitVec 64)) 8 (by omega)
   have hv:(BitVec.ofInt 64 (s.length:Int)*(8:BitVec 64)).toNat=s.length*8:=by
    rw [BitVec.toNat_mul,BitVec.toNat_ofInt]
    show ((s.length:Int)%(2 ^ 64:Nat)).toNat*8%2 ^ 64=_
    omega
   rw [hv,TA] at hN
   have hL:=DJ (s.length*8) 8
   refine Comes.next (c':= .L2 (uB s) (DI (s.length*8) 8) 7) ?_ ?_
   ·simp only [fc]
    rw [hl,decide_eq_true he,Bool.not_true,cond_false,show xd (BitVec.ofInt 64 (s.length:Int)*(8:BitVec 64)) 8=some (DI (s.length*8) 8) from hN]
    rfl
   ·unfold su
    generalize DI (s.length*8) 8=l at hL
    have hf0:=CK s
    have h8:uB s++(l.drop (8-0)).reverse=uB s:=by rw [List.drop_eq_nil_of_le (by omega)];simp
    have:=Comes.upto (step:=fc s) (fun j=> .L2 (uB s++(l.drop (8-j)).reverse) l (7-(j:Int))) 8 (r:=uB s++l.reverse) (by
     intro j hj
     have hx:idx l (7-(j:Int))=l.getD (7-j) 0:=by
      rw [show (7:Int)-(j:Int)=((7-j:Nat):Int) by omega,gl];rfl
     have hd:=QI (l:=l) (j:=7-j) (by omega)
     rw [show 7-j+1=8-j by omega] at hd
     have hlen:(uB s++(l.drop (8-j)).reverse).length≤s.length+100:=by
      rw [List.length_append,List.length_reverse,List.length_drop];omega
     simp only [fc]
     rw [decide_eq_true (by omega),cond_true,ah (by omega),hx,ah (by simp only [List.length_singleton];omega),ah (by unfold bw;omega),List.append_assoc,hd,show 8-(j+1)=7-j by omega,show (7:Int)-(j:Int)-1=7-((j+1:Nat):Int) by omega]) (by
     refine Comes.stop ?_
     simp only [fc]
     rw [decide_eq_false (by omega),cond_false,show 8-8=0 from rfl,List.drop_zero])
    rw [h8,show (7:Int)-((0:Nat):Int)=7 from rfl] at this
    exact this
theorem QO (f:Nat→UInt8) (n i:Nat) (h:i<n):((List.range i).map f++List.replicate (n-i) 0).set i (f i)=(List.range (i+1)).map f++List.replicate (n-(i+1)) 0:=by
 rw [List.set_append_right _ _ (by simp)]
 simp only [List.length_map,List.length_range,Nat.sub_self]
 rw [show n-i=(n-(i+1))+1 by omega,List.replicate_succ,List.set_cons_zero,List.range_succ,List.map_append,List.append_assoc]
 rfl
theorem TB (s:List UInt8):∀ (k:Nat) (t:List UInt8) (h:aE 8 (BitVec 32)),t.length=64*k→∃ g:aE 8 (BitVec 32),g.1=sv h.1 t∧∀ r,Comes (gX s) (.L2 0 g (aE.rep 32 0)) r→Comes (gX s) (.L1 t h) r
 | 0,t,h,hl=>by
  have ht:t=[]:=List.length_eq_zero_iff.1 (by omega)
  subst ht
  refine ⟨h,DK rfl rfl,fun r hr=>Comes.next ?_ hr⟩
  simp only [gX]
  rfl
 | k+1,t,h,hl=>by
  obtain ⟨h',e1,e2⟩:=Tz h (t.take 64) (by rw [List.length_take];omega)
  obtain ⟨g,g1,g2⟩:=TB s k (t.drop 64) h' (by rw [List.length_drop];omega)
  refine ⟨g,by rw [g1,e1, ← BT h.1 (by omega)],fun r hr=>Comes.next ?_ (g2 r hr)⟩
  have hne:(t==([]:List UInt8))=false:=by
   rw [beq_eq_false_iff_ne];intro e;rw [e] at hl;simp at hl
  have s1:sub t (0:Int) (64:Int)=t.take 64:=Dz t 64
  have s2:sub t (64:Int) (t.length:Int)=t.drop 64:=nB t 64
  simp only [gX]
  rw [hne,Bool.not_false,cond_true,ah (by omega),s1,e2,Option.bind_some,ah (by omega),s2]
theorem VY (s:List UInt8) (hs:s.length≤1000000):∃ r:aE 32 UInt8,r.1=Fg s∧Eh s=some r:=by
 have hF:=HQ s
 obtain ⟨g,g1,g2⟩:=TB s ((su s).length/64) (su s) ⟨Mw,rfl⟩ (by omega)
 have hg:g.1.length=8:=g.2
 let A:Nat→aE 32 UInt8:=fun n=>if hn:n≤32 then ⟨(List.range n).map (uO g.1)++List.replicate (32-n) 0,by simp;omega⟩ else aE.rep 32 0
 have hA:∀ n,n≤32→(A n).1=(List.range n).map (uO g.1)++List.replicate (32-n) 0:=by
  intro n hn
  show (if hn:n≤32 then (⟨(List.range n).map (uO g.1)++List.replicate (32-n) 0,by simp;omega⟩:aE 32 UInt8) else aE.rep 32 0).1=_
  rw [dif_pos hn]
 have h0:A 0=aE.rep 32 0:=Subtype.ext (hA 0 (by omega))
 refine ⟨A 32,?_,cS (Comes.next (c':= .L1 (su s) ⟨Mw,rfl⟩) ?_ (g2 _ ?_))⟩
 ·rw [hA 32 (Nat.le_refl _),Nat.sub_self,List.replicate_zero,List.append_nil,g1];rfl
 ·simp only [gX]
  rw [OV s hs];rfl
 ·have:=Comes.upto (step:=gX s) (fun i=> .L2 (i:Int) g (A i)) 32 (r:=A 32) (by
   intro i hi
   have q1:(i:Int).tdiv 4=((i/4:Nat):Int):=by rw [Int.tdiv_eq_ediv_of_nonneg (by omega)];omega
   have q2:(i:Int).tmod 4=((i%4:Nat):Int):=by rw [Int.tmod_eq_emod_of_nonneg (by omega)];omega
   have hv:gf (((oL (idx g.1 ((i/4:Nat):Int)) (24-8*((i%4:Nat):Int))).toNat:Nat):Int)=uO g.1 i:=by
    rw [wv,gl]
    unfold oL uO
    rw [show min ((24:Int)-8*((i%4:Nat):Int)).toNat 32=24-8*(i%4) by omega]
    rfl
   have hn:(A i).put (i:Int) (uO g.1 i)=A (i+1):=by
    apply Subtype.ext
    show (A i).1.set (i:Int).toNat _=_
    rw [Int.toNat_natCast,hA i (by omega),hA (i+1) (by omega),QO _ _ _ hi]
   simp only [gX]
   rw [decide_eq_true (by omega),cond_true,q1,q2,ah ⟨by decide,by unfold bw;omega⟩,ah (by omega),ah (by unfold bw;omega),ah (by unfold bw;omega),ah (by omega),ah (by omega),ah (by unfold bw;omega),hv,hn]
   rfl) (by
   refine Comes.stop ?_
   simp only [gX]
   rw [decide_eq_false (by omega)];rfl)
  rw [h0] at this
  exact this
end Go.Proofs.YtlfjfoknbjcncaaGreat.K
namespace Go.Proofs.YtlfjfoknbjcncaaGreat.K
open Go
set_option linter.unusedVariables false
set_option linter.unusedSimpArgs false
def up (x:BitVec 32):BitVec 64:=x.setWidth 64
theorem tE (x:BitVec 32):(up x).toNat=x.toNat:=by
 unfold up
 rw [BitVec.toNat_setWidth]
 have:=x.isLt
 exact Nat.mod_eq_of_lt (by omega)
theorem OW (x:BitVec 32) (n:Nat) (h:n<31):(up (jz x n))/(2:BitVec 64)+((up (jz x n))%(2:BitVec 64))*(2147483648:BitVec 64)=up (jz x (n+1)):=by
 apply BitVec.eq_of_toNat_eq
 have h1:=To (jz x n)
 rw [QE x n h] at h1
 have:=(jz x n).isLt
 rw [BitVec.toNat_add,BitVec.toNat_mul,BitVec.toNat_udiv,BitVec.toNat_umod,tE,tE, ← h1]
 show ((jz x n).toNat/2+(jz x n).toNat%2*2147483648%2 ^ 64)%2 ^ 64=_
 omega
theorem ql (x:BitVec 32) (n:Nat) (h:n<32):dN (up x) (n:Int)=some (up (jz x n)):=by
 refine cS (Comes.next (c':= .L1 (up (jz x 0)) 0) ?_ ?_)
 ·rw [OO];rfl
 ·refine Comes.upto (step:=ki (up x) (n:Int)) (fun i=> .L1 (up (jz x i)) (i:Int)) n ?_ ?_
  ·intro i hi
   simp only [ki]
   rw [decide_eq_true (by omega),cond_true,ah (by unfold bw;omega),OW x i (by omega)]
   rfl
  ·refine Comes.stop ?_
   simp only [ki]
   rw [decide_eq_false (by omega)];rfl
theorem JK (x:BitVec 32) (n:Nat) (h:n<32):nr (up x) (n:Int)=some (up (x >>> n)):=by
 refine cS (Comes.next (c':= .L1 (up (x >>> 0)) 0) ?_ ?_)
 ·simp only [iT]
  rw [show x >>> 0=x from BitVec.ushiftRight_zero x]
 ·refine Comes.upto (step:=iT (up x) (n:Int)) (fun i=> .L1 (up (x >>> i)) (i:Int)) n ?_ ?_
  ·intro i hi
   have e:(up (x >>> i))/(2:BitVec 64)=up (x >>> (i+1)):=by
    apply BitVec.eq_of_toNat_eq
    have:=QF x i
    rw [BitVec.toNat_udiv,tE,tE]
    show (x >>> i).toNat/2=_
    omega
   simp only [iT]
   rw [decide_eq_true (by omega),cond_true,ah (by unfold bw;omega),e]
   rfl
  ·refine Comes.stop ?_
   simp only [iT]
   rw [decide_eq_false (by omega)];rfl
theorem TC (s:List UInt8) (hs:s.length≤1000000):xN s=some (su s):=by
 have Zz:sr s.length<64:=by unfold sr;omega
 refine cS (Comes.next (c':= .L1 (s++[128])) ?_ ?_)
 ·simp only [ff]
  rw [ah (by simp only [List.length_singleton];omega)]
 ·refine Comes.upto (step:=ff s) (fun j=> .L1 (s++128::List.replicate j 0)) (sr s.length) ?_ ?_
  ·intro j hj
   have hl:(s++128::List.replicate j (0:UInt8)).length=s.length+1+j:=by simp;omega
   have e:s++128::List.replicate j (0:UInt8)++[0]=s++128::List.replicate (j+1) 0:=by rw [List.append_assoc,List.cons_append,JI]
   have hne:¬ (((s.length+1+j:Nat):Int).tmod 64=56):=by
    rw [Int.tmod_eq_emod_of_nonneg (by omega)]
    unfold sr at hj
    omega
   simp only [ff]
   rw [hl,decide_eq_false hne,Bool.not_false,cond_true,ah (by simp only [List.length_singleton];omega),e]
  ·have hl:(s++128::List.replicate (sr s.length) (0:UInt8)).length=s.length+1+sr s.length:=by simp;omega
   have he:((s.length+1+sr s.length:Nat):Int).tmod 64=56:=by
    rw [Int.tmod_eq_emod_of_nonneg (by omega)]
    unfold sr
    omega
   have hv:BitVec.ofInt 64 ((8:Int)*(s.length:Int))=BitVec.ofNat 64 (s.length*8/256 ^ 0):=by
    apply BitVec.eq_of_toNat_eq
    rw [BitVec.toNat_ofInt,BitVec.toNat_ofNat,Nat.pow_zero,Nat.div_one]
    show (8*(s.length:Int)%(2 ^ 64:Nat)).toNat=_
    omega
   refine Comes.next (c':= .L2 (uB s) (BitVec.ofNat 64 (s.length*8/256 ^ 0)) (DI (s.length*8) 0).reverse 0) ?_ ?_
   ·simp only [ff]
    rw [hl,decide_eq_true he,Bool.not_true,cond_false,ah (by unfold bw;omega),hv]
    rfl
   ·have hf0:=CK s
    refine Comes.upto (step:=ff s) (fun j=> .L2 (uB s) (BitVec.ofNat 64 (s.length*8/256 ^ j)) (DI (s.length*8) j).reverse (j:Int)) 8 ?_ ?_
    ·intro j hj
     have hle:s.length*8/256 ^ j≤s.length*8:=Nat.div_le_self _ _
     have hn:(BitVec.ofNat 64 (s.length*8/256 ^ j)).toNat=s.length*8/256 ^ j:=by
      rw [BitVec.toNat_ofNat];exact Nat.mod_eq_of_lt (by omega)
     have e1:(BitVec.ofNat 64 (s.length*8/256 ^ j))/(256:BitVec 64)=BitVec.ofNat 64 (s.length*8/256 ^ (j+1)):=by
      apply BitVec.eq_of_toNat_eq
      rw [BitVec.toNat_udiv,hn,BitVec.toNat_ofNat, ← div_pow]
      show s.length*8/256 ^ j/256=s.length*8/256 ^ j/256%2 ^ 64
      omega
     have e2:gf ((((BitVec.ofNat 64 (s.length*8/256 ^ j))%(256:BitVec 64)).toNat:Nat):Int)=UInt8.ofNat (s.length*8/256 ^ j):=by
      rw [wv,BitVec.toNat_umod,hn]
      exact tD _
     have hlen:=DJ (s.length*8) j
     simp only [ff]
     rw [decide_eq_true (by omega),cond_true,ah (by simp only [List.length_singleton,List.length_reverse];omega),ah (by unfold bw;omega),e1,e2,Tt]
     rfl
    ·have hlen:=DJ (s.length*8) 8
     refine Comes.stop ?_
     simp only [ff]
     rw [decide_eq_false (by omega),cond_false,ah (by rw [List.length_reverse];omega)]
     rfl
end Go.Proofs.YtlfjfoknbjcncaaGreat.K
namespace Go.Proofs.YtlfjfoknbjcncaaGreat.K
open Go
set_option linter.unusedVariables false
set_option linter.unusedSimpArgs false
theorem FO (x y:BitVec 32):up x^^^up y=up (x^^^y):=by unfold up;exact (BitVec.setWidth_xor).symm
theorem VZ (x y:BitVec 32):up x&&& up y=up (x&&& y):=by unfold up;exact (BitVec.setWidth_and).symm
theorem XZ (x y:BitVec 32):up x||| up y=up (x||| y):=by unfold up;exact (BitVec.setWidth_or).symm
theorem KC (x:BitVec 32):(up x).setWidth 32=x:=by
 apply BitVec.eq_of_toNat_eq
 rw [BitVec.toNat_setWidth,tE]
 exact Nat.mod_eq_of_lt x.isLt
theorem KD (x y:BitVec 64):(x+y).setWidth 32=x.setWidth 32+y.setWidth 32:=BitVec.setWidth_add x y (by omega)
theorem KE (X:BitVec 64):kA X=some (up (X.setWidth 32)):=by
 unfold kA
 refine congrArg some (BitVec.eq_of_toNat_eq ?_)
 rw [BitVec.toNat_umod,tE,BitVec.toNat_setWidth]
 rfl
theorem V0 (x:BitVec 32):(4294967295:BitVec 64)-up x=up (~~~x):=by
 apply BitVec.eq_of_toNat_eq
 rw [BitVec.toNat_sub,tE,tE,BitVec.toNat_not]
 have:=x.isLt
 show (2 ^ 64-x.toNat+4294967295)%2 ^ 64=_
 omega
theorem pN (l:List Wd) (i:Nat):idx (l.map up) (i:Int)=up (l.getD i 0):=by
 rw [gl,List.getD_eq_getElem?_getD,List.getElem?_map,List.getD_eq_getElem?_getD]
 cases l[i]? <;>rfl
theorem ZA (l:List (BitVec 64)) (k:List Wd) (i:Nat) (h:i<64) (hl:l.length=64) (e:l=k.map up):gO (0≤(i:Int)∧(i:Int)<(l.length:Int)) (some (idx l (i:Int)))=some (up (k.getD i 0)):=by
 rw [ah (by omega),e,pN]
theorem X0:([1116352408,1899447441,3049323471,3921009573,961987163,1508970993,2453635748,2870763221,3624381080,310598401,607225278,1426881987,1925078388,2162078206,2614888103,3248222580,3835390401,4022224774,264347078,604807628,770255983,1249150122,1555081692,1996064986,2554220882,2821834349,2952996808,3210313671,3336571891,3584528711,113926993,338241895,666307205,773529912,1294757372,1396182291,1695183700,1986661051,2177026350,2456956037,2730485921,2820302411,3259730800,3345764771,3516065817,3600352804,4094571909,275423344,430227734,506948616,659060556,883997877,958139571,1322822218,1537002063,1747873779,1955562222,2024104815,2227730452,2361852424,2428436474,2756734187,3204031479,3329325298]:List (BitVec 64))=Ff.map up:=by
 unfold Ff up
 simp only [List.map_cons,List.map_nil,BitVec.reduceSetWidth,BitVec.ofNat_eq_ofNat]
theorem ZB (i:Nat) (h:i<64):y9 (i:Int)=some (up (Ff.getD i 0)):=ZA _ Ff i h rfl X0
theorem QS (h:List Wd) (s:List UInt8) (hh:h.length=8) (hs:s.length=64):wg (h.map up) s=some ((sq h s).map up):=by
 have t6:∀ x,dN (up x) 6=some (up (jz x 6)):=fun x=>ql x 6 (by omega)
 have t7:∀ x,dN (up x) 7=some (up (jz x 7)):=fun x=>ql x 7 (by omega)
 have t18:∀ x,dN (up x) 18=some (up (jz x 18)):=fun x=>ql x 18 (by omega)
 have t17:∀ x,dN (up x) 17=some (up (jz x 17)):=fun x=>ql x 17 (by omega)
 have t19:∀ x,dN (up x) 19=some (up (jz x 19)):=fun x=>ql x 19 (by omega)
 have t11:∀ x,dN (up x) 11=some (up (jz x 11)):=fun x=>ql x 11 (by omega)
 have t25:∀ x,dN (up x) 25=some (up (jz x 25)):=fun x=>ql x 25 (by omega)
 have t2:∀ x,dN (up x) 2=some (up (jz x 2)):=fun x=>ql x 2 (by omega)
 have t13:∀ x,dN (up x) 13=some (up (jz x 13)):=fun x=>ql x 13 (by omega)
 have t22:∀ x,dN (up x) 22=some (up (jz x 22)):=fun x=>ql x 22 (by omega)
 have s3:∀ x,nr (up x) 3=some (up (x >>> 3)):=fun x=>JK x 3 (by omega)
 have s10:∀ x,nr (up x) 10=some (up (x >>> 10)):=fun x=>JK x 10 (by omega)
 have ZC:∀ i,((j0 s i).map up).length=i:=fun i=>by rw [List.length_map,wD]
 have hwn:∀ i,(j0 s i).map up++[up (p7 s i)]=(j0 s (i+1)).map up:=fun i=>by rw [Fe,List.map_append];rfl
 refine cS (Comes.next (c':= .L1 ((j0 s 0).map up) ((0:Nat):Int)) rfl ?_)
 refine Comes.S6 (step:=bS (h.map up) s) (fun i=> .L1 ((j0 s i).map up) (i:Int)) 64 ?_ ?_
 ·intro i hi hn
  have hJ:Comes (bS (h.map up) s) (.J2 ((j0 s (i+1)).map up) (i:Int)) ((sq h s).map up):=by
   refine Comes.next ?_ hn
   simp only [bS]
   rw [ah (by unfold bw;omega)]
   rfl
  have hl:=ZC i
  by_cases AG:i<16
  ·refine Comes.next (c':= .L3 ((j0 s i).map up) (i:Int) (BitVec.ofNat 64 (HR s (4*i) 0)) ((4*i+0:Nat):Int)) ?_ ?_
   ·simp only [bS]
    rw [decide_eq_true (by omega),cond_true,decide_eq_true (by omega),cond_true,ah (by unfold bw;omega)]
    rfl
   ·refine Comes.upto (step:=bS (h.map up) s) (fun j=> .L3 ((j0 s i).map up) (i:Int) (BitVec.ofNat 64 (HR s (4*i) j)) ((4*i+j:Nat):Int)) 4 ?_ ?_
    ·intro j hj
     have e:(256:BitVec 64)*BitVec.ofNat 64 (HR s (4*i) j)+BitVec.ofInt 64 ((idx s ((4*i+j:Nat):Int)).toNat:Int)=BitVec.ofNat 64 (HR s (4*i) (j+1)):=by
      apply BitVec.eq_of_toNat_eq
      have h1:=KB s (4*i) j (by omega)
      have h2:=KB s (4*i) (j+1) (by omega)
      have h3:HR s (4*i) (j+1)=256*HR s (4*i) j+(s.getD (4*i+j) 0).toNat:=rfl
      have h4:idx s ((4*i+j:Nat):Int)=s.getD (4*i+j) 0:=gl _ _
      have h5:=nc (s.getD (4*i+j) 0)
      rw [h4,BitVec.toNat_add,BitVec.toNat_mul,BitVec.toNat_ofNat,BitVec.toNat_ofNat,BitVec.toNat_ofInt,h3]
      show (256*(HR s (4*i) j%2 ^ 64)%2 ^ 64+(((s.getD (4*i+j) 0).toNat:Int)%(2 ^ 64:Nat)).toNat)%2 ^ 64=_
      omega
     simp only [bS]
     rw [ah (by unfold bw;omega),ah (by unfold bw;omega),decide_eq_true (by omega),cond_true,ah (by omega),ah (by unfold bw;omega),e]
     rfl
    ·have e:BitVec.ofNat 64 (HR s (4*i) 4)=up (p7 s i):=by
      apply BitVec.eq_of_toNat_eq
      have h1:=QK (s:=s) AG (rfl:4=4)
      have h2:=KB s (4*i) 4 (by omega)
      rw [tE,BitVec.toNat_ofNat]
      omega
     refine Comes.next ?_ hJ
     simp only [bS]
     rw [ah (by unfold bw;omega),ah (by unfold bw;omega),decide_eq_false (by omega),cond_false,ah (by rw [hl];simp only [List.length_singleton];omega),e,hwn]
  ·have d16:(i:Int)-16=((i-16:Nat):Int):=by omega
   have d15:(i:Int)-15=((i-15:Nat):Int):=by omega
   have d7:(i:Int)-7=((i-7:Nat):Int):=by omega
   have d2:(i:Int)-2=((i-2:Nat):Int):=by omega
   refine Comes.next ?_ hJ
   simp only [bS]
   rw [decide_eq_true (by omega),cond_true,decide_eq_false (by omega),cond_false,d16,d15,d7,d2,ah (by unfold bw;omega),ah (by omega),ah (by unfold bw;omega),ah (by omega)]
   simp only [pN,t7,t18,s3,t17,t19,s10,Option.bind_some]
   rw [ah (by unfold bw;omega),ah (by omega),ah (by unfold bw;omega),ah (by omega)]
   simp only [FO,KE,KD,KC,Option.bind_some]
   rw [XX (by omega),ah (by rw [hl];simp only [List.length_singleton];omega),hwn]
 ·refine Comes.next (c':= .L4 ((j0 s 64).map up) ((ug s h 0).map up) ((0:Nat):Int)) ?_ ?_
  ·simp only [bS]
   rw [decide_eq_false (by omega),cond_false,ah (by simp only [List.length_nil,List.length_map];omega)]
   rfl
  ·refine Comes.upto (step:=bS (h.map up) s) (fun i=> .L4 ((j0 s 64).map up) ((ug s h i).map up) (i:Int)) 64 ?_ ?_
   ·intro i hi
    have hv:((ug s h i).map up).length=8:=by rw [List.length_map,yC s h i hh]
    have hl:=ZC 64
    have i0:∀ l:List Wd,idx (l.map up) (0:Int)=up (l.getD 0 0):=fun l=>pN l 0
    have i1:∀ l:List Wd,idx (l.map up) (1:Int)=up (l.getD 1 0):=fun l=>pN l 1
    have i2:∀ l:List Wd,idx (l.map up) (2:Int)=up (l.getD 2 0):=fun l=>pN l 2
    have i3:∀ l:List Wd,idx (l.map up) (3:Int)=up (l.getD 3 0):=fun l=>pN l 3
    have i4:∀ l:List Wd,idx (l.map up) (4:Int)=up (l.getD 4 0):=fun l=>pN l 4
    have i5:∀ l:List Wd,idx (l.map up) (5:Int)=up (l.getD 5 0):=fun l=>pN l 5
    have i6:∀ l:List Wd,idx (l.map up) (6:Int)=up (l.getD 6 0):=fun l=>pN l 6
    have i7:∀ l:List Wd,idx (l.map up) (7:Int)=up (l.getD 7 0):=fun l=>pN l 7
    simp only [bS,hv,hl]
    rw [decide_eq_true (by omega),cond_true]
    iterate 9 rw [ah (by omega)]
    simp only [i0,i1,i2,i3,i4,i5,i6,i7,t6,t11,t25,ZB i hi,Option.bind_some]
    rw [ah (by omega)]
    simp only [V0,pN,qU hi,FO,VZ,XZ]
    simp only [KE]
    simp only [KD,KC]
    rw [Option.bind_some,t2,Option.bind_some,t13,Option.bind_some,t22,Option.bind_some,FO,FO,Option.bind_some,Option.bind_some]
    iterate 4 rw [ah (by omega)]
    rw [Option.bind_some]
    simp only [KC]
    iterate 3 rw [ah (by omega)]
    rw [ah (by unfold bw;omega),Tp,Tq,OR]
    rfl
   ·refine Comes.next (c':= .L5 ((ug s h 64).map up) ((DL h (ug s h 64) 0).map up) ((0:Nat):Int)) ?_ ?_
    ·simp only [bS]
     rw [decide_eq_false (by omega),cond_false]
     rfl
    ·refine Comes.upto (step:=bS (h.map up) s) (fun i=> .L5 ((ug s h 64).map up) ((DL h (ug s h 64) i).map up) (i:Int)) 8 ?_ ?_
     ·intro i hi
      have hv:((ug s h 64).map up).length=8:=by rw [List.length_map,yC s h 64 hh]
      have ho:((DL h (ug s h 64) i).map up).length=i:=by rw [List.length_map,QL]
      simp only [bS,hv,ho,List.length_map,hh,pN,KE,KD,KC]
      rw [decide_eq_true (by omega),cond_true,ah (by omega),ah (by omega),Option.bind_some,ah (by simp only [List.length_singleton];omega),ah (by unfold bw;omega),OT,List.map_append]
      rfl
     ·refine Comes.stop ?_
      simp only [bS]
      rw [decide_eq_false (by omega),cond_false,OU h s hh]
end Go.Proofs.YtlfjfoknbjcncaaGreat.K
namespace Go.Proofs.YtlfjfoknbjcncaaGreat.K
open Go
set_option linter.unusedVariables false
set_option linter.unusedSimpArgs false
theorem Pv (s t:List UInt8) (ht:t.length≤2000000) (r:List UInt8):∀ (k j:Nat) (h:List Wd),h.length=8→t.length=64*(j+k)→(∀ g:List Wd,g.length=8→sv h (t.drop (64*j))=g→Comes (dP s) (.L2 (g.map up) [] 0) r)→Comes (dP s) (.L1 (h.map up) t ((64*j:Nat):Int)) r
 | 0,j,h,hh,hl,hr=>by
  have e:t.drop (64*j)=[]:=List.drop_of_length_le (by omega)
  refine Comes.next ?_ (hr h hh (DK rfl e).symm)
  simp only [dP]
  rw [decide_eq_false (by omega),cond_false]
 | k+1,j,h,hh,hl,hr=>by
  have hB:=QS h ((t.drop (64*j)).take 64) hh (by rw [List.length_take,List.length_drop];omega)
  have hs:sub t ((64*j:Nat):Int) (((64*j:Nat):Int)+64)=(t.drop (64*j)).take 64:=by
   rw [show ((64*j:Nat):Int)+64=((64*j+64:Nat):Int) by omega,S7,show 64*j+64-64*j=64 by omega]
  have e:(t.drop (64*j)).drop 64=t.drop (64*(j+1)):=by rw [List.drop_drop];congr 1
  refine Comes.next (c':= .L1 ((sq h ((t.drop (64*j)).take 64)).map up) t ((64*(j+1):Nat):Int)) ?_ (Pv s t ht r k (j+1) _ (KA hh) (by omega) (fun g hg hgf=>hr g hg ?_))
  ·simp only [dP]
   rw [decide_eq_true (by omega),cond_true,ah (by unfold bw;omega),ah (by omega),hs,hB,Option.bind_some,ah (by unfold bw;omega),show ((64*j:Nat):Int)+64=((64*(j+1):Nat):Int) by omega]
  ·rw [BT h (by rw [List.length_drop];omega),e];exact hgf
theorem V1 (s:List UInt8) (g:List Wd) (hg:g.length=8):Comes (dP s) (.L2 (g.map up) ((List.range 0).map (uO g)) ((0:Nat):Int)) ((List.range 32).map (uO g)):=by
 refine Comes.S6 (step:=dP s) (fun i=> .L2 (g.map up) ((List.range i).map (uO g)) (i:Int)) 32 ?_ ?_
 ·intro i hi hn
  have q1:(i:Int).tdiv 4=((i/4:Nat):Int):=by rw [Int.tdiv_eq_ediv_of_nonneg (by omega)];omega
  have q2:(i:Int).tmod 4=((i%4+0:Nat):Int):=by rw [Int.tmod_eq_emod_of_nonneg (by omega)];omega
  have hx:=(g.getD (i/4) 0).isLt
  have hm:(g.map up).length=8:=by rw [List.length_map,hg]
  refine Comes.next (c':= .L3 (g.map up) ((List.range i).map (uO g)) (i:Int) (BitVec.ofNat 64 ((g.getD (i/4) 0).toNat/256 ^ 0)) ((i%4+0:Nat):Int)) ?_ ?_
  ·have e:up (g.getD (i/4) 0)=BitVec.ofNat 64 ((g.getD (i/4) 0).toNat/256 ^ 0):=by
    apply BitVec.eq_of_toNat_eq
    rw [tE,BitVec.toNat_ofNat,Nat.pow_zero,Nat.div_one]
    exact (Nat.mod_eq_of_lt (by omega)).symm
   simp only [dP,hm,q1,q2,pN,e]
   rw [decide_eq_true (by omega),cond_true,ah ⟨by decide,by unfold bw;omega⟩,ah (by omega)]
  ·refine Comes.upto (step:=dP s) (fun m=> .L3 (g.map up) ((List.range i).map (uO g)) (i:Int) (BitVec.ofNat 64 ((g.getD (i/4) 0).toNat/256 ^ m)) ((i%4+m:Nat):Int)) (3-i%4) ?_ ?_
   ·intro m hm
    have hle:(g.getD (i/4) 0).toNat/256 ^ m≤(g.getD (i/4) 0).toNat:=Nat.div_le_self _ _
    have e:(BitVec.ofNat 64 ((g.getD (i/4) 0).toNat/256 ^ m))/(256:BitVec 64)=BitVec.ofNat 64 ((g.getD (i/4) 0).toNat/256 ^ (m+1)):=by
     apply BitVec.eq_of_toNat_eq
     rw [BitVec.toNat_udiv,BitVec.toNat_ofNat,BitVec.toNat_ofNat, ← div_pow]
     generalize (g.getD (i/4) 0).toNat/256 ^ m=q at hle
     show q%2 ^ 64/256=q/256%2 ^ 64
     omega
    simp only [dP]
    rw [decide_eq_true (by omega),cond_true,ah (by unfold bw;omega),e]
    rfl
   ·have hle:(g.getD (i/4) 0).toNat/256 ^ (3-i%4)≤(g.getD (i/4) 0).toNat:=Nat.div_le_self _ _
    have e:gf (((BitVec.ofNat 64 ((g.getD (i/4) 0).toNat/256 ^ (3-i%4))%(256:BitVec 64)).toNat:Nat):Int)=uO g i:=by
     rw [wv,BitVec.toNat_umod,BitVec.toNat_ofNat, ← Tu]
     generalize (g.getD (i/4) 0).toNat/256 ^ (3-i%4)=q at hle
     rw [Nat.mod_eq_of_lt (show q<2 ^ 64 by omega)]
     exact tD q
    have hl:((List.range i).map (uO g)).length=i:=by simp
    refine Comes.next ?_ hn
    simp only [dP,e,hl]
    rw [decide_eq_false (by omega),cond_false,ah (by simp only [List.length_singleton];omega),ah (by unfold bw;omega),List.range_succ,List.map_append]
    rfl
 ·refine Comes.stop ?_
  simp only [dP]
  rw [decide_eq_false (by omega),cond_false]
theorem V4 (s:List UInt8) (hs:s.length≤1000000):Ay s=some (Fg s):=by
 have hF:=HQ s
 refine cS (Comes.next (c':= .L1 (Mw.map up) (su s) ((64*0:Nat):Int)) ?_ ?_)
 ·simp only [dP]
  rw [TC s hs,Option.bind_some]
  rfl
 ·refine Pv s (su s) (by omega) _ ((su s).length/64) 0 Mw rfl (by omega) fun g hg e=>?_
  have:Ww s=g:=by rw [← e];rfl
  rw [Fg,this]
  exact V1 s g hg
def cl (l:List (List UInt8)) (j k:Nat):Prop:=Fg (idx l (j:Int))=Fg (idx l (k:Int))∧idx l (j:Int)≠idx l (k:Int)
end Go.Proofs.YtlfjfoknbjcncaaGreat.K
