/- Layer 08: what it reckons. -/
import Derived.Test.YtlfjfoknbjcncaaGreatGG7
import Derived.KernelRfl
import Derived.Test.YtlfjfoknbjcncaaGreatGG3
import Derived.Test.YtlfjfoknbjcncaaGreatGG5
namespace Go.Proofs.YtlfjfoknbjcncaaGreat.K
open Go Go.RowKit
set_option linter.unusedSimpArgs false
set_option linter.unusedVariables false
set_option maxRecDepth 20000
set_option maxHeartbeats 4000000
namespace TT
theorem Du:pX Tryz.prog 43=some ([Value.int IntKind.u8 0,Value.int IntKind.u8 0,Value.int IntKind.u8 0,Value.int IntKind.u8 0,Value.int IntKind.u8 0,Value.int IntKind.u8 0,Value.int IntKind.u8 0,Value.int IntKind.u8 0,Value.int IntKind.u8 0,Value.int IntKind.u8 0,Value.int IntKind.u8 0,Value.int IntKind.u8 0,Value.int IntKind.u8 0,Value.int IntKind.u8 0,Value.int IntKind.u8 0,Value.int IntKind.u8 0,Value.int IntKind.u8 0,Value.int IntKind.u8 0,Value.int IntKind.u8 0,Value.int IntKind.u8 0,Value.int IntKind.u8 0,Value.int IntKind.u8 0,Value.int IntKind.u8 0,Value.int IntKind.u8 0,Value.int IntKind.u8 0,Value.int IntKind.u8 0,Value.int IntKind.u8 0,Value.int IntKind.u8 0,Value.int IntKind.u8 0,Value.int IntKind.u8 0,Value.int IntKind.u8 0,Value.int IntKind.u8 0,Value.string ⟨#[]⟩], .inl [(0,32),(32,1)]):=by kernel_rfl
theorem ON:aN Tryz.prog 13=true:=by kernel_rfl
theorem OO:aN Tryz.prog 16=true:=by kernel_rfl
theorem HF:aN Tryz.prog 18=true:=by kernel_rfl
theorem OP:aN Tryz.prog 21=true:=by kernel_rfl
theorem Jx:aN Tryz.prog 6=true:=by kernel_rfl
theorem QT:aN Tryz.prog 7=true:=by kernel_rfl
theorem Jy:aN Tryz.prog 8=true:=by kernel_rfl
theorem El:aN Tryz.prog 9=true:=by kernel_rfl
theorem OQ:lu Tryz.prog 30 0=some (0,1,false):=by kernel_rfl
theorem td:lu Tryz.prog 30 1=some (1,32,true):=by kernel_rfl
theorem zg:lu Tryz.prog 30 2=some (33,1,false):=by kernel_rfl
theorem X5:Tryz.f3.results.toList=[.tmp 2]:=rfl
theorem X6:Tryz.f6.results.toList=[.tmp 0]:=rfl
theorem TC:l6 Tryz.prog 22=some (34,56,true):=by kernel_rfl
theorem Pz:jC Tryz.prog 30=some (true,34):=by kernel_rfl
theorem QU:Program.underlying Tryz.prog 22=some (.slice 30):=by kernel_rfl
theorem HG:Program.underlying Tryz.prog 4=some (.bool):=by kernel_rfl
theorem Jz:lG Tryz.prog 28=some [Value.int IntKind.u8 0,Value.int IntKind.u8 0,Value.int IntKind.u8 0,Value.int IntKind.u8 0,Value.int IntKind.u8 0,Value.int IntKind.u8 0,Value.int IntKind.u8 0,Value.int IntKind.u8 0,Value.int IntKind.u8 0,Value.int IntKind.u8 0,Value.int IntKind.u8 0,Value.int IntKind.u8 0,Value.int IntKind.u8 0,Value.int IntKind.u8 0,Value.int IntKind.u8 0,Value.int IntKind.u8 0,Value.int IntKind.u8 0,Value.int IntKind.u8 0,Value.int IntKind.u8 0,Value.int IntKind.u8 0,Value.int IntKind.u8 0,Value.int IntKind.u8 0,Value.int IntKind.u8 0,Value.int IntKind.u8 0,Value.int IntKind.u8 0,Value.int IntKind.u8 0,Value.int IntKind.u8 0,Value.int IntKind.u8 0,Value.int IntKind.u8 0,Value.int IntKind.u8 0,Value.int IntKind.u8 0,Value.int IntKind.u8 0]:=by kernel_rfl
theorem QV:lG Tryz.prog 30=some [Value.int IntKind.i64 0,Value.int IntKind.u8 0,Value.int IntKind.u8 0,Value.int IntKind.u8 0,Value.int IntKind.u8 0,Value.int IntKind.u8 0,Value.int IntKind.u8 0,Value.int IntKind.u8 0,Value.int IntKind.u8 0,Value.int IntKind.u8 0,Value.int IntKind.u8 0,Value.int IntKind.u8 0,Value.int IntKind.u8 0,Value.int IntKind.u8 0,Value.int IntKind.u8 0,Value.int IntKind.u8 0,Value.int IntKind.u8 0,Value.int IntKind.u8 0,Value.int IntKind.u8 0,Value.int IntKind.u8 0,Value.int IntKind.u8 0,Value.int IntKind.u8 0,Value.int IntKind.u8 0,Value.int IntKind.u8 0,Value.int IntKind.u8 0,Value.int IntKind.u8 0,Value.int IntKind.u8 0,Value.int IntKind.u8 0,Value.int IntKind.u8 0,Value.int IntKind.u8 0,Value.int IntKind.u8 0,Value.int IntKind.u8 0,Value.int IntKind.u8 0,Value.string ⟨#[]⟩]:=by kernel_rfl
end TT
theorem tD (v0:(aE 32 UInt8)) (v1:(List UInt8)):(k8 (some ([Value.int IntKind.u8 0,Value.int IntKind.u8 0,Value.int IntKind.u8 0,Value.int IntKind.u8 0,Value.int IntKind.u8 0,Value.int IntKind.u8 0,Value.int IntKind.u8 0,Value.int IntKind.u8 0,Value.int IntKind.u8 0,Value.int IntKind.u8 0,Value.int IntKind.u8 0,Value.int IntKind.u8 0,Value.int IntKind.u8 0,Value.int IntKind.u8 0,Value.int IntKind.u8 0,Value.int IntKind.u8 0,Value.int IntKind.u8 0,Value.int IntKind.u8 0,Value.int IntKind.u8 0,Value.int IntKind.u8 0,Value.int IntKind.u8 0,Value.int IntKind.u8 0,Value.int IntKind.u8 0,Value.int IntKind.u8 0,Value.int IntKind.u8 0,Value.int IntKind.u8 0,Value.int IntKind.u8 0,Value.int IntKind.u8 0,Value.int IntKind.u8 0,Value.int IntKind.u8 0,Value.int IntKind.u8 0,Value.int IntKind.u8 0,Value.string ⟨#[]⟩], .inl [(0,32),(32,1)])) [(0, .d (.agg (v0.1.map U))),(1,pS v1)]).2∧(k8 (some ([Value.int IntKind.u8 0,Value.int IntKind.u8 0,Value.int IntKind.u8 0,Value.int IntKind.u8 0,Value.int IntKind.u8 0,Value.int IntKind.u8 0,Value.int IntKind.u8 0,Value.int IntKind.u8 0,Value.int IntKind.u8 0,Value.int IntKind.u8 0,Value.int IntKind.u8 0,Value.int IntKind.u8 0,Value.int IntKind.u8 0,Value.int IntKind.u8 0,Value.int IntKind.u8 0,Value.int IntKind.u8 0,Value.int IntKind.u8 0,Value.int IntKind.u8 0,Value.int IntKind.u8 0,Value.int IntKind.u8 0,Value.int IntKind.u8 0,Value.int IntKind.u8 0,Value.int IntKind.u8 0,Value.int IntKind.u8 0,Value.int IntKind.u8 0,Value.int IntKind.u8 0,Value.int IntKind.u8 0,Value.int IntKind.u8 0,Value.int IntKind.u8 0,Value.int IntKind.u8 0,Value.int IntKind.u8 0,Value.int IntKind.u8 0,Value.string ⟨#[]⟩], .inl [(0,32),(32,1)])) [(0, .d (.agg (v0.1.map U))),(1,pS v1)]).1= .agg ((iD (⟨v0,v1⟩:bt)).map .d):=
 dM rfl (show (k7 _ ((iD ({bQ:=(aE.rep 32 (0:UInt8)),ay:=([]:(List UInt8))}:bt)).map PV.d) _).2∧(k7 _ ((iD ({bQ:=(aE.rep 32 (0:UInt8)),ay:=([]:(List UInt8))}:bt)).map PV.d) _).1=_ from (cx rfl rfl (show ((v0.1.map U).map PV.d).length=32 by rw [List.length_map,List.length_map,v0.2]) (by rw [List.length_map,dN.len];decide) (LW _ v0) (cx rfl rfl rfl (by rw [List.length_map,dN.len];decide) (LX _ v1) dL)))
noncomputable def nk:Option Bool:=
  ((s6 ([(⟨(aE.rep 32 (0:UInt8)),([120]:List UInt8)⟩:bt),(⟨((aE.rep 32 (0:UInt8)).put (0:Int) (16:UInt8)),([121]:List UInt8)⟩:bt)]:List bt)).bind fun (x_1:Tree)=>
  ((iH x_1 ((aE.rep 32 (0:UInt8)).put (0:Int) (16:UInt8))).bind fun (x_3:((List UInt8)×Int))=>
  ((gN x_1 (aE.rep 32 (0:UInt8))).bind fun (x_5:(Tree×Int))=>
  ((ow x_1).bind fun (x_7:(Node×(List Tree)))=>
  ((bif ((((x_3.1==([121]:List UInt8))&&(decide ((x_3.2)=(0:Int))))&&(decide ((x_5.2)=(0:Int))))==true) then kf (x_5.1) else some default).bind fun (x_9:(List UInt8))=>
  ((bif ((((x_3.1==([121]:List UInt8))&&(decide ((x_3.2)=(0:Int))))&&(decide ((x_5.2)=(0:Int))))==true) then s6 ([(⟨((aE.rep 32 (0:UInt8)).put (0:Int) (16:UInt8)),([121]:List UInt8)⟩:bt)]:List bt) else some default).bind fun (x_11:Tree)=>
  ((bif ((((x_3.1==([121]:List UInt8))&&(decide ((x_3.2)=(0:Int))))&&(decide ((x_5.2)=(0:Int))))==true) then kf x_11 else some default).bind fun (x_13:(List UInt8))=>
  ((bif (((((((x_3.1==([121]:List UInt8))&&(decide ((x_3.2)=(0:Int))))&&(decide ((x_5.2)=(0:Int))))&&(x_9==x_13))&&(decide (((x_7.1).aW)=(3:Int))))&&(decide (((x_7.2).length:Int)=(2:Int))))==true) then kf (x_5.1) else some default).bind fun (x_15:(List UInt8))=>
  ((bif ((((((((x_3.1==([121]:List UInt8))&&(decide ((x_3.2)=(0:Int))))&&(decide ((x_5.2)=(0:Int))))&&(x_9==x_13))&&(decide (((x_7.1).aW)=(3:Int))))&&(decide (((x_7.2).length:Int)=(2:Int))))&&(!(x_15==([]:List UInt8))))==true) then jq (⟨aa.nil⟩:Tree) else some default).bind fun (x_17:Bool)=>
  some ((((((((x_3.1==([121]:List UInt8))&&(decide ((x_3.2)=(0:Int))))&&(decide ((x_5.2)=(0:Int))))&&(x_9==x_13))&&(decide (((x_7.1).aW)=(3:Int))))&&(decide (((x_7.2).length:Int)=(2:Int))))&&(!(x_15==([]:List UInt8))))&&x_17))))))))))
theorem yy (r:Bool) (h:nk=some r):bE Tryz.prog 6 [] (.val (.bool r)):=by
 refine bE.aU Tryz.func6 rfl (by simp [Tryz.ntmps6]) ?_
 rw [Tryz.ntmps6,TT.X6]
 refine QW.view (s':=⟨aF [],aj [],0,[]⟩) (View.init (by rfl)) zL ?_
 unfold nk at h
 refine sR ?_
 refine xz 0 (pB false) ?_
 refine sR ?_
 refine xs 1 rfl (bP (l:=(((aE.rep 32 (0:UInt8)).1.map U).map .d)) rfl TT.Jz rfl rfl ?_)
 refine xs 2 rfl (bP (l:=(((aE.rep 32 (0:UInt8)).1.map U).map .d)) rfl TT.Jz rfl rfl ?_)
 refine XK.nz ?_
 refine sR ?_
 refine xs 10 rfl (cX (i:=(0:Int)) rfl TT.Mo TT.GD rfl rfl (show 0≤(0:Int)∧(0:Int)<((32:Nat):Int) by decide) ?_)
 refine XK.st none rfl rfl (bw (c:=[.d (.val (.int .u8 ((16:UInt8).toNat:Int)))]) (l':=((((aE.rep 32 (0:UInt8)).put (0:Int) (16:UInt8)).1.map U).map .d)) rfl TT.kG rfl rfl rfl rfl rfl rfl (tP (show 0≤(0:Int)∧(0:Int)<((32:Nat):Int) by decide)) (rI (show 0≤(0:Int)∧(0:Int)<((32:Nat):Int) by decide)) ?_)
 refine XK.nz ?_
 refine sR ?_
 refine XK.as (some 11) rfl rfl (bx (v:= .agg (((aE.rep 32 (0:UInt8)).1.map U).map .d)) rfl TT.iB rfl rfl (kE (by decide)) ⟨.d (.agg ((aE.rep 32 (0:UInt8)).1.map U)),ia,?_⟩)
 refine XK.as (some 12) rfl rfl (fk (v:= .agg ((iD (⟨(aE.rep 32 (0:UInt8)),([120]:List UInt8)⟩:bt)).map .d)) rfl TT.Du (tD (aE.rep 32 (0:UInt8)) ([120]:List UInt8)) ⟨.d (.agg (iD (⟨(aE.rep 32 (0:UInt8)),([120]:List UInt8)⟩:bt))),ia,?_⟩)
 refine XK.as (some 13) rfl rfl (bx (v:= .agg ((((aE.rep 32 (0:UInt8)).put (0:Int) (16:UInt8)).1.map U).map .d)) rfl TT.iB rfl rfl (kE (by decide)) ⟨.d (.agg (((aE.rep 32 (0:UInt8)).put (0:Int) (16:UInt8)).1.map U)),ia,?_⟩)
 refine XK.as (some 14) rfl rfl (fk (v:= .agg ((iD (⟨((aE.rep 32 (0:UInt8)).put (0:Int) (16:UInt8)),([121]:List UInt8)⟩:bt)).map .d)) rfl TT.Du (tD ((aE.rep 32 (0:UInt8)).put (0:Int) (16:UInt8)) ([121]:List UInt8)) ⟨.d (.agg (iD (⟨((aE.rep 32 (0:UInt8)).put (0:Int) (16:UInt8)),([121]:List UInt8)⟩:bt))),ia,?_⟩)
 refine xs 15 rfl (dU (en:=bq) (l:=([(⟨(aE.rep 32 (0:UInt8)),([120]:List UInt8)⟩:bt),(⟨((aE.rep 32 (0:UInt8)).put (0:Int) (16:UInt8)),([121]:List UInt8)⟩:bt)]:List bt)) rfl TT.ud dN (by first | rfl | (simp only [List.map_cons,List.map_nil,yf];rfl)) rfl (by decide) (by simp [dg,cQ,aB,dK,PV.cz,cu,aF,jz,iL,jP,bV,Value.oneCell']) ?_)
 obtain ⟨x_1,fy,h⟩:=bO h
 refine xs 16 rfl (aA rfl rfl TT.HF rfl (Dk ([(⟨(aE.rep 32 (0:UInt8)),([120]:List UInt8)⟩:bt),(⟨((aE.rep 32 (0:UInt8)).put (0:Int) (16:UInt8)),([121]:List UInt8)⟩:bt)]:List bt) _ fy) ?_)
 refine xs 3 rfl (bP (l:=[.d (ah (aa.nil))]) rfl TT.n4 rfl rfl ?_)
 refine XK.st none rfl rfl (bw (l':=[.d (ah (x_1.fp))]) rfl TT.fC rfl rfl rfl rfl rfl rfl (by simp) rfl ?_)
 refine XK.nz ?_
 refine sR ?_
 refine XK.as (some 18) rfl rfl (bx (v:= .agg [.d (ah (x_1.fp))]) rfl TT.fC rfl rfl ⟨⟨by simp,by simp⟩,rfl⟩ ⟨.d (.agg (dj x_1)),(iy.cW rfl),?_⟩)
 refine XK.as (some 19) rfl rfl (bx (v:= .agg ((((aE.rep 32 (0:UInt8)).put (0:Int) (16:UInt8)).1.map U).map .d)) rfl TT.iB rfl rfl (kE (by decide)) ⟨.d (.agg (((aE.rep 32 (0:UInt8)).put (0:Int) (16:UInt8)).1.map U)),ia,?_⟩)
 obtain ⟨x_3,vM,h⟩:=bO h
 refine xs 20 rfl (aA rfl rfl TT.Cl rfl (qI x_1 ((aE.rep 32 (0:UInt8)).put (0:Int) (16:UInt8)) _ vM) ?_)
 refine xm 17 (.d (.tuple [.val (sV (x_3.1)), .val (.int .i64 (x_3.2))])) ?_
 refine xs 21 rfl (bz rfl rfl rfl ?_)
 refine xs 22 rfl (bz rfl rfl rfl ?_)
 refine xa 4 (pS (x_3.1)) ?_
 refine xz 5 (pI (x_3.2)) ?_
 refine QW.seq ?_
 refine QW.view (s':=⟨aF [(1, .aK 0 0),(2, .aK 1 0),(3, .aK 2 0),(4,pS (x_3.1)),(5,pI (x_3.2))],aj [.var (((aE.rep 32 (0:UInt8)).1.map U).map .d), .var ((((aE.rep 32 (0:UInt8)).put (0:Int) (16:UInt8)).1.map U).map .d), .var [.d (ah (x_1.fp))]],3,[]⟩) (View.mk 3 [0,1,2] _ _ _ rfl rfl (by decide) (iC (iC (iC (iC (iC trivial))))) (And.intro (by simp only [cF,bB,PV.bR];rfl) (And.intro (by simp only [cF,bB,PV.bR];rfl) (And.intro rfl trivial))) rfl zL rfl) zL ?_
 refine rG ?_
 refine XK.as (some 24) rfl rfl (bx (v:= .agg [.d (ah (x_1.fp))]) rfl TT.fC rfl rfl ⟨⟨by simp,by simp⟩,rfl⟩ ⟨.d (.agg (dj x_1)),(iy.cW rfl),?_⟩)
 refine XK.as (some 25) rfl rfl (bx (v:= .agg (((aE.rep 32 (0:UInt8)).1.map U).map .d)) rfl TT.iB rfl rfl (kE (by decide)) ⟨.d (.agg ((aE.rep 32 (0:UInt8)).1.map U)),ia,?_⟩)
 obtain ⟨x_5,rj,h⟩:=bO h
 refine xs 26 rfl (aA rfl rfl TT.Jy rfl (we x_1 (aE.rep 32 (0:UInt8)) _ rj) ?_)
 refine xm 23 (.d (.tuple [.agg (dj (x_5.1)), .val (.int .i64 (x_5.2))])) ?_
 refine xs 27 rfl (bz rfl rfl rfl ?_)
 refine xs 28 rfl (bz rfl rfl rfl ?_)
 refine xs 6 rfl (bP (l:=[.d (ah (aa.nil))]) rfl TT.n4 rfl rfl ?_)
 refine XK.st none rfl rfl (bw (l':=[.d (ah ((x_5.1).fp))]) rfl TT.fC rfl rfl rfl rfl rfl rfl (by simp) rfl ?_)
 refine xz 7 (pI (x_5.2)) ?_
 refine sR ?_
 refine XK.as (some 30) rfl rfl (bx (v:= .agg [.d (ah (x_1.fp))]) rfl TT.fC rfl rfl ⟨⟨by simp,by simp⟩,rfl⟩ ⟨.d (.agg (dj x_1)),(iy.cW rfl),?_⟩)
 obtain ⟨x_7,oo,h⟩:=bO h
 refine xs 31 rfl (aA rfl rfl TT.OP rfl (Bw x_1 _ oo) ?_)
 refine xm 29 (.d (.tuple [.agg (cNode (x_7.1)), .slice ((x_7.2).map lg)])) ?_
 refine xs 32 rfl (bz rfl rfl rfl ?_)
 refine xs 33 rfl (bz rfl rfl rfl ?_)
 refine xs 8 rfl (bP (l:=(([pI (0), .full (([]:(List UInt8)).map U),pS ([]:List UInt8)])++(((aE.rep 16 ([]:(List UInt8))).1.map eS).map PV.d))) rfl TT.j9 rfl rfl ?_)
 refine XK.st none rfl rfl (bw (c:=(([pI ((x_7.1).aW), .d (.slice (((x_7.1).az).map U)),pS ((x_7.1).ay)])++((((x_7.1).aT).1.map eS).map PV.d))) (l':=(([pI ((x_7.1).aW), .d (.slice (((x_7.1).az).map U)),pS ((x_7.1).ay)])++((((x_7.1).aT).1.map eS).map PV.d))) rfl TT.dY rfl rfl rfl rfl (show (cNode (x_7.1)).map PV.d=_ by simp only [cNode,List.map_append];rfl) (aD (A:=[pI ((x_7.1).aW), .d (.slice (((x_7.1).az).map U)),pS ((x_7.1).ay)]) (b:=16) rfl (aq _) rfl) (bX (aD (A:=[pI (0), .full (([]:(List UInt8)).map U),pS ([]:List UInt8)]) (b:=16) rfl (aq _) rfl) bL) (cT ((aD (A:=[pI (0), .full (([]:(List UInt8)).map U),pS ([]:List UInt8)]) (b:=16) rfl (aq _) rfl).trans (aD (A:=[pI ((x_7.1).aW), .d (.slice (((x_7.1).az).map U)),pS ((x_7.1).ay)]) (b:=16) rfl (aq _) rfl).symm)) ?_)
 refine xz 9 (.d (.slice ((x_7.2).map lg))) ?_
 refine QW.seq ?_
 refine QW.view (s':=⟨aF [(2, .aK 0 0),(4,pS (x_3.1)),(5,pI (x_3.2)),(6, .aK 1 0),(7,pI (x_5.2)),(8, .aK 2 0),(9, .d (.slice ((x_7.2).map lg)))],aj [.var ((((aE.rep 32 (0:UInt8)).put (0:Int) (16:UInt8)).1.map U).map .d), .var [.d (ah ((x_5.1).fp))], .var (([pI ((x_7.1).aW), .d (.slice (((x_7.1).az).map U)),pS ((x_7.1).ay)])++((((x_7.1).aT).1.map eS).map PV.d))],3,[]⟩) (View.mk 3 [1,3,4] _ _ _ rfl rfl (by decide) (iC (iC (iC (iC (iC (iC (iC trivial))))))) (And.intro (by simp only [cF,bB,PV.bR];rfl) (And.intro rfl (And.intro (by simp only [cF,eR,PV.bR];rfl) trivial))) rfl zL rfl) zL ?_
 refine QW.region zL (PW.kC (id:=7) dh (M:=_) rfl (by kernel_rfl) ?_)
 refine RQ.st (some 34) rfl rfl (au (v:=pS (x_3.1)) rfl rfl ⟨⟨rfl,rfl⟩,?_⟩)
 refine RQ.st (some 35) rfl rfl (qk (a:=x_3.1) (b:=([121]:List UInt8)) rfl rfl rfl ⟨⟨rfl,rfl⟩,?_⟩)
 refine RQ.st (some 36) rfl rfl (au (v:=pB (x_3.1==([121]:List UInt8))) rfl rfl ⟨⟨rfl,rfl⟩,?_⟩)
 refine RQ.gd (v:=pI (x_3.2)) (T:=[]) (some 37) rfl rfl (by repeat (first | exact trivial | refine ⟨fun q=>by first | rfl | exact q | exact jQ q | exact jZ q,?_⟩)) (fun hg=>au (v:=pI (x_3.2)) rfl rfl g3) lf ?_
 refine RQ.gd (v:=pB (decide ((x_3.2)=(0:Int)))) (T:=[]) (some 38) rfl rfl (by repeat (first | exact trivial | refine ⟨fun q=>by first | rfl | exact q | exact jQ q | exact jZ q,?_⟩)) (fun hg=>ej (a:=(x_3.2)) (b:=(0:Int)) rfl rfl rfl g3) lf ?_
 refine RQ.st (some 39) rfl rfl (gK rfl rfl rfl rfl (fun hb=>by rw [hb];rfl) (fun _=>rfl) ⟨⟨rfl,rfl⟩,?_⟩)
 refine RQ.st (some 40) rfl rfl (au (v:=pB ((x_3.1==([121]:List UInt8))&&(decide ((x_3.2)=(0:Int))))) rfl rfl ⟨⟨rfl,rfl⟩,?_⟩)
 refine RQ.gd (v:=pI (x_5.2)) (T:=[]) (some 41) rfl rfl (by repeat (first | exact trivial | refine ⟨fun q=>by first | rfl | exact q | exact jQ q | exact jZ q,?_⟩)) (fun hg=>au (v:=pI (x_5.2)) rfl rfl g3) lf ?_
 refine RQ.gd (v:=pB (decide ((x_5.2)=(0:Int)))) (T:=[]) (some 42) rfl rfl (by repeat (first | exact trivial | refine ⟨fun q=>by first | rfl | exact q | exact jQ q | exact jZ q,?_⟩)) (fun hg=>ej (a:=(x_5.2)) (b:=(0:Int)) rfl rfl rfl g3) lf ?_
 refine RQ.st (some 43) rfl rfl (gK rfl rfl rfl rfl (fun hb=>by rw [hb];rfl) (fun _=>rfl) ⟨⟨rfl,rfl⟩,?_⟩)
 refine RQ.st (some 44) rfl rfl (au (v:=pB (((x_3.1==([121]:List UInt8))&&(decide ((x_3.2)=(0:Int))))&&(decide ((x_5.2)=(0:Int))))) rfl rfl ⟨⟨rfl,rfl⟩,?_⟩)
 refine RQ.gd (v:= .d (.agg (dj (x_5.1)))) (T:=[1]) (some 45) rfl rfl (by repeat (first | exact trivial | refine ⟨fun q=>by first | rfl | exact q | exact jQ q | exact jZ q,?_⟩)) (fun hg=>bx (v:= .agg [.d (ah ((x_5.1).fp))]) rfl TT.fC rfl rfl ⟨⟨by simp,by simp⟩,rfl⟩ ⟨⟨rfl,rfl,rfl⟩,rfl,(iy.cW rfl)⟩) (fun _ i hi=>by simp only [List.mem_singleton] at hi;subst hi;decide) ?_
 obtain ⟨x_9,Ci,h⟩:=bO h
 refine RQ.gd (v:=pS x_9) (T:=[]) (some 46) rfl rfl (by repeat (first | exact trivial | refine ⟨fun q=>by first | rfl | exact q | exact jQ q | exact jZ q,?_⟩)) (fun hg=>aA rfl rfl TT.vV rfl (nN (x_5.1) _ (bT Ci hg)) g3) lf ?_
 refine RQ.gd (v:= .d (.agg (((aE.rep 32 (0:UInt8)).put (0:Int) (16:UInt8)).1.map U))) (T:=[0]) (some 47) rfl rfl (by repeat (first | exact trivial | refine ⟨fun q=>by first | rfl | exact q | exact jQ q | exact jZ q,?_⟩)) (fun hg=>bx (v:= .agg ((((aE.rep 32 (0:UInt8)).put (0:Int) (16:UInt8)).1.map U).map .d)) rfl TT.iB rfl rfl (kE (by decide)) ⟨⟨rfl,rfl,rfl⟩,rfl,ia⟩) (fun _ i hi=>by simp only [List.mem_singleton] at hi;subst hi;decide) ?_
 refine RQ.gd (v:= .d (.agg (iD (⟨((aE.rep 32 (0:UInt8)).put (0:Int) (16:UInt8)),([121]:List UInt8)⟩:bt)))) (T:=[]) (some 48) rfl rfl (by repeat (first | exact trivial | refine ⟨fun q=>by first | rfl | exact q | exact jQ q | exact jZ q,?_⟩)) (fun hg=>fk (v:= .agg ((iD (⟨((aE.rep 32 (0:UInt8)).put (0:Int) (16:UInt8)),([121]:List UInt8)⟩:bt)).map .d)) rfl TT.Du (tD ((aE.rep 32 (0:UInt8)).put (0:Int) (16:UInt8)) ([121]:List UInt8)) ⟨⟨rfl,rfl,rfl⟩,rfl,ia⟩) lf ?_
 refine RQ.gd (v:= .full (([(⟨((aE.rep 32 (0:UInt8)).put (0:Int) (16:UInt8)),([121]:List UInt8)⟩:bt)]:List bt).map bq)) (T:=[]) (some 49) rfl rfl (by repeat (first | exact trivial | refine ⟨fun q=>by first | rfl | exact q | exact jQ q | exact jZ q,?_⟩)) (fun hg=>dU (en:=bq) (l:=([(⟨((aE.rep 32 (0:UInt8)).put (0:Int) (16:UInt8)),([121]:List UInt8)⟩:bt)]:List bt)) rfl TT.ud dN (by first | rfl | (simp only [List.map_cons,List.map_nil,yf];rfl)) rfl (by decide) (by simp [dg,cQ,aB,dK,PV.cz,cu,aF,jz,iL,jP,bV,Value.oneCell']) g3) lf ?_
 obtain ⟨x_11,pR,h⟩:=bO h
 refine RQ.gd (v:= .d (.agg (dj x_11))) (T:=[]) (some 50) rfl rfl (by repeat (first | exact trivial | refine ⟨fun q=>by first | rfl | exact q | exact jQ q | exact jZ q,?_⟩)) (fun hg=>aA rfl rfl TT.HF rfl (Dk ([(⟨((aE.rep 32 (0:UInt8)).put (0:Int) (16:UInt8)),([121]:List UInt8)⟩:bt)]:List bt) _ (bT pR hg)) g3) lf ?_
 obtain ⟨x_13,GZ,h⟩:=bO h
 refine RQ.gd (v:=pS x_13) (T:=[]) (some 51) rfl rfl (by repeat (first | exact trivial | refine ⟨fun q=>by first | rfl | exact q | exact jQ q | exact jZ q,?_⟩)) (fun hg=>aA rfl rfl TT.vV rfl (nN x_11 _ (bT GZ hg)) g3) lf ?_
 refine RQ.gd (v:=pB (x_9==x_13)) (T:=[]) (some 52) rfl rfl (by repeat (first | exact trivial | refine ⟨fun q=>by first | rfl | exact q | exact jQ q | exact jZ q,?_⟩)) (fun hg=>qk (a:=x_9) (b:=x_13) rfl rfl rfl g3) lf ?_
 refine RQ.st (some 53) rfl rfl (gK rfl rfl rfl rfl (fun hb=>by rw [hb];rfl) (fun _=>rfl) ⟨⟨rfl,rfl⟩,?_⟩)
 refine RQ.st (some 54) rfl rfl (au (v:=pB ((((x_3.1==([121]:List UInt8))&&(decide ((x_3.2)=(0:Int))))&&(decide ((x_5.2)=(0:Int))))&&(x_9==x_13))) rfl rfl ⟨⟨rfl,rfl⟩,?_⟩)
 refine RQ.gd (v:= .aK 2 0) (T:=[]) (some 55) rfl rfl (by repeat (first | exact trivial | refine ⟨fun q=>by first | rfl | exact q | exact jQ q | exact jZ q,?_⟩)) (fun hg=>fm rfl TT.qE (by decide) rfl g3) lf ?_
 refine RQ.gd (v:=pI ((x_7.1).aW)) (T:=[2]) (some 56) rfl rfl (by repeat (first | exact trivial | refine ⟨fun q=>by first | rfl | exact q | exact jQ q | exact jZ q,?_⟩)) (fun hg=>bx (v:=pI ((x_7.1).aW)) rfl TT.l9 rfl rfl (Je ⟨⟨by simp,by simp⟩,rfl⟩) g3) (fun _ i hi=>by simp only [List.mem_singleton] at hi;subst hi;decide) ?_
 refine RQ.gd (v:=pB (decide (((x_7.1).aW)=(3:Int)))) (T:=[]) (some 57) rfl rfl (by repeat (first | exact trivial | refine ⟨fun q=>by first | rfl | exact q | exact jQ q | exact jZ q,?_⟩)) (fun hg=>ej (a:=((x_7.1).aW)) (b:=(3:Int)) rfl rfl rfl g3) lf ?_
 refine RQ.st (some 58) rfl rfl (gK rfl rfl rfl rfl (fun hb=>by rw [hb];rfl) (fun _=>rfl) ⟨⟨rfl,rfl⟩,?_⟩)
 refine RQ.st (some 59) rfl rfl (au (v:=pB (((((x_3.1==([121]:List UInt8))&&(decide ((x_3.2)=(0:Int))))&&(decide ((x_5.2)=(0:Int))))&&(x_9==x_13))&&(decide (((x_7.1).aW)=(3:Int))))) rfl rfl ⟨⟨rfl,rfl⟩,?_⟩)
 refine RQ.gd (v:= .d (.slice ((x_7.2).map lg))) (T:=[]) (some 60) rfl rfl (by repeat (first | exact trivial | refine ⟨fun q=>by first | rfl | exact q | exact jQ q | exact jZ q,?_⟩)) (fun hg=>au (v:= .d (.slice ((x_7.2).map lg))) rfl rfl g3) lf ?_
 refine RQ.gd (v:=pI ((x_7.2).length:Int)) (T:=[]) (some 61) rfl rfl (by repeat (first | exact trivial | refine ⟨fun q=>by first | rfl | exact q | exact jQ q | exact jZ q,?_⟩)) (fun hg=>cM (en:=lg) (l:=x_7.2) rfl TT.Js rfl g3) lf ?_
 refine RQ.gd (v:=pB (decide (((x_7.2).length:Int)=(2:Int)))) (T:=[]) (some 62) rfl rfl (by repeat (first | exact trivial | refine ⟨fun q=>by first | rfl | exact q | exact jQ q | exact jZ q,?_⟩)) (fun hg=>ej (a:=((x_7.2).length:Int)) (b:=(2:Int)) rfl rfl rfl g3) lf ?_
 refine RQ.st (some 63) rfl rfl (gK rfl rfl rfl rfl (fun hb=>by rw [hb];rfl) (fun _=>rfl) ⟨⟨rfl,rfl⟩,?_⟩)
 refine RQ.st (some 64) rfl rfl (au (v:=pB ((((((x_3.1==([121]:List UInt8))&&(decide ((x_3.2)=(0:Int))))&&(decide ((x_5.2)=(0:Int))))&&(x_9==x_13))&&(decide (((x_7.1).aW)=(3:Int))))&&(decide (((x_7.2).length:Int)=(2:Int))))) rfl rfl ⟨⟨rfl,rfl⟩,?_⟩)
 refine RQ.gd (v:= .d (.agg (dj (x_5.1)))) (T:=[1]) (some 65) rfl rfl (by repeat (first | exact trivial | refine ⟨fun q=>by first | rfl | exact q | exact jQ q | exact jZ q,?_⟩)) (fun hg=>bx (v:= .agg [.d (ah ((x_5.1).fp))]) rfl TT.fC rfl rfl ⟨⟨by simp,by simp⟩,rfl⟩ ⟨⟨rfl,rfl,rfl⟩,rfl,(iy.cW rfl)⟩) (fun _ i hi=>by simp only [List.mem_singleton] at hi;subst hi;decide) ?_
 obtain ⟨x_15,vD,h⟩:=bO h
 refine RQ.gd (v:=pS x_15) (T:=[]) (some 66) rfl rfl (by repeat (first | exact trivial | refine ⟨fun q=>by first | rfl | exact q | exact jQ q | exact jZ q,?_⟩)) (fun hg=>aA rfl rfl TT.vV rfl (nN (x_5.1) _ (bT vD hg)) g3) lf ?_
 refine RQ.gd (v:=pB (!(x_15==([]:List UInt8)))) (T:=[]) (some 67) rfl rfl (by repeat (first | exact trivial | refine ⟨fun q=>by first | rfl | exact q | exact jQ q | exact jZ q,?_⟩)) (fun hg=>uP (a:=x_15) (b:=([]:List UInt8)) rfl rfl rfl g3) lf ?_
 refine RQ.st (some 68) rfl rfl (gK rfl rfl rfl rfl (fun hb=>by rw [hb];rfl) (fun _=>rfl) ⟨⟨rfl,rfl⟩,?_⟩)
 refine RQ.st (some 69) rfl rfl (au (v:=pB (((((((x_3.1==([121]:List UInt8))&&(decide ((x_3.2)=(0:Int))))&&(decide ((x_5.2)=(0:Int))))&&(x_9==x_13))&&(decide (((x_7.1).aW)=(3:Int))))&&(decide (((x_7.2).length:Int)=(2:Int))))&&(!(x_15==([]:List UInt8))))) rfl rfl ⟨⟨rfl,rfl⟩,?_⟩)
 refine RQ.gd (v:= .agg [.d (ah (aa.nil))]) (T:=[]) (some 70) rfl rfl (by repeat (first | exact trivial | refine ⟨fun q=>by first | rfl | exact q | exact jQ q | exact jZ q,?_⟩)) (fun hg=>fk (v:= .agg [.d (ah (aa.nil))]) rfl TT.vU (dM rfl dL) g3) lf ?_
 obtain ⟨x_17,Ck,h⟩:=bO h
 refine RQ.gd (v:=pB x_17) (T:=[]) (some 71) rfl rfl (by repeat (first | exact trivial | refine ⟨fun q=>by first | rfl | exact q | exact jQ q | exact jZ q,?_⟩)) (fun hg=>aA rfl rfl TT.El rfl (o5 (⟨aa.nil⟩:Tree) _ (bT Ck hg)) g3) lf ?_
 refine RQ.st (some 72) rfl rfl (gK rfl rfl rfl rfl (fun hb=>by rw [hb];rfl) (fun _=>rfl) ⟨⟨rfl,rfl⟩,?_⟩)
 refine RQ.st (some 0) rfl rfl (cq (v:=pB ((((((((x_3.1==([121]:List UInt8))&&(decide ((x_3.2)=(0:Int))))&&(decide ((x_5.2)=(0:Int))))&&(x_9==x_13))&&(decide (((x_7.1).aW)=(3:Int))))&&(decide (((x_7.2).length:Int)=(2:Int))))&&(!(x_15==([]:List UInt8))))&&x_17)) rfl rfl ⟨⟨rfl,rfl⟩,?_⟩)
 refine RQ.nil (aY ?_)
 refine QW.ret zL ?_
 obtain rfl:=sO h
 exact Ends.one (.inr rfl) rfl (aG.tmp rfl) rfl rfl
inductive r9 where
 | S
 | L1 (ir:(List bt)) (v5:Int) (iW:aa)
 | J2 (qf:(List bt)) (lQ:Int) (m5:aa)
noncomputable def cJ (l0:(List Act)):r9→Option (r9⊕Bool)
 | .S=>
  some (.inl (.L1 ([]:(List bt)) (0) (aa.nil)))
 | .L1 ir v5 iW=>
  (bif ((decide (v5<(l0.length:Int)))&&(decide (v5<(30:Int)))) then
  gO (0≤v5∧v5<(l0.length:Int)) (
  (bif (decide ((200:Int)<(((idx l0 v5).ay).length:Int))) then
  ((nk).bind fun (x_5:Bool)=>
  some (.inr x_5))
  else
  ((tB ir ((idx l0 v5).bQ)).bind fun (x_7:((List UInt8)×Bool))=>
  (bif (decide (((idx l0 v5).aW)=(2:Int))) then
  ((gN (⟨iW⟩:Tree) ((idx l0 v5).bQ)).bind fun (x_10:(Tree×Int))=>
  ((bif ((((!(x_7.2==(decide ((x_10.2)=(0:Int)))))==false)&&((!(x_7).2)==true))&&((!decide ((x_10.2)=(7:Int)))==false)) then jq (x_10.1) else some default).bind fun (x_12:Bool)=>
  (bif ((!(x_7.2==(decide ((x_10.2)=(0:Int)))))||((!(x_7).2)&&((!decide ((x_10.2)=(7:Int)))||(!x_12)))) then
  some (.inr false)
  else
  (bif x_7.2 then
  ((pH ir ((idx l0 v5).bQ)).bind fun (x_16:(List bt))=>
  some (.inl (.J2 x_16 v5 ((x_10.1).fp))))
  else
  some (.inl (.J2 ir v5 iW))))))
  else
  (bif (decide (((idx l0 v5).aW)=(3:Int))) then
  ((iH (⟨iW⟩:Tree) ((idx l0 v5).bQ)).bind fun (x_19:((List UInt8)×Int))=>
  (bif (((!(x_19.1==x_7.1))||(!(x_7.2==(decide ((x_19.2)=(0:Int))))))||((!(x_7).2)&&(!decide ((x_19.2)=(7:Int))))) then
  some (.inr false)
  else
  some (.inl (.J2 ir v5 iW))))
  else
  ((jx (⟨iW⟩:Tree) ((idx l0 v5).bQ) ((idx l0 v5).ay)).bind fun (x_22:(Tree×Int))=>
  (bif ((idx l0 v5).ay==([]:List UInt8)) then
  (bif (!decide ((x_22.2)=(2:Int))) then
  some (.inr false)
  else
  gO (bA (v5+(1:Int))) (
  some (.inl (.L1 ir (v5+(1:Int)) iW))))
  else
  (bif (!decide ((x_22.2)=(0:Int))) then
  some (.inr false)
  else
  ((n5 ir (⟨(idx l0 v5).bQ,(idx l0 v5).ay⟩:bt)).bind fun (HH:(List bt))=>
  some (.inl (.J2 HH v5 ((x_22.1).fp))))))))))))
  else
  ((nk).bind fun (TD:Bool)=>
  some (.inr TD)))
 | .J2 qf lQ m5=>
  ((kf (⟨m5⟩:Tree)).bind fun (yq:(List UInt8))=>
  ((zf qf).bind fun (TE:(List In))=>
  ((pJ TE).bind fun (yl:(List UInt8))=>
  ((bif ((!(yq==yl))==false) then jq (⟨m5⟩:Tree) else some default).bind fun (JA:Bool)=>
  (bif ((!(yq==yl))||(!(JA==(decide ((qf.length:Int)=(0:Int)))))) then
  some (.inr false)
  else
  gO (bA (lQ+(1:Int))) (
  some (.inl (.L1 qf (lQ+(1:Int)) m5))))))))
noncomputable def xk (l0:(List Act)):Option Bool:=gU (cJ l0) .S
theorem By (l0:(List Act)) (r:Bool) (h:xk l0=some r):bE Tryz.prog 3 [.slice (l0.map rK)] (.val (.bool r)):=by
 refine bE.aU Tryz.func3 rfl (by simp [Tryz.ntmps3]) ?_
 rw [Tryz.ntmps3,TT.X5]
 refine QW.view (s':=⟨aF [(0, .d (.slice (l0.map rK)))],aj [],0,[]⟩) (View.init (by rfl)) zL ?_
 replace h:=cG h
 obtain ⟨_,h⟩:=h
 obtain ⟨c8,rfl,h9⟩:=aQ h;replace h:=h9;clear h9;rw [cJ] at h
 refine sR ?_
 refine xz 2 (pB false) ?_
 refine sR ?_
 refine xs 3 rfl (bP (l:=[.d (ah (aa.nil))]) rfl TT.n4 rfl rfl ?_)
 refine XK.nz ?_
 refine sR ?_
 refine xz 4 (.full (([]:(List bt)).map bq)) ?_
 refine QW.seq ?_
 refine sR ?_
 refine xz 5 (pI (0)) ?_
 refine QW.block ?_
 refine QW.loop (fun k σ=>∃ ir:(List bt),∃ v5:Int,∃ iW:aa,k≤c8∧run (cJ l0) k (.L1 ir v5 iW)=some r∧σ=⟨aF [(0, .d (.slice (l0.map rK))),(3, .aK 0 0),(4, .d (.slice (ir.map bq))),(5,pI v5)],aj [.var [.d (ah iW)]],1,[]⟩) c8 zL ⟨⟨aF [(0, .d (.slice (l0.map rK))),(3, .aK 0 0),(4, .d (.slice (([]:(List bt)).map bq))),(5,pI (0))],aj [.var [.d (ah (aa.nil))]],1,[]⟩,View.mk 1 [0] _ _ _ rfl rfl (by decide) (iC (iC (And.intro (iy.cW rfl) (iC trivial)))) (And.intro rfl trivial) rfl zL rfl,([]:(List bt)),0,aa.nil,Nat.le_refl _,jG h,rfl⟩ ?_
 rintro pZ _ ⟨ir,v5,iW,p4,h,rfl⟩
 obtain ⟨k_1,rfl,h9⟩:=aQ h;replace h:=h9;clear h9;rw [cJ] at h
 refine QW.seq ?_
 refine sR ?_
 refine xm 15 (pI v5) ?_
 refine xm 16 (.d (.slice (l0.map rK))) ?_
 refine xs 17 rfl (cM (en:=rK) (l:=l0) rfl TT.QU rfl ?_)
 refine xs 18 rfl (cK (a:=v5) (b:=(l0.length:Int)) rfl rfl rfl ?_)
 refine xm 19 (pB (decide (v5<(l0.length:Int)))) ?_
 refine xg 20 (pI v5) rfl rfl (fun hg=>au (v:=pI v5) rfl rfl g3) ?_
 refine xg 21 (pB (decide (v5<(30:Int)))) rfl rfl (fun hg=>cK (a:=v5) (b:=(30:Int)) rfl rfl rfl g3) ?_
 refine xs 22 rfl (gK rfl rfl rfl rfl (fun hb=>by rw [hb];rfl) (fun _=>rfl) ?_)
 refine XK.nz ?_
 refine QW.cond (t:=((decide (v5<(l0.length:Int)))&&(decide (v5<(30:Int))))) rfl zL (fun cv=>?_) (fun cv=>?_)
 ·replace h:=eX h cv
  refine QW.skip zL (aY ?_)
  refine QW.seq ?_
  refine QW.block ?_
  refine sR ?_
  refine xm 25 (.d (.slice (l0.map rK))) ?_
  refine xm 26 (pI v5) ?_
  obtain ⟨dP,h⟩:=gG h
  refine xs 27 rfl (bN (l:=l0) (i:=v5) rfl TT.TC j3 rfl rfl dP ?_)
  refine xs 28 rfl (aC (d:= .agg (yg (idx l0 v5))) rfl TT.Pz rfl (⟨by rw [j3.len];decide,congrArg D.agg (List.take_of_length_le (by rw [j3.len];decide))⟩) ?_)
  refine xs 6 rfl (bP (l:=((yg (⟨(0:Int),(aE.rep 32 (0:UInt8)),([]:(List UInt8))⟩:Act)).map .d)) rfl TT.QV rfl rfl ?_)
  refine XK.st none rfl rfl (bw (l':=((yg (idx l0 v5)).map .d)) rfl TT.Pz rfl rfl rfl rfl rfl (Pq (j3.len _)) (Sp (j3.len _)) (Pp ((j3.len _).trans (j3.len _).symm)) ?_)
  refine XK.nz ?_
  refine QW.seq ?_
  refine sR ?_
  refine xs 29 rfl (fm rfl TT.zg (by decide) rfl ?_)
  refine xs 30 rfl (bx (v:=pS ((idx l0 v5).ay)) rfl TT.fF rfl rfl (x6 (yW _) (by rw [j3.len];decide) (by decide)) ?_)
  refine xs 31 rfl (gB (l:=(idx l0 v5).ay) rfl TT.bZ rfl ?_)
  refine xs 32 rfl (oh (a:=(((idx l0 v5).ay).length:Int)) (b:=(200:Int)) rfl rfl rfl ?_)
  refine XK.nz ?_
  refine QW.cond (t:=(decide ((200:Int)<(((idx l0 v5).ay).length:Int)))) rfl zL (fun gD=>?_) (fun gD=>?_)
  ·replace h:=eX h gD
   refine sR ?_
   obtain ⟨x_5,rj,h⟩:=bG h
   refine xs 33 rfl (aA rfl rfl TT.Jx rfl (yy _ rj) ?_)
   refine xz 2 (pB x_5) ?_
   refine QW.ret zL (eC (mO (eC (eC (mO (eC ?_))))))
   obtain rfl:=sG h
   exact Ends.one (.inr rfl) rfl (aG.tmp rfl) rfl rfl
  ·replace h:=eY h gD
   refine QW.skip zL (aY ?_)
   refine sR ?_
   refine xm 35 (.d (.slice (ir.map bq))) ?_
   refine xs 36 rfl (fm rfl TT.td (by decide) rfl ?_)
   refine XK.as (some 37) rfl rfl (bx rfl TT.iB rfl rfl (sU (sY _) (by rw [j3.len];decide) (by decide)) ⟨.d (.agg (((idx l0 v5).bQ).1.map U)),ia,?_⟩)
   obtain ⟨x_7,oo,h⟩:=bG h
   refine xs 38 rfl (aA rfl rfl TT.QT rfl (FC ir ((idx l0 v5).bQ) _ oo) ?_)
   refine xm 34 (.d (.tuple [.val (sV (x_7.1)), .val (.bool (x_7.2))])) ?_
   refine xs 39 rfl (bz rfl rfl rfl ?_)
   refine xs 40 rfl (bz rfl rfl rfl ?_)
   refine xa 7 (pS (x_7.1)) ?_
   refine xz 8 (pB (x_7.2)) ?_
   refine QW.rH (fun s'=>∃ qf:(List bt),∃ lQ:Int,∃ m5:aa,∃ k:Nat,k≤k_1∧run (cJ l0) k (.J2 qf lQ m5)=some r∧s'=⟨aF [(0, .d (.slice (l0.map rK))),(3, .aK 0 0),(4, .d (.slice (qf.map bq))),(5,pI lQ)],aj [.var [.d (ah m5)]],1,[]⟩) ?_ ?_
   ·refine sR ?_
    refine xs 41 rfl (fm rfl TT.OQ (by decide) rfl ?_)
    refine xs 42 rfl (bx (v:=pI ((idx l0 v5).aW)) rfl TT.l9 rfl rfl (x6 (NW _) (by rw [j3.len];decide) (by decide)) ?_)
    refine XK.nz ?_
    refine QW.block ?_
    refine sR ?_
    refine xs 68 rfl (ej (a:=((idx l0 v5).aW)) (b:=(2:Int)) rfl rfl rfl ?_)
    refine xz 67 (pB (decide (((idx l0 v5).aW)=(2:Int)))) ?_
    refine QW.cond (t:=(decide (((idx l0 v5).aW)=(2:Int)))) rfl zL (fun oU=>?_) (fun oU=>?_)
    ·replace h:=eX h oU
     refine sR ?_
     refine XK.as (some 70) rfl rfl (bx (v:= .agg [.d (ah iW)]) rfl TT.fC rfl rfl ⟨⟨by simp,by simp⟩,rfl⟩ ⟨.d (.agg (dj (⟨iW⟩:Tree))),(iy.cW rfl),?_⟩)
     refine xs 71 rfl (fm rfl TT.td (by decide) rfl ?_)
     refine XK.as (some 72) rfl rfl (bx rfl TT.iB rfl rfl (sU (sY _) (by rw [j3.len];decide) (by decide)) ⟨.d (.agg (((idx l0 v5).bQ).1.map U)),ia,?_⟩)
     obtain ⟨x_10,qD,h⟩:=bG h
     refine xs 73 rfl (aA rfl rfl TT.Jy rfl (we (⟨iW⟩:Tree) ((idx l0 v5).bQ) _ qD) ?_)
     refine xm 69 (.d (.tuple [.agg (dj (x_10.1)), .val (.int .i64 (x_10.2))])) ?_
     refine xs 74 rfl (bz rfl rfl rfl ?_)
     refine xs 75 rfl (bz rfl rfl rfl ?_)
     refine xs 9 rfl (bP (l:=[.d (ah (aa.nil))]) rfl TT.n4 rfl rfl ?_)
     refine XK.st none rfl rfl (bw (l':=[.d (ah ((x_10.1).fp))]) rfl TT.fC rfl rfl rfl rfl rfl rfl (by simp) rfl ?_)
     refine xz 10 (pI (x_10.2)) ?_
     refine QW.seq ?_
     refine sR ?_
     refine xm 76 (pB (x_7.2)) ?_
     refine xm 77 (pI (x_10.2)) ?_
     refine xs 78 rfl (ej (a:=(x_10.2)) (b:=(0:Int)) rfl rfl rfl ?_)
     refine xs 79 rfl (Kr (a:=x_7.2) (b:=(decide ((x_10.2)=(0:Int)))) rfl TT.HG rfl rfl ?_)
     refine xm 80 (pB (!(x_7.2==(decide ((x_10.2)=(0:Int)))))) ?_
     refine xg 81 (pB (x_7.2)) rfl rfl (fun hg=>au (v:=pB (x_7.2)) rfl rfl g3) ?_
     refine xg 82 (pB (!(x_7).2)) rfl rfl (fun hg=>mC rfl rfl g3) ?_
     refine xg 83 (pB (!(x_7).2)) rfl rfl (fun hg=>au (v:=pB (!(x_7).2)) rfl rfl g3) ?_
     refine xg 84 (pI (x_10.2)) rfl rfl (fun hg=>au (v:=pI (x_10.2)) rfl rfl g3) ?_
     refine xg 85 (pB (!decide ((x_10.2)=(7:Int)))) rfl rfl (fun hg=>oa (a:=(x_10.2)) (b:=(7:Int)) rfl rfl rfl g3) ?_
     refine xg 86 (pB (!decide ((x_10.2)=(7:Int)))) rfl rfl (fun hg=>au (v:=pB (!decide ((x_10.2)=(7:Int)))) rfl rfl g3) ?_
     refine XK.gd (v:= .d (.agg (dj (x_10.1)))) (T:=[2]) (some 87) rfl rfl (by repeat (first | exact trivial | refine ⟨fun q=>by first | rfl | exact q | exact jQ q | exact jZ q,?_⟩)) (fun hg=>bx (v:= .agg [.d (ah ((x_10.1).fp))]) rfl TT.fC rfl rfl ⟨⟨by simp,by simp⟩,rfl⟩ ⟨⟨rfl,rfl,rfl⟩,rfl,(iy.cW rfl)⟩) (fun _ i hi=>by simp only [List.mem_singleton] at hi;subst hi;decide) ?_
     obtain ⟨x_12,rO,h⟩:=bG h
     refine xg 88 (pB x_12) rfl rfl (fun hg=>aA rfl rfl TT.El rfl (o5 (x_10.1) _ (bT rO hg)) g3) ?_
     refine xg 89 (pB (!x_12)) rfl rfl (fun hg=>mC rfl rfl g3) ?_
     refine XK.gp (some 90) rfl rfl rfl rfl rfl rfl (fun h=>h) (fun _ _=>rfl) (fun hg hb=>by first | (rw [hg,hb];rfl) | (simp only [hg,hb];rfl) | simp_all) ((!decide ((x_10.2)=(7:Int)))||(!x_12)) (UM _ _) ?_
     refine XK.gp (some 91) rfl rfl rfl rfl rfl rfl (fun h=>h) (fun hg hb=>by first | (rw [hg,hb];rfl) | (simp only [hg,hb];rfl) | simp_all) (fun _ _=>rfl) ((!(x_7).2)&&((!decide ((x_10.2)=(7:Int)))||(!x_12))) (Gz _ _) ?_
     refine xs 92 rfl (gL rfl rfl rfl rfl (fun _=>rfl) (fun hb=>by rw [hb];rfl) ?_)
     refine XK.nz ?_
     refine QW.cond (t:=((!(x_7.2==(decide ((x_10.2)=(0:Int)))))||((!(x_7).2)&&((!decide ((x_10.2)=(7:Int)))||(!x_12))))) rfl zL (fun qA=>?_) (fun qA=>?_)
     ·replace h:=eX h qA
      refine sR ?_
      refine xz 2 (pB false) ?_
      refine QW.ret zL (eC (mO (eC (mO (eC (eC (mO (eC ?_))))))))
      obtain rfl:=sG h
      exact Ends.one (.inr rfl) rfl (aG.tmp rfl) rfl rfl
     ·replace h:=eY h qA
      refine QW.skip zL (aY ?_)
      refine sR ?_
      refine xm 93 (pB (x_7.2)) ?_
      refine XK.nz ?_
      refine QW.cond (t:=x_7.2) rfl zL (fun qG=>?_) (fun qG=>?_)
      ·replace h:=eX h qG
       refine sR ?_
       refine XK.as (some 94) rfl rfl (bx (v:= .agg [.d (ah ((x_10.1).fp))]) rfl TT.fC rfl rfl ⟨⟨by simp,by simp⟩,rfl⟩ ⟨.d (.agg (dj (x_10.1))),(iy.cW rfl),?_⟩)
       refine XK.st none rfl rfl (bw (l':=[.d (ah ((x_10.1).fp))]) rfl TT.fC rfl rfl rfl rfl rfl rfl (by simp) rfl ?_)
       refine XK.nz ?_
       refine rG ?_
       refine xm 95 (.d (.slice (ir.map bq))) ?_
       refine xs 96 rfl (fm rfl TT.td (by decide) rfl ?_)
       refine XK.as (some 97) rfl rfl (bx rfl TT.iB rfl rfl (sU (sY _) (by rw [j3.len];decide) (by decide)) ⟨.d (.agg (((idx l0 v5).bQ).1.map U)),ia,?_⟩)
       obtain ⟨x_16,G0,h⟩:=bG h
       refine xs 98 rfl (aA rfl rfl TT.Hz rfl (Cz ir ((idx l0 v5).bQ) _ G0) ?_)
       refine xa 4 (.d (.slice (x_16.map bq))) ?_
       refine XK.nil (gC (aY ?_))
       exact ⟨⟨aF [(0, .d (.slice (l0.map rK))),(3, .aK 0 0),(4, .d (.slice (x_16.map bq))),(5,pI v5)],aj [.var [.d (ah ((x_10.1).fp))]],1,[]⟩,View.mk 1 [0] _ _ _ rfl rfl (by decide) (iC (iC (iC (iC trivial)))) (And.intro rfl trivial) rfl zL rfl,x_16,v5,(x_10.1).fp,k_1,by omega,jG h,rfl⟩
      ·replace h:=eY h qG
       refine QW.skip zL (gC (aY ?_))
       exact ⟨⟨aF [(0, .d (.slice (l0.map rK))),(3, .aK 0 0),(4, .d (.slice (ir.map bq))),(5,pI v5)],aj [.var [.d (ah iW)]],1,[]⟩,View.mk 1 [0] _ _ _ rfl rfl (by decide) (iC (iC (iC (iC trivial)))) (And.intro rfl trivial) rfl zL rfl,ir,v5,iW,k_1,by omega,jG h,rfl⟩
    ·replace h:=eY h oU
     refine sR ?_
     refine xs 100 rfl (ej (a:=((idx l0 v5).aW)) (b:=(3:Int)) rfl rfl rfl ?_)
     refine xz 99 (pB (decide (((idx l0 v5).aW)=(3:Int)))) ?_
     refine QW.cond (t:=(decide (((idx l0 v5).aW)=(3:Int)))) rfl zL (fun vE=>?_) (fun vE=>?_)
     ·replace h:=eX h vE
      refine sR ?_
      refine XK.as (some 102) rfl rfl (bx (v:= .agg [.d (ah iW)]) rfl TT.fC rfl rfl ⟨⟨by simp,by simp⟩,rfl⟩ ⟨.d (.agg (dj (⟨iW⟩:Tree))),(iy.cW rfl),?_⟩)
      refine xs 103 rfl (fm rfl TT.td (by decide) rfl ?_)
      refine XK.as (some 104) rfl rfl (bx rfl TT.iB rfl rfl (sU (sY _) (by rw [j3.len];decide) (by decide)) ⟨.d (.agg (((idx l0 v5).bQ).1.map U)),ia,?_⟩)
      obtain ⟨x_19,KB,h⟩:=bG h
      refine xs 105 rfl (aA rfl rfl TT.Cl rfl (qI (⟨iW⟩:Tree) ((idx l0 v5).bQ) _ KB) ?_)
      refine xm 101 (.d (.tuple [.val (sV (x_19.1)), .val (.int .i64 (x_19.2))])) ?_
      refine xs 106 rfl (bz rfl rfl rfl ?_)
      refine xs 107 rfl (bz rfl rfl rfl ?_)
      refine xa 11 (pS (x_19.1)) ?_
      refine xz 12 (pI (x_19.2)) ?_
      refine sR ?_
      refine xm 108 (pS (x_19.1)) ?_
      refine xm 109 (pS (x_7.1)) ?_
      refine xs 110 rfl (uP (a:=x_19.1) (b:=x_7.1) rfl rfl rfl ?_)
      refine xm 111 (pB (!(x_19.1==x_7.1))) ?_
      refine xg 112 (pB (x_7.2)) rfl rfl (fun hg=>au (v:=pB (x_7.2)) rfl rfl g3) ?_
      refine xg 113 (pI (x_19.2)) rfl rfl (fun hg=>au (v:=pI (x_19.2)) rfl rfl g3) ?_
      refine xg 114 (pB (decide ((x_19.2)=(0:Int)))) rfl rfl (fun hg=>ej (a:=(x_19.2)) (b:=(0:Int)) rfl rfl rfl g3) ?_
      refine xg 115 (pB (!(x_7.2==(decide ((x_19.2)=(0:Int)))))) rfl rfl (fun hg=>Kr (a:=x_7.2) (b:=(decide ((x_19.2)=(0:Int)))) rfl TT.HG rfl rfl g3) ?_
      refine xs 116 rfl (gL rfl rfl rfl rfl (fun _=>rfl) (fun hb=>by rw [hb];rfl) ?_)
      refine xm 117 (pB ((!(x_19.1==x_7.1))||(!(x_7.2==(decide ((x_19.2)=(0:Int))))))) ?_
      refine xg 118 (pB (x_7.2)) rfl rfl (fun hg=>au (v:=pB (x_7.2)) rfl rfl g3) ?_
      refine xg 119 (pB (!(x_7).2)) rfl rfl (fun hg=>mC rfl rfl g3) ?_
      refine xg 120 (pB (!(x_7).2)) rfl rfl (fun hg=>au (v:=pB (!(x_7).2)) rfl rfl g3) ?_
      refine xg 121 (pI (x_19.2)) rfl rfl (fun hg=>au (v:=pI (x_19.2)) rfl rfl g3) ?_
      refine xg 122 (pB (!decide ((x_19.2)=(7:Int)))) rfl rfl (fun hg=>oa (a:=(x_19.2)) (b:=(7:Int)) rfl rfl rfl g3) ?_
      refine XK.gp (some 123) rfl rfl rfl rfl rfl rfl (fun h=>h) (fun hg hb=>by first | (rw [hg,hb];rfl) | (simp only [hg,hb];rfl) | simp_all) (fun _ _=>rfl) ((!(x_7).2)&&(!decide ((x_19.2)=(7:Int)))) (Gz _ _) ?_
      refine xs 124 rfl (gL rfl rfl rfl rfl (fun _=>rfl) (fun hb=>by rw [hb];rfl) ?_)
      refine XK.nz ?_
      refine QW.cond (t:=(((!(x_19.1==x_7.1))||(!(x_7.2==(decide ((x_19.2)=(0:Int))))))||((!(x_7).2)&&(!decide ((x_19.2)=(7:Int)))))) rfl zL (fun OR=>?_) (fun OR=>?_)
      ·replace h:=eX h OR
       refine sR ?_
       refine xz 2 (pB false) ?_
       refine QW.ret zL (mO (eC (mO (eC (eC (mO (eC ?_)))))))
       obtain rfl:=sG h
       exact Ends.one (.inr rfl) rfl (aG.tmp rfl) rfl rfl
      ·replace h:=eY h OR
       refine QW.skip zL (gC (aY ?_))
       exact ⟨⟨aF [(0, .d (.slice (l0.map rK))),(3, .aK 0 0),(4, .d (.slice (ir.map bq))),(5,pI v5)],aj [.var [.d (ah iW)]],1,[]⟩,View.mk 1 [0] _ _ _ rfl rfl (by decide) (iC (iC (iC (iC trivial)))) (And.intro rfl trivial) rfl zL rfl,ir,v5,iW,k_1,by omega,jG h,rfl⟩
     ·replace h:=eY h vE
      refine sR ?_
      refine XK.as (some 44) rfl rfl (bx (v:= .agg [.d (ah iW)]) rfl TT.fC rfl rfl ⟨⟨by simp,by simp⟩,rfl⟩ ⟨.d (.agg (dj (⟨iW⟩:Tree))),(iy.cW rfl),?_⟩)
      refine xs 45 rfl (fm rfl TT.td (by decide) rfl ?_)
      refine XK.as (some 46) rfl rfl (bx rfl TT.iB rfl rfl (sU (sY _) (by rw [j3.len];decide) (by decide)) ⟨.d (.agg (((idx l0 v5).bQ).1.map U)),ia,?_⟩)
      refine xs 47 rfl (fm rfl TT.zg (by decide) rfl ?_)
      refine xs 48 rfl (bx (v:=pS ((idx l0 v5).ay)) rfl TT.fF rfl rfl (x6 (yW _) (by rw [j3.len];decide) (by decide)) ?_)
      obtain ⟨x_22,vO,h⟩:=bG h
      refine xs 49 rfl (aA rfl rfl TT.G8 rfl (vY (⟨iW⟩:Tree) ((idx l0 v5).bQ) ((idx l0 v5).ay) _ vO) ?_)
      refine xm 43 (.d (.tuple [.agg (dj (x_22.1)), .val (.int .i64 (x_22.2))])) ?_
      refine xs 50 rfl (bz rfl rfl rfl ?_)
      refine xs 51 rfl (bz rfl rfl rfl ?_)
      refine xs 13 rfl (bP (l:=[.d (ah (aa.nil))]) rfl TT.n4 rfl rfl ?_)
      refine XK.st none rfl rfl (bw (l':=[.d (ah ((x_22.1).fp))]) rfl TT.fC rfl rfl rfl rfl rfl rfl (by simp) rfl ?_)
      refine xz 14 (pI (x_22.2)) ?_
      refine QW.seq ?_
      refine sR ?_
      refine xs 52 rfl (fm rfl TT.zg (by decide) rfl ?_)
      refine xs 53 rfl (bx (v:=pS ((idx l0 v5).ay)) rfl TT.fF rfl rfl (x6 (yW _) (by rw [j3.len];decide) (by decide)) ?_)
      refine xs 54 rfl (qk (a:=(idx l0 v5).ay) (b:=([]:List UInt8)) rfl rfl rfl ?_)
      refine XK.nz ?_
      refine QW.cond (t:=((idx l0 v5).ay==([]:List UInt8))) rfl zL (fun Cf=>?_) (fun Cf=>?_)
      ·replace h:=eX h Cf
       refine QW.seq ?_
       refine sR ?_
       refine xm 55 (pI (x_22.2)) ?_
       refine xs 56 rfl (oa (a:=(x_22.2)) (b:=(2:Int)) rfl rfl rfl ?_)
       refine XK.nz ?_
       refine QW.cond (t:=(!decide ((x_22.2)=(2:Int)))) rfl zL (fun Cj=>?_) (fun Cj=>?_)
       ·replace h:=eX h Cj
        refine sR ?_
        refine xz 2 (pB false) ?_
        refine QW.ret zL (eC (eC (mO (eC (mO (eC (eC (mO (eC ?_)))))))))
        obtain rfl:=sG h
        exact Ends.one (.inr rfl) rfl (aG.tmp rfl) rfl rfl
       ·replace h:=eY h Cj
        refine QW.skip zL (aY ?_)
        refine QW.exit zL (eA (exN rfl (eA (jY (aY ?_)))))
        refine rG ?_
        refine xm 23 (pI v5) ?_
        obtain ⟨yh,h⟩:=gG h
        refine xs 24 rfl (bY (a:=v5) (b:=(1:Int)) rfl rfl rfl yh ?_)
        refine xz 5 (pI (v5+(1:Int))) ?_
        exact ⟨k_1,by omega,⟨aF [(0, .d (.slice (l0.map rK))),(3, .aK 0 0),(4, .d (.slice (ir.map bq))),(5,pI (v5+(1:Int)))],aj [.var [.d (ah iW)]],1,[]⟩,View.mk 1 [0] _ _ _ rfl rfl (by decide) (iC (iC (iC (iC trivial)))) (And.intro rfl trivial) rfl zL rfl,ir,(v5+(1:Int)),iW,by omega,jG h,rfl⟩
      ·replace h:=eY h Cf
       refine QW.skip zL (aY ?_)
       refine QW.seq ?_
       refine sR ?_
       refine xm 57 (pI (x_22.2)) ?_
       refine xs 58 rfl (oa (a:=(x_22.2)) (b:=(0:Int)) rfl rfl rfl ?_)
       refine XK.nz ?_
       refine QW.cond (t:=(!decide ((x_22.2)=(0:Int)))) rfl zL (fun OS=>?_) (fun OS=>?_)
       ·replace h:=eX h OS
        refine sR ?_
        refine xz 2 (pB false) ?_
        refine QW.ret zL (eC (mO (eC (mO (eC (eC (mO (eC ?_))))))))
        obtain rfl:=sG h
        exact Ends.one (.inr rfl) rfl (aG.tmp rfl) rfl rfl
       ·replace h:=eY h OS
        refine QW.skip zL (aY ?_)
        refine sR ?_
        refine XK.as (some 59) rfl rfl (bx (v:= .agg [.d (ah ((x_22.1).fp))]) rfl TT.fC rfl rfl ⟨⟨by simp,by simp⟩,rfl⟩ ⟨.d (.agg (dj (x_22.1))),(iy.cW rfl),?_⟩)
        refine XK.st none rfl rfl (bw (l':=[.d (ah ((x_22.1).fp))]) rfl TT.fC rfl rfl rfl rfl rfl rfl (by simp) rfl ?_)
        refine XK.nz ?_
        refine rG ?_
        refine xm 60 (.d (.slice (ir.map bq))) ?_
        refine xs 61 rfl (fm rfl TT.td (by decide) rfl ?_)
        refine XK.as (some 62) rfl rfl (bx rfl TT.iB rfl rfl (sU (sY _) (by rw [j3.len];decide) (by decide)) ⟨.d (.agg (((idx l0 v5).bQ).1.map U)),ia,?_⟩)
        refine xs 63 rfl (fm rfl TT.zg (by decide) rfl ?_)
        refine xs 64 rfl (bx (v:=pS ((idx l0 v5).ay)) rfl TT.fF rfl rfl (x6 (yW _) (by rw [j3.len];decide) (by decide)) ?_)
        refine XK.as (some 65) rfl rfl (fk (v:= .agg ((iD (⟨(idx l0 v5).bQ,(idx l0 v5).ay⟩:bt)).map .d)) rfl TT.Du (tD ((idx l0 v5).bQ) ((idx l0 v5).ay)) ⟨.d (.agg (iD (⟨(idx l0 v5).bQ,(idx l0 v5).ay⟩:bt))),ia,?_⟩)
        obtain ⟨HH,X7,h⟩:=bG h
        refine xs 66 rfl (aA rfl rfl TT.ON rfl (FD ir (⟨(idx l0 v5).bQ,(idx l0 v5).ay⟩:bt) _ X7) ?_)
        refine xa 4 (.d (.slice (HH.map bq))) ?_
        refine XK.nil (gC (aY ?_))
        exact ⟨⟨aF [(0, .d (.slice (l0.map rK))),(3, .aK 0 0),(4, .d (.slice (HH.map bq))),(5,pI v5)],aj [.var [.d (ah ((x_22.1).fp))]],1,[]⟩,View.mk 1 [0] _ _ _ rfl rfl (by decide) (iC (iC (iC (iC trivial)))) (And.intro rfl trivial) rfl zL rfl,HH,v5,(x_22.1).fp,k_1,by omega,jG h,rfl⟩
   ·rintro _ ⟨qf,lQ,m5,abl,abm,h,rfl⟩
    obtain ⟨ZP,rfl,h9⟩:=aQ h;replace h:=h9;clear h9;rw [cJ] at h
    refine sR ?_
    refine XK.as (some 125) rfl rfl (bx (v:= .agg [.d (ah m5)]) rfl TT.fC rfl rfl ⟨⟨by simp,by simp⟩,rfl⟩ ⟨.d (.agg (dj (⟨m5⟩:Tree))),(iy.cW rfl),?_⟩)
    obtain ⟨yq,Oe,h⟩:=bG h
    refine xs 126 rfl (aA rfl rfl TT.vV rfl (nN (⟨m5⟩:Tree) _ Oe) ?_)
    refine xm 127 (.d (.slice (qf.map bq))) ?_
    obtain ⟨TE,X8,h⟩:=bG h
    refine xs 128 rfl (aA rfl rfl TT.OO rfl (HD qf _ X8) ?_)
    obtain ⟨yl,N2,h⟩:=bG h
    refine xs 129 rfl (aA rfl rfl TT.Cy rfl (HE TE _ N2) ?_)
    refine xs 130 rfl (uP (a:=yq) (b:=yl) rfl rfl rfl ?_)
    refine xm 131 (pB (!(yq==yl))) ?_
    refine XK.gd (v:= .d (.agg (dj (⟨m5⟩:Tree)))) (T:=[0]) (some 132) rfl rfl (by repeat (first | exact trivial | refine ⟨fun q=>by first | rfl | exact q | exact jQ q | exact jZ q,?_⟩)) (fun hg=>bx (v:= .agg [.d (ah m5)]) rfl TT.fC rfl rfl ⟨⟨by simp,by simp⟩,rfl⟩ ⟨⟨rfl,rfl,rfl⟩,rfl,(iy.cW rfl)⟩) (fun _ i hi=>by simp only [List.mem_singleton] at hi;subst hi;decide) ?_
    obtain ⟨JA,X9,h⟩:=bG h
    refine xg 133 (pB JA) rfl rfl (fun hg=>aA rfl rfl TT.El rfl (o5 (⟨m5⟩:Tree) _ (bT X9 hg)) g3) ?_
    refine xg 134 (.d (.slice (qf.map bq))) rfl rfl (fun hg=>au (v:= .d (.slice (qf.map bq))) rfl rfl g3) ?_
    refine xg 135 (pI (qf.length:Int)) rfl rfl (fun hg=>cM (en:=bq) (l:=qf) rfl TT.nZ rfl g3) ?_
    refine xg 136 (pB (decide ((qf.length:Int)=(0:Int)))) rfl rfl (fun hg=>ej (a:=(qf.length:Int)) (b:=(0:Int)) rfl rfl rfl g3) ?_
    refine xg 137 (pB (!(JA==(decide ((qf.length:Int)=(0:Int)))))) rfl rfl (fun hg=>Kr (a:=JA) (b:=(decide ((qf.length:Int)=(0:Int)))) rfl TT.HG rfl rfl g3) ?_
    refine xs 138 rfl (gL rfl rfl rfl rfl (fun _=>rfl) (fun hb=>by rw [hb];rfl) ?_)
    refine XK.nz ?_
    refine QW.cond (t:=((!(yq==yl))||(!(JA==(decide ((qf.length:Int)=(0:Int))))))) rfl zL (fun Cv=>?_) (fun Cv=>?_)
    ·replace h:=eX h Cv
     refine sR ?_
     refine xz 2 (pB false) ?_
     refine QW.ret zL (mO (eC (eC (mO (eC ?_)))))
     obtain rfl:=sG h
     exact Ends.one (.inr rfl) rfl (aG.tmp rfl) rfl rfl
    ·replace h:=eY h Cv
     refine QW.skip zL (gC (aY ?_))
     refine rG ?_
     refine xm 23 (pI lQ) ?_
     obtain ⟨TB,h⟩:=gG h
     refine xs 24 rfl (bY (a:=lQ) (b:=(1:Int)) rfl rfl rfl TB ?_)
     refine xz 5 (pI (lQ+(1:Int))) ?_
     exact ⟨ZP,by omega,⟨aF [(0, .d (.slice (l0.map rK))),(3, .aK 0 0),(4, .d (.slice (qf.map bq))),(5,pI (lQ+(1:Int)))],aj [.var [.d (ah m5)]],1,[]⟩,View.mk 1 [0] _ _ _ rfl rfl (by decide) (iC (iC (iC (iC trivial)))) (And.intro rfl trivial) rfl zL rfl,qf,(lQ+(1:Int)),m5,by omega,jG h,rfl⟩
 ·replace h:=eY h cv
  refine QW.exit zL (eA (eA (jY (aY ?_))))
  refine sR ?_
  obtain ⟨TD,Ya,h⟩:=bG h
  refine xs 139 rfl (aA rfl rfl TT.Jx rfl (yy _ Ya) ?_)
  refine xz 2 (pB TD) ?_
  refine QW.ret zL ?_
  obtain rfl:=sG h
  exact Ends.one (.inr rfl) rfl (aG.tmp rfl) rfl rfl
end Go.Proofs.YtlfjfoknbjcncaaGreat.K
namespace Go.Proofs.YtlfjfoknbjcncaaGreat.K
open Go
set_option linter.unusedVariables false
set_option linter.unusedSimpArgs false
section
variable {C R:Type} {step:C→Option (C⊕R)}
theorem Comes.upto (P:Nat→C) (n:Nat) {r:R} (hs:∀ i,i<n→step (P i)=some (.inl (P (i+1)))) (he:Comes step (P n) r):Comes step (P 0) r:=by
 have:∀ k,k≤n→Comes step (P (n-k)) r:=by
  intro k
  induction k with
  | zero=>intro _;exact he
  | succ k ih=>
   intro hk
   have h1:=ih (by omega)
   have h2:=hs (n-(k+1)) (by omega)
   rw [show n-(k+1)+1=n-k by omega] at h2
   exact .next h2 h1
 have:=this n (Nat.le_refl _)
 rwa [Nat.sub_self] at this
theorem Comes.TF (P:Nat→C) (n:Nat) {r:R} (hs:∀ i,i<n→Comes step (P (i+1)) r→Comes step (P i) r) (he:Comes step (P n) r):Comes step (P 0) r:=by
 have:∀ k,k≤n→Comes step (P (n-k)) r:=by
  intro k
  induction k with
  | zero=>intro _;exact he
  | succ k ih=>
   intro hk
   have h1:=ih (by omega)
   rw [show n-k=n-(k+1)+1 by omega] at h1
   exact hs _ (by omega) h1
 have:=this n (Nat.le_refl _)
 rwa [Nat.sub_self] at this
theorem Comes.first (P:Nat→C) (q:Nat→Bool) (n:Nat) (f:Nat→R) (r:R) (hs:∀ i,i<n→q i=false→step (P i)=some (.inl (P (i+1)))) (hq:∀ i,i<n→q i=true→step (P i)=some (.inr (f i))) (he:Comes step (P n) r):
  Comes step (P 0) (match (List.range n).find? q with | some i=>f i | none=>r):=by
 have:∀ k,k≤n→Comes step (P (n-k)) (match (List.range' (n-k) k).find? q with | some i=>f i | none=>r):=by
  intro k
  induction k with
  | zero=>intro _;exact he
  | succ k ih=>
   intro hk
   have h1:=ih (by omega)
   rw [List.range'_succ,List.find?_cons]
   cases hc:q (n-(k+1)) with
   | true=>exact .stop (hq _ (by omega) hc)
   | false=>
    have h2:=hs (n-(k+1)) (by omega) hc
    rw [show n-(k+1)+1=n-k by omega] at h2 ⊢
    exact .next h2 h1
 have:=this n (Nat.le_refl _)
 rwa [Nat.sub_self, ← List.range_eq_range'] at this
theorem Comes.ex (P:Nat→C) (q:Nat→Bool) (n:Nat) (f:Nat→R) (r:R) (hs:∀ i,i<n→q i=false→step (P i)=some (.inl (P (i+1)))) (hq:∀ i,i<n→q i=true→step (P i)=some (.inr (f i))) (he:Comes step (P n) r):
  ∃ x,Comes step (P 0) x∧((∃ i,i<n∧q i=true∧(∀ j,j<i→q j=false)∧x=f i)∨((∀ i,i<n→q i=false)∧x=r)):=by
 have:=Comes.first P q n f r hs hq he
 cases h:(List.range n).find? q with
 | some i=>
  rw [h] at this
  refine ⟨_,this, .inl ⟨i,by simpa using List.mem_of_find?_eq_some h,List.find?_some h,fun j hj=>?_,rfl⟩⟩
  rw [List.find?_range_eq_some] at h
  have:=h.2.2 j hj
  simpa using this
 | none=>
  rw [h] at this
  refine ⟨_,this, .inr ⟨fun i hi=>?_,rfl⟩⟩
  rw [List.find?_eq_none] at h
  simpa using h i (by simpa using hi)
theorem Comes.all (P:Nat→C) (q:Nat→Bool) (n:Nat) (r0 r:R) (hs:∀ i,i<n→q i=true→step (P i)=some (.inl (P (i+1)))) (hq:∀ i,i<n→q i=false→step (P i)=some (.inr r0)) (he:Comes step (P n) r):
  Comes step (P 0) (bif (List.range n).all q then r else r0):=by
 obtain ⟨x,hx,h | h⟩:=Comes.ex P (fun i=> !q i) n (fun _=>r0) r (fun i hi h=>hs i hi (by simpa using h)) (fun i hi h=>hq i hi (by simpa using h)) he
 ·obtain ⟨i,hi,h1,_,rfl⟩:=h
  have:(List.range n).all q=false:=by rw [List.all_eq_false];exact ⟨i,by simpa using hi,by simpa using h1⟩
  rw [this];exact hx
 ·obtain ⟨h1,rfl⟩:=h
  have:(List.range n).all q=true:=by rw [List.all_eq_true];intro i hi;simpa using h1 i (by simpa using hi)
  rw [this];exact hx
end
section
variable {α:Type} [Inhabited α]
theorem gZ (l:List α) (i:Nat):idx l (i:Int)=l.getD i default:=by simp [idx]
theorem lT (l:List α) {i:Nat} (h:i<l.length):idx l (i:Int)=l[i]:=by
 rw [gZ,List.getD_eq_getElem?_getD,List.getElem?_eq_getElem h];rfl
theorem nq (l:List α) {i:Nat} (h:i<l.length):l.take (i+1)=l.take i++[idx l (i:Int)]:=by
 rw [lT l h,List.take_add_one,List.getElem?_eq_getElem h];rfl
theorem nr (l:List α) {i:Nat} (h:i<l.length):l.drop i=idx l (i:Int)::l.drop (i+1):=by
 rw [lT l h];exact List.drop_eq_getElem_cons h
theorem fc (l:List α) {i:Nat} (h:i<l.length):idx l (i:Int)∈l:=by
 rw [lT l h];exact List.getElem_mem h
end
theorem Dv {α:Type} (l:List α) (k:Nat):sub l 0 (k:Int)=l.take k:=by simp [sub]
theorem nu {α:Type} (l:List α) (k:Nat):sub l (k:Int) (l.length:Int)=l.drop k:=by
 unfold sub
 rw [Int.toNat_natCast]
 exact List.take_of_length_le (by rw [List.length_drop];omega)
theorem TG {α:Type} (l:List α) (j k:Nat):sub l (j:Int) (k:Int)=(l.drop j).take (k-j):=by
 unfold sub
 rw [Int.toNat_natCast,show ((k:Int)-(j:Int)).toNat=k-j by omega]
def CA (n:Nat):Nat→List UInt8
 | 0=>[]
 | w+1=>UInt8.ofNat (n%256)::CA (n/256) w
@[simp] theorem Ms (n:Nat):∀ w,(CA n w).length=w
 | 0=>rfl
 | w+1=>by simp [CA,Ms (n/256) w]
theorem Em (n:Nat):∀ w,CA n (w+1)=CA n w++[UInt8.ofNat (n/256 ^ w%256)]
 | 0=>by simp [CA]
 | w+1=>by
  rw [CA,Em (n/256) w,CA,List.cons_append,Nat.div_div_eq_div_mul,Nat.pow_succ,Nat.mul_comm 256]
theorem wm (n:Nat):gb (n:Int)=UInt8.ofNat n:=by
 unfold gb
 apply UInt8.toNat_inj.1
 rw [show ((n:Int)%256).toNat=n%256 by omega,UInt8.toNat_ofNat',UInt8.toNat_ofNat']
 omega
theorem tE (n:Nat):UInt8.ofNat (n%256)=UInt8.ofNat n:=by
 apply UInt8.toNat_inj.1
 rw [UInt8.toNat_ofNat',UInt8.toNat_ofNat']
 omega
end Go.Proofs.YtlfjfoknbjcncaaGreat.K
namespace Go.Proofs.YtlfjfoknbjcncaaGreat.K
open Go Go.RowKit
set_option linter.unusedSimpArgs false
set_option linter.unusedVariables false
theorem A7 {α:Type} [Inhabited α] {l:List α} {i:Nat} (h:i<l.length):idx l (i:Int)=l[i]:=by
 simp [idx,List.getD_eq_getElem?_getD,List.getElem?_eq_getElem h]
def gH (n:Nat):List UInt8:=if h:n=0 then [] else gH (n/256)++[UInt8.ofNat (n%256)]
termination_by n
decreasing_by omega
theorem tf:gH 0=[]:=by rw [gH];rfl
theorem va {n:Nat} (h:n≠0):gH n=gH (n/256)++[UInt8.ofNat (n%256)]:=by rw [gH,dif_neg h]
theorem tg:∀ (k n:Nat),n<256 ^ k→(gH n).length≤k
 | 0,n,h=>by
  have:n=0:=by simpa using h
  subst this;rw [tf];exact Nat.le_refl _
 | k+1,n,h=>by
  by_cases hn:n=0
  ·subst hn;rw [tf];exact Nat.zero_le _
  ·have:n/256<256 ^ k:=by rw [Nat.pow_succ] at h;omega
   have:=tg k _ this
   rw [va hn,List.length_append,List.length_singleton];omega
theorem yz (n:Nat):gb (n:Int)=UInt8.ofNat (n%256):=by
 unfold gb
 congr 1
theorem Yb (n:Nat):Gl (n:Int) 8=((n/256:Nat):Int):=by
 unfold Gl
 have:min (8:Int).toNat 64=8:=by decide
 rw [this,Int.fdiv_eq_ediv_of_nonneg _ (by decide)]
 norm_cast
def uw (l:Bool):Nat:=if l then 192 else 128
def hd (l:Bool) (k:Nat):List UInt8:=if k<56 then [UInt8.ofNat ((uw l+k)%256)] else UInt8.ofNat ((uw l+55+(gH k).length)%256)::gH k
theorem TH (n0:Int) (l:Bool) (c:Nat) (hc:c≤200):∀ (k n:Nat) (b:List UInt8),n<256 ^ k→b.length+k≤1000→
  Comes (jc n0 l) (.L2 (n:Int) (c:Int) b) (UInt8.ofNat ((c+55+(gH n++b).length)%256)::(gH n++b)):=by
 have stop:∀ b:List UInt8,b.length≤1000→Comes (jc n0 l) (.L2 ((0:Nat):Int) (c:Int) b) (UInt8.ofNat ((c+55+(gH 0++b).length)%256)::(gH 0++b)):=by
  intro b hb
  refine Comes.stop ?_
  simp only [jc]
  have e:(c:Int)+55+(b.length:Int)=((c+55+b.length:Nat):Int):=by omega
  rw [decide_eq_false (by omega),cond_false,af (by unfold bA;omega),af (by unfold bA;omega),af (by simp;omega),e,yz,tf]
  rfl
 intro k
 induction k with
 | zero=>
  intro n b hn hb
  have:n=0:=by simpa using hn
  subst this
  exact stop b (by omega)
 | succ k ih=>
  intro n b hn hb
  by_cases h0:n=0
  ·subst h0;exact stop b (by omega)
  ·have hk:n/256<256 ^ k:=by rw [Nat.pow_succ] at hn;omega
   have:=ih (n/256) ([gb (n:Int)]++b) hk (by simp;omega)
   rw [va h0,List.append_assoc, ← yz]
   refine Comes.next ?_ this
   simp only [jc]
   rw [decide_eq_true (by omega),cond_true,af (by simp;omega),Yb]
theorem TI (n:Int) (l:Bool):tS n l=some (hd l (e8 (gQ n 0) 4294967296).toNat):=by
 refine cN ?_
 obtain ⟨k,hk⟩:∃ k:Nat,e8 (gQ n 0) 4294967296=(k:Int):=⟨(e8 (gQ n 0) 4294967296).toNat,by unfold e8 gQ;repeat' split<;>omega⟩
 have hle:k≤4294967296:=by
  have:e8 (gQ n 0) 4294967296≤4294967296:=by unfold e8;split<;>omega
  omega
 have hv:(bif l then some (192:Int) else some 128)=some ((uw l:Nat):Int):=by cases l<;>rfl
 have hc:uw l≤200:=by cases l<;>decide
 rw [hk,Int.toNat_natCast]
 unfold hd
 split
 ·rename_i h
  refine Comes.stop ?_
  simp only [jc,hk,hv,Option.bind_some]
  rw [decide_eq_true (by omega),cond_true,af (by unfold bA;omega),show ((uw l:Nat):Int)+(k:Int)=((uw l+k:Nat):Int) by omega,yz]
 ·rename_i h
  have:=TH n l (uw l) hc 5 k [] (by
                       have:(256:Nat) ^ 5=1099511627776:=by decide
                       omega) (by simp)
  rw [List.append_nil] at this
  refine Comes.next ?_ this
  simp only [jc,hk,hv,Option.bind_some]
  rw [decide_eq_false (by omega),cond_false]
theorem TJ:∀ (m k n:Nat),k<m→n<256 ^ k→n<2 ^ 62→ni m (n:Int)=some (gH n):=by
  intro m
  induction m with
  | zero=>intro k n h;omega
  | succ m ih=>
    intro k n hk hn h62
    show qc (ni m) (n:Int)=_
    unfold qc
    by_cases h0:n=0
    · subst h0
      rw [tf];rfl
    · obtain ⟨j,rfl⟩:∃ j,k=j+1:=by
        cases k with
        | zero=>
                  have:n=0:=by simpa using hn
                  exact absurd this h0
        | succ j=>exact ⟨j,rfl⟩
      have hj:n/256<256 ^ j:=by rw [Nat.pow_succ] at hn;omega
      have e:(n:Int).tdiv 256=((n/256:Nat):Int):=by
        rw [Int.tdiv_eq_ediv_of_nonneg (by omega)];omega
      have e2:(n:Int).tmod 256=((n%256:Nat):Int):=by
        rw [Int.tmod_eq_emod_of_nonneg (by omega)];omega
      have hl:=tg j _ hj
      have R1:(gH (n/256)).length≤8:=tg 8 _ (by
                                                                 have:(256:Nat) ^ 8=2 ^ 64:=by decide
                                                                 omega)
      rw [decide_eq_false (by omega),cond_false,e,e2,af ⟨by decide,by unfold bA;omega⟩,ih j _ (by omega) hj (by omega),Option.bind_some,af (by simp;omega),yz,Nat.mod_mod,va h0]
theorem Wo (n:Nat) (h:n<2 ^ 62):zc (n:Int)=some (gH n):=
  m8 9 fun m hm=>TJ m 8 n (by omega) (by
                                                     have:(256:Nat) ^ 8=2 ^ 64:=by decide
                                                     omega) h
theorem A8 (n:Nat) (l:Bool) (h:n<2 ^ 62):mW (n:Int) l=some (hd l n):=by
  have hv:(bif l then some (192:Int) else some 128)=some ((uw l:Nat):Int):=by cases l<;>rfl
  have hc:uw l≤200:=by cases l<;>decide
  unfold mW hd
  rw [hv,Option.bind_some]
  have R1:(gH n).length≤8:=tg 8 _ (by
                                                     have:(256:Nat) ^ 8=2 ^ 64:=by decide
                                                     omega)
  split
  · rename_i h
    rw [decide_eq_true (by omega),cond_true,af (by unfold bA;omega),show ((uw l:Nat):Int)+(n:Int)=((uw l+n:Nat):Int) by omega,yz]
  · rename_i h'
    rw [decide_eq_false (by omega),cond_false,Wo n h,Option.bind_some,af (by unfold bA;omega),af (by unfold bA;omega),af (by simp;omega),
      show ((uw l:Nat):Int)+55+((gH n).length:Int)=((uw l+55+(gH n).length:Nat):Int) by omega,yz]
    rfl
def Wp:Nat→Item→Prop
 | 0,_=>False
 | n+1,x=>x.fL.length≤9223372036854775807∧x.fS.length≤9223372036854775807∧∀ y∈x.fL,Wp n y
end Go.Proofs.YtlfjfoknbjcncaaGreat.K
namespace Go.Proofs.YtlfjfoknbjcncaaGreat.K
open Go Go.RowKit
set_option linter.unusedSimpArgs false
set_option linter.unusedVariables false
mutual
def cm:Item→List UInt8
 | ⟨l,s,r⟩=>if l=false then (if s.length=1∧(s.getD 0 0).toNat<128 then s else hd false s.length++s) else hd true (cB r).length++cB r
def cB:List Item→List UInt8
 | []=>[]
 | x::r=>cm x++cB r
end
mutual
def o7:Item→Nat
 | ⟨_,_,r⟩=>1+sg r
def sg:List Item→Nat
 | []=>0
 | x::r=>o7 x+sg r
end
theorem o8 (x:Item):cm x=if x.cD=false then (if x.fS.length=1∧(x.fS.getD 0 0).toNat<128 then x.fS else hd false x.fS.length++x.fS) else hd true (cB x.fL).length++cB x.fL:=by
 cases x;simp only [cm]
theorem wq (x:Item):o7 x=1+sg x.fL:=by cases x;simp only [o7]
theorem En (x:Item):1≤o7 x:=by rw [wq];omega
def RT:Nat→Item→Prop
 | 0,_=>False
 | n+1,x=>(x.cD=false→x.fL=[])∧(x.cD=true→x.fS=[])∧∀ y∈x.fL,RT n y
theorem HI (l:Bool) (k:Nat):hd l k≠[]:=by unfold hd;split<;>simp
theorem A9 (l:Bool) (k:Nat):(hd l k).length=if k<56 then 1 else 1+(gH k).length:=by
 unfold hd;split<;>simp;omega
theorem Mt {k:Nat} (h:k≤2 ^ 32):(gH k).length≤5:=tg 5 k (by rw [show (256:Nat) ^ 5=1099511627776 from by decide];omega)
theorem CB (l:Bool) {k:Nat} (h:k≤2 ^ 32):(hd l k).length≤6:=by
 have:=Mt h
 rw [A9];split<;>omega
theorem Eo (l:Bool) {k:Nat} (h:k≤2 ^ 32):tS (k:Int) l=some (hd l k):=by
 rw [TI]
 have:(e8 (gQ (k:Int) 0) 4294967296).toNat=k:=by unfold e8 gQ;repeat' split<;>omega
 rw [this]
theorem HJ (x:Item):cm x≠[]:=by
 rw [o8]
 split
 ·split
  ·rename_i h;intro e;rw [e] at h;simp at h
  ·intro e;exact HI _ _ (List.append_eq_nil_iff.1 e).1
 ·intro e;exact HI _ _ (List.append_eq_nil_iff.1 e).1
theorem PA {d c:Nat} (hd:d≤64) (hc:c+1≤4096):j7 (d:Int) ⟨(c:Int)⟩=some (.inl (),⟨((c+1:Nat):Int)⟩):=by
 unfold j7
 simp only
 rw [af (by unfold bA;omega),decide_eq_true (by omega),decide_eq_true (by omega)]
 rfl
theorem kn (e:Int):iS true e=some (.inl ()):=rfl
theorem Wq (f:Item→Int→counter→Option (((List UInt8)⊕Int)×counter)) (x:Item) (d:Nat) (WY:d≤64) (c0:counter)
  (hf:∀ y∈x.fL,∀ c:Nat,(cm y).length≤2 ^ 32→c+o7 y≤4096→f y ((d+1:Nat):Int) ⟨(c:Int)⟩=some (.inl (cm y),⟨((c+o7 y:Nat):Int)⟩)) (hl:x.fL.length≤9223372036854775807) (k:Nat):∀ (i:Nat) (acc:List UInt8) (c:Nat),k+i=x.fL.length→
  (acc++cB (x.fL.drop i)).length≤2 ^ 32→c+sg (x.fL.drop i)≤4096→
  Comes (eM f x (d:Int) c0) (.L1 acc (i:Int) (c:Int)) (.inl (hd true (acc++cB (x.fL.drop i)).length++(acc++cB (x.fL.drop i))),⟨((c+sg (x.fL.drop i):Nat):Int)⟩):=by
 induction k with
 | zero=>
  intro i acc c hi hlen hc
  refine Comes.stop ?_
  rw [List.drop_eq_nil_of_le (by omega)] at hlen ⊢
  simp only [cB,sg,List.append_nil,Nat.add_zero] at hlen ⊢
  have:=CB true hlen
  simp only [eM]
  rw [decide_eq_false (by omega),cond_false,Eo true hlen,Option.bind_some,af (by omega)]
 | succ k ih=>
  intro i acc c hi hlen hc
  have h1:i<x.fL.length:=by omega
  rw [List.drop_eq_getElem_cons h1] at hlen hc ⊢
  simp only [cB,sg] at hlen hc ⊢
  simp only [List.length_append] at hlen
  have e:=hf x.fL[i] (List.getElem_mem h1) c (by omega) (by omega)
  have:=ih (i+1) (acc++cm x.fL[i]) (c+o7 x.fL[i]) (by omega) (by simp only [List.length_append];omega) (by omega)
  rw [List.append_assoc,Nat.add_assoc] at this
  refine Comes.next ?_ this
  simp only [eM]
  rw [decide_eq_true (by omega),cond_true,af (by omega),af (by unfold bA;omega),A7 h1,show (d:Int)+1=((d+1:Nat):Int) by omega,e,Option.bind_some]
  simp only
  rw [af (by omega),af (by unfold bA;omega)]
  rfl
theorem Mu:∀ (n m:Nat) (x:Item) (d c:Nat),Wp n x→RT n x→n≤m→d+n≤65→(cm x).length≤2 ^ 32→c+o7 x≤4096→
  ig m x (d:Int) ⟨(c:Int)⟩=some (.inl (cm x),⟨((c+o7 x:Nat):Int)⟩)
 | 0,_,_,_,_,h,_,_,_,_,_=>h.elim
 | n+1,0,_,_,_,_,_,hm,_,_,_=>by omega
 | n+1,m+1,x,d,c,hok,hr,hm,hd,hlen,hc=>by
  show gU (eM (ig m) x (d:Int) ⟨(c:Int)⟩) .S=_
  refine cN ?_
  have h1:=PA (d:=d) (c:=c) (by omega) (by have:=En x;omega)
  cases hl:x.cD with
  | false=>
   have gP:=hr.1 hl
   have e0:o7 x=1:=by rw [wq,gP];rfl
   rw [o8,if_pos hl] at hlen ⊢
   rw [e0]
   refine Comes.stop ?_
   simp only [eM,h1,Option.bind_some,gP,hl]
   simp only [Bool.not_false,Bool.or_true,kn,Option.bind_some,List.length_nil,cond_true]
   rw [show (decide (((0:Nat):Int)=0)||false)=true from rfl,kn,Option.bind_some]
   simp only
   rw [af (by intro h;have:=of_decide_eq_true h;omega)]
   by_cases h2:x.fS.length=1
   ·have e1:idx x.fS (0:Int)=x.fS.getD 0 0:=by
     show idx x.fS ((0:Nat):Int)=_
     rw [A7 (by omega)]
     simp [List.getD_eq_getElem?_getD,List.getElem?_eq_getElem (show 0<x.fS.length by omega)]
    by_cases h3:(x.fS.getD 0 0).toNat<128
    ·rw [if_pos ⟨h2,h3⟩,decide_eq_true (by omega),e1,decide_eq_true (by omega)];rfl
    ·rw [if_neg (fun h=>h3 h.2)] at hlen ⊢
     rw [decide_eq_true (by omega),e1,decide_eq_false (by omega),Bool.and_false,cond_false,Eo false (by omega),Option.bind_some,af (by rw [List.length_append] at hlen;omega)]
   ·rw [if_neg (fun h=>h2 h.1)] at hlen ⊢
    rw [List.length_append] at hlen
    rw [decide_eq_false (by omega),Bool.false_and,cond_false,Eo false (by omega),Option.bind_some,af (by omega)]
  | true=>
   have gP:=hr.2.1 hl
   rw [o8,if_neg (by rw [hl];simp)] at hlen ⊢
   rw [List.length_append] at hlen
   have key:=Wq (ig m) x d (by omega) ⟨(c:Int)⟩ (fun y hy c hl hc=>Mu n m y (d+1) c (hok.2.2 y hy) (hr.2.2 y hy) (by omega) (by omega) hl hc) hok.1 x.fL.length 0 [] (c+1) rfl (by simp only [List.nil_append,List.drop_zero];omega) (by rw [wq] at hc;rw [List.drop_zero];omega)
   rw [List.drop_zero,List.nil_append] at key
   rw [wq, ← Nat.add_assoc]
   refine Comes.next ?_ key
   simp only [eM,h1,Option.bind_some,gP,hl]
   simp only [beq_self_eq_true,Bool.true_or,Bool.or_true,kn,Option.bind_some,Bool.not_true,cond_false]
   rfl
theorem Wr {n:Nat} (x:Item) (hok:Wp n x) (hr:RT n x) (hn:n≤65) (hlen:(cm x).length≤2 ^ 32) (hc:o7 x≤4096):lN x=some (cm x,0):=by
 have:qB x 0 ⟨0⟩=some (.inl (cm x),⟨((0+o7 x:Nat):Int)⟩):=m8 n fun m hm=>Mu n m x 0 0 hok hr hm (by omega) hlen (by omega)
 unfold lN
 rw [this];rfl
end Go.Proofs.YtlfjfoknbjcncaaGreat.K
namespace Go.Proofs.YtlfjfoknbjcncaaGreat.K
open Go Go.RowKit
set_option linter.unusedSimpArgs false
set_option linter.unusedVariables false
def sK (l:List UInt8):Nat:=l.foldl (fun a b=>a*256+b.toNat) 0
theorem HK (l:List UInt8) (b:UInt8):sK (l++[b])=sK l*256+b.toNat:=by simp [sK]
theorem JB (n:Nat):sK (gH n)=n:=by
 induction n using Nat.strongRecOn with
 | _ n ih=>
  by_cases h:n=0
  ·subst h;rw [tf];rfl
  ·rw [va h,HK,ih _ (by omega)]
   have:(UInt8.ofNat (n%256)).toNat=n%256:=by rw [UInt8.toNat_ofNat'];omega
   rw [this];omega
theorem OT (l:List UInt8):∀ z:Nat,l.foldl (fun a b=>a*256+b.toNat) z=z*256 ^ l.length+l.foldl (fun a b=>a*256+b.toNat) 0:=by
 induction l with
 | nil=>intro z;simp
 | cons b r ih=>
  intro z
  rw [List.foldl_cons,List.foldl_cons,ih,ih (0*256+b.toNat),List.length_cons,Nat.pow_succ,Nat.add_mul,Nat.zero_mul,Nat.zero_add,Nat.mul_assoc,Nat.mul_comm 256,Nat.add_assoc]
theorem QX (a b:List UInt8):sK (a++b)=sK a*256 ^ b.length+sK b:=by
 unfold sK
 rw [List.foldl_append,OT b]
theorem OU {n:Nat} (h:n≠0):∃ b r,gH n=b::r∧b.toNat≠0:=by
 induction n using Nat.strongRecOn with
 | _ n ih=>
  by_cases h2:n/256=0
  ·refine ⟨UInt8.ofNat (n%256),[],by rw [va h,h2,tf];rfl,?_⟩
   have:(UInt8.ofNat (n%256)).toNat=n%256:=by rw [UInt8.toNat_ofNat'];omega
   rw [this];omega
  ·obtain ⟨b,r,e,hb⟩:=ih _ (by omega) h2
   exact ⟨b,r++[UInt8.ofNat (n%256)],by rw [va h,e];rfl,hb⟩
theorem QY (a b:Nat) (ha:a<2 ^ 40) (hb:b<256):NI (wT (a:Int) 8) (b:Int)=((a*256+b:Nat):Int):=by
 have e1:wT (a:Int) 8=((a*256:Nat):Int):=by
  unfold wT
  rw [show min (8:Int).toNat 64=8 by decide];omega
 rw [e1]
 unfold NI
 have h1:BitVec.ofInt 64 ((a*256:Nat):Int)=BitVec.ofNat 64 (a*256):=by rw [BitVec.ofInt_natCast]
 have h2:BitVec.ofInt 64 ((b:Nat):Int)=BitVec.ofNat 64 b:=by rw [BitVec.ofInt_natCast]
 rw [h1,h2,BitVec.toNat_or,BitVec.toNat_ofNat,BitVec.toNat_ofNat,Nat.mod_eq_of_lt (by omega),Nat.mod_eq_of_lt (by omega)]
 have:a*256||| b=a*256+b:=by
  have:=Nat.shiftLeft_add_eq_or_of_lt (i:=8) (b:=b) (by omega) a
  rw [Nat.shiftLeft_eq] at this
  exact this.symm
 rw [this]
 exact tO (by unfold bA;omega)
theorem E8 {s:List UInt8} (h:0<s.length):idx s (0:Int)=s.getD 0 0:=by
 show idx s ((0:Nat):Int)=_
 rw [A7 h]
 simp [List.getD_eq_getElem?_getD,List.getElem?_eq_getElem h]
theorem JC {n:Nat} (h:n<256):(UInt8.ofNat n).toNat=n:=by rw [UInt8.toNat_ofNat'];omega
theorem Ep (l:Bool) {k:Nat} (h:k≤2 ^ 32) (t:List UInt8):((hd l k++t).getD 0 0).toNat=if k<56 then uw l+k else uw l+55+(gH k).length:=by
 have h5:=Mt h
 have hc:uw l≤192:=by cases l<;>decide
 unfold hd
 split
 ·simp only [List.cons_append,List.getD_cons_zero]
  rw [Nat.mod_eq_of_lt (by omega),JC (by omega)]
 ·simp only [List.cons_append,List.getD_cons_zero]
  rw [Nat.mod_eq_of_lt (by omega),JC (by omega)]
theorem HL (l:Bool) (k:Nat) (h:k≤2 ^ 32) (t:List UInt8) (ht:(hd l k++t).length≤2 ^ 40):p5 (hd l k++t) ((uw l:Nat):Int)=some (.inl ((k:Int),(((hd l k).length:Nat):Int))):=by
 refine cN ?_
 have h5:=Mt h
 have hc:uw l≤192:=by cases l<;>decide
 have hpos:0<(hd l k++t).length:=by
  have:=List.length_pos_iff.2 (HI l k)
  rw [List.length_append];omega
 have h1:=Ep l h t
 have hlen:=A9 l k
 generalize hs:hd l k++t=s at h1 hpos ht
 by_cases hk:k<56
 ·rw [if_pos hk] at h1 hlen
  refine Comes.stop ?_
  simp only [iE]
  rw [af (by omega),E8 hpos,h1,af (by unfold bA;omega),decide_eq_true (by omega),cond_true,hlen]
  have:((uw l+k:Nat):Int)-((uw l:Nat):Int)=(k:Int):=by omega
  rw [this];rfl
 ·rw [if_neg hk] at h1 hlen
  obtain ⟨b,r,hb,hb0⟩:=OU (n:=k) (by omega)
  have Xb:s.length=1+(gH k).length+t.length:=by rw [← hs,List.length_append,hlen]
  have hbl:(gH k).length=r.length+1:=by rw [hb];rfl
  have BE:∀ (i:Nat) (hi:i<(gH k).length),idx s (1+(i:Int))=(gH k)[i]:=by
   intro i hi
   rw [show (1:Int)+(i:Int)=((i+1:Nat):Int) by omega,A7 (by omega)]
   subst hs
   unfold hd
   simp only [if_neg hk,List.cons_append,List.getElem_cons_succ]
   rw [List.getElem_append_left]
  have hb1:idx s (1:Int)=b:=by
   have:=BE 0 (by omega)
   simp only [hb,List.getElem_cons_zero] at this
   exact this
  have loop:∀ (j i:Nat),j+i=(gH k).length→Comes (iE s ((uw l:Nat):Int)) (.L1 ((sK ((gH k).take i):Nat):Int) (i:Int)) (.inl ((k:Int),(((hd l k).length:Nat):Int))):=by
   intro j
   induction j with
   | zero=>
    intro i hi
    obtain rfl:i=(gH k).length:=by omega
    refine Comes.stop ?_
    rw [List.take_length,JB]
    simp only [iE]
    rw [E8 hpos,h1,decide_eq_false (by omega),cond_false,decide_eq_true (by omega),kn,Option.bind_some]
    simp only
    rw [af (by unfold bA;omega),hlen]
    have:(1:Int)+(((uw l+55+(gH k).length:Nat):Int)-((uw l:Nat):Int)-55)=((1+(gH k).length:Nat):Int):=by omega
    rw [this]
   | succ j ih=>
    intro i hi
    have hi2:i<(gH k).length:=by omega
    have hsplit:gH k=(gH k).take i++((gH k)[i]::(gH k).drop (i+1)):=by
     rw [← List.drop_eq_getElem_cons hi2,List.take_append_drop]
    have hv:sK ((gH k).take i)*256≤k:=by
     have h2:=JB k
     rw [hsplit,QX,List.length_cons,Nat.pow_succ] at h2
     have:1≤256 ^ ((gH k).drop (i+1)).length:=Nat.one_le_pow _ _ (by omega)
     have:sK ((gH k).take i)*256≤sK ((gH k).take i)*(256 ^ ((gH k).drop (i+1)).length*256):=Nat.mul_le_mul_left _ (by omega)
     omega
    have hn:sK ((gH k).take (i+1))=sK ((gH k).take i)*256+((gH k)[i]).toNat:=by
     rw [List.take_succ_eq_append_getElem hi2,HK]
    have hbt:((gH k)[i]).toNat<256:=UInt8.toNat_lt _
    refine Comes.next (c':= .L1 ((sK ((gH k).take (i+1)):Nat):Int) ((i+1:Nat):Int)) ?_ (ih (i+1) (by omega))
    simp only [iE]
    have hsh:wT ((sK ((gH k).take i):Nat):Int) 8=((sK ((gH k).take i)*256:Nat):Int):=by
     unfold wT
     rw [show min (8:Int).toNat 64=8 by decide];omega
    rw [E8 hpos,h1,decide_eq_true (by omega),cond_true,decide_eq_true (by omega),kn,Option.bind_some]
    simp only
    rw [af (by rw [hsh];unfold bA;omega),af (by unfold bA;omega),af (by omega),af (by unfold bA;omega),BE i hi2,QY _ _ (by omega) hbt,hn]
    rfl
  refine Comes.next (c':= .L1 ((sK ((gH k).take 0):Nat):Int) ((0:Nat):Int)) ?_ (loop _ 0 rfl)
  simp only [iE]
  rw [af (by omega),E8 hpos,h1,af (by unfold bA;omega),decide_eq_false (by omega),cond_false,af (by unfold bA;omega),decide_eq_true (by omega),kn,Option.bind_some]
  simp only
  rw [af (by omega),hb1,decide_eq_false (by omega),Bool.not_false,kn,Option.bind_some]
  rfl
theorem Er {α:Type} (a b c:List α):sub (a++(b++c)) ((a.length:Nat):Int) (((a.length:Nat):Int)+((b.length:Nat):Int))=b:=by
 unfold sub
 rw [Int.toNat_natCast,List.drop_left',show (((a.length:Nat):Int)+((b.length:Nat):Int)-((a.length:Nat):Int)).toNat=b.length by omega,List.take_left']
 ·rfl
 ·rfl
theorem QZ {α:Type} (a b:List α):sub (a++b) ((a.length:Nat):Int) (((a++b).length:Nat):Int)=b:=by
 unfold sub
 rw [Int.toNat_natCast,List.drop_left' rfl,List.take_of_length_le (by rw [List.length_append];omega)]
theorem Dw {s:List UInt8} (h:s≠[]):(s==([]:List UInt8))=false:=by
 cases s with
 | nil=>exact absurd rfl h
 | cons=>rfl
theorem PB (f:List UInt8→Int→counter→Option (((Item×Int)⊕Int)×counter)) (s:List UInt8) (d:Nat) (WY:d≤64) (c0:counter) (kk n:Nat) (hkn:kk+n≤2 ^ 41):∀ (l:List Item) (acc:List Item) (c:Nat),
  (∀ y∈l,∀ (c:Nat) (t:List UInt8),(cm y++t).length≤2 ^ 40→(cm y).length≤2 ^ 32→c+o7 y≤4096→f (cm y++t) ((d+1:Nat):Int) ⟨(c:Int)⟩=some (.inl (y,(((cm y).length:Nat):Int)),⟨((c+o7 y:Nat):Int)⟩))→
  (cB l).length≤2 ^ 32→c+sg l≤4096→acc.length+sg l≤4096→
  Comes (ek f s (d:Int) c0) (.L2 (n:Int) (kk:Int) (cB l) (c:Int) acc) (.inl (⟨true,[],acc++l⟩,((kk+n:Nat):Int)),⟨((c+sg l:Nat):Int)⟩)
 | [],acc,c,hf,hl,hc,ha=>by
  refine Comes.stop ?_
  simp only [ek,cB,sg,Nat.add_zero,List.append_nil]
  rw [show (!(([]:List UInt8)==[]))=false from rfl,cond_false,af (by unfold bA;omega)]
  rw [show (kk:Int)+(n:Int)=((kk+n:Nat):Int) by omega]
 | y::r,acc,c,hf,hl,hc,ha=>by
  simp only [cB,sg] at hl hc ha ⊢
  rw [List.length_append] at hl
  have e:=hf y (List.mem_cons_self ..) c (cB r) (by rw [List.length_append];omega) (by omega) (by omega)
  have hy:=En y
  have:=PB f s d WY c0 kk n hkn r (acc++[y]) (c+o7 y) (fun z hz=>hf z (List.mem_cons_of_mem _ hz)) (by omega) (by omega) (by rw [List.length_append,List.length_singleton];omega)
  rw [List.append_assoc,List.singleton_append,Nat.add_assoc] at this
  refine Comes.next ?_ this
  simp only [ek]
  rw [Dw (fun h=>HJ y (List.append_eq_nil_iff.1 h).1),Bool.not_false,cond_true,af (by unfold bA;omega),show (d:Int)+1=((d+1:Nat):Int) by omega,e,Option.bind_some]
  simp only
  rw [af (by simp only [List.length_singleton];omega),af (by rw [List.length_append];omega),QZ]
theorem Mv:∀ (n m:Nat) (x:Item) (d c:Nat) (t:List UInt8),RT n x→n≤m→d+n≤65→(cm x++t).length≤2 ^ 40→(cm x).length≤2 ^ 32→c+o7 x≤4096→
  ic m (cm x++t) (d:Int) ⟨(c:Int)⟩=some (.inl (x,(((cm x).length:Nat):Int)),⟨((c+o7 x:Nat):Int)⟩)
 | 0,_,_,_,_,_,h,_,_,_,_,_=>h.elim
 | n+1,0,_,_,_,_,_,hm,_,_,_,_=>by omega
 | n+1,m+1,x,d,c,t,hr,hm,hd',hlt,hlen,hc=>by
  show gU (ek (ic m) (cm x++t) (d:Int) ⟨(c:Int)⟩) .S=_
  refine cN ?_
  have h1:=PA (d:=d) (c:=c) (by omega) (by have:=En x;omega)
  have hne:cm x++t≠[]:=fun h=>HJ x (List.append_eq_nil_iff.1 h).1
  have hpos:0<(cm x++t).length:=List.length_pos_iff.2 hne
  cases hl:x.cD with
  | false=>
   have gP:=hr.1 hl
   have hx:x=⟨false,x.fS,[]⟩:=by cases x;simp_all
   have e0:o7 x=1:=by rw [wq,gP];rfl
   rw [e0]
   refine Comes.stop ?_
   by_cases h2:x.fS.length=1∧(x.fS.getD 0 0).toNat<128
   ·have he:cm x=x.fS:=by rw [o8,if_pos hl,if_pos h2]
    have hb:(cm x++t).getD 0 0=x.fS.getD 0 0:=by
     rw [he]
     cases hS:x.fS with
     | nil=>rw [hS] at h2;simp at h2
     | cons b r=>rfl
    simp only [ek,h1,Option.bind_some,Dw hne,Bool.not_false,kn]
    rw [af (by omega),E8 hpos,hb,decide_eq_true (by omega),cond_true,af (by omega)]
    have hs:sub (cm x++t) 0 1=x.fS:=by
     have:=Er ([]:List UInt8) x.fS t
     rw [List.nil_append,h2.1] at this
     rw [he];exact this
    rw [hs]
    simp only [iT,Option.bind_some]
    rw [← hx,he,h2.1]
    rfl
   ·have he:cm x=hd false x.fS.length++x.fS:=by rw [o8,if_pos hl,if_neg h2]
    have hk:x.fS.length≤2 ^ 32:=by rw [he,List.length_append] at hlen;omega
    have Dx:cm x++t=hd false x.fS.length++(x.fS++t):=by rw [he,List.append_assoc]
    have hf:=Ep false hk (x.fS++t)
    have hL:=HL false x.fS.length hk (x.fS++t) (by rw [← Dx];exact hlt)
    have hh:=CB false hk
    have h5:=Mt hk
    rw [← Dx] at hf hL
    have hge:128≤((cm x++t).getD 0 0).toNat∧((cm x++t).getD 0 0).toNat<192:=by
     rw [hf];split<;>simp [uw]<;>omega
    have PY:(cm x++t).length=(hd false x.fS.length).length+x.fS.length+t.length:=by rw [Dx];simp only [List.length_append];omega
    simp only [ek,h1,Option.bind_some,Dw hne,Bool.not_false,kn]
    rw [af (by omega),E8 hpos,decide_eq_false (by omega),cond_false,af (by omega),decide_eq_false (by omega),cond_false,Option.bind_some]
    rw [show p5 (cm x++t) 128=_ from hL,Option.bind_some]
    simp only
    rw [af (by unfold bA;omega),decide_eq_true (by omega),kn,Option.bind_some]
    simp only
    have hs:sub (cm x++t) (((hd false x.fS.length).length:Nat):Int) ((((hd false x.fS.length).length:Nat):Int)+((x.fS.length:Nat):Int))=x.fS:=by rw [Dx];exact Er _ _ _
    rw [af (by unfold bA;omega),af (by omega),Bool.not_false,cond_true,hs,af (by intro h;simp only [Bool.not_eq_false',decide_eq_true_eq] at h;omega)]
    have x7:((!decide ((x.fS.length:Int)=1))||decide (128≤(((idx x.fS 0).toNat:Nat):Int)))=true:=by
     by_cases h3:x.fS.length=1
     ·rw [E8 (by omega)]
      have:¬ (x.fS.getD 0 0).toNat<128:=fun h=>h2 ⟨h3,h⟩
      rw [decide_eq_true (p:=(128:Int)≤_) (by omega),Bool.or_true]
     ·rw [decide_eq_false (by omega)];rfl
    rw [x7,kn,Option.bind_some]
    simp only [iT,Option.bind_some]
    rw [af (by unfold bA;omega), ← hx,he,List.length_append]
    rw [show (((hd false x.fS.length).length:Nat):Int)+((x.fS.length:Nat):Int)=(((hd false x.fS.length).length+x.fS.length:Nat):Int) by omega]
  | true=>
   have gP:=hr.2.1 hl
   have hx:x=⟨true,[],x.fL⟩:=by cases x;simp_all
   have he:cm x=hd true (cB x.fL).length++cB x.fL:=by rw [o8,if_neg (by rw [hl];simp)]
   have hk:(cB x.fL).length≤2 ^ 32:=by rw [he,List.length_append] at hlen;omega
   have Dx:cm x++t=hd true (cB x.fL).length++(cB x.fL++t):=by rw [he,List.append_assoc]
   have hf:=Ep true hk (cB x.fL++t)
   have hL:=HL true (cB x.fL).length hk (cB x.fL++t) (by rw [← Dx];exact hlt)
   have hh:=CB true hk
   have h5:=Mt hk
   rw [← Dx] at hf hL
   have hge:192≤((cm x++t).getD 0 0).toNat:=by
    rw [hf];split<;>simp [uw];omega
   have PY:(cm x++t).length=(hd true (cB x.fL).length).length+(cB x.fL).length+t.length:=by rw [Dx];simp only [List.length_append];omega
   rw [wq] at hc ⊢
   have hs:sub (cm x++t) (((hd true (cB x.fL).length).length:Nat):Int) ((((hd true (cB x.fL).length).length:Nat):Int)+(((cB x.fL).length:Nat):Int))=cB x.fL:=by rw [Dx];exact Er _ _ _
   have key:=PB (ic m) (cm x++t) d (by omega) ⟨(c:Int)⟩ (hd true (cB x.fL).length).length (cB x.fL).length (by omega) x.fL [] (c+1) (fun y hy c t h1 h2 h3=>Mv n m y (d+1) c t (hr.2.2 y hy) (by omega) (by omega) h1 h2 h3) hk (by omega) (by rw [List.length_nil];omega)
   rw [List.nil_append, ← hx, ← List.length_append, ← he] at key
   rw [← Nat.add_assoc]
   refine Comes.next ?_ key
   simp only [ek,h1,Option.bind_some,Dw hne,Bool.not_false,kn]
   rw [af (by omega),E8 hpos,decide_eq_false (by omega),cond_false,af (by omega),decide_eq_true (by omega),cond_true,Option.bind_some]
   rw [show p5 (cm x++t) 192=_ from hL,Option.bind_some]
   simp only
   rw [af (by unfold bA;omega),decide_eq_true (by omega),kn,Option.bind_some]
   simp only
   rw [af (by unfold bA;omega),af (by omega),Bool.not_true,cond_false,hs]
theorem Ws {n:Nat} (x:Item) (t:List UInt8) (hr:RT n x) (hn:n≤65) (hlt:(cm x++t).length≤2 ^ 40) (hlen:(cm x).length≤2 ^ 32) (hc:o7 x≤4096):vF (cm x++t)=some (x,(((cm x).length:Nat):Int),0):=by
 have:qz (cm x++t) 0 ⟨0⟩=some (.inl (x,(((cm x).length:Nat):Int)),⟨((0+o7 x:Nat):Int)⟩):=m8 n fun m hm=>Mv n m x 0 0 t hr hm (by omega) hlt hlen (by omega)
 unfold vF
 rw [this];rfl
theorem Q0 {n:Nat} (x:Item) (hr:RT n x) (hn:n≤65) (hlen:(cm x).length≤2 ^ 32) (hc:o7 x≤4096):ku (cm x)=some (x,0):=by
 have:=Ws x [] hr hn (by rw [List.append_nil];omega) hlen hc
 rw [List.append_nil] at this
 unfold ku
 rw [this]
 simp
end Go.Proofs.YtlfjfoknbjcncaaGreat.K
namespace Go.Proofs.YtlfjfoknbjcncaaGreat.K
open Go Go.RowKit
set_option linter.unusedSimpArgs false
set_option linter.unusedVariables false
def noI:Item:=⟨false,[],[]⟩
end Go.Proofs.YtlfjfoknbjcncaaGreat.K
namespace Go.Proofs.YtlfjfoknbjcncaaGreat.K
open Go Go.RowKit
set_option linter.unusedSimpArgs false
set_option linter.unusedVariables false
end Go.Proofs.YtlfjfoknbjcncaaGreat.K
namespace Go.Proofs.YtlfjfoknbjcncaaGreat.K
open Go
theorem CC {l:List UInt8} {i:Nat} (h:i<l.length):l.drop i=l.getD i 0::l.drop (i+1):=by
 rw [List.drop_eq_getElem_cons h,List.getD_eq_getElem?_getD,List.getElem?_eq_getElem h]
 rfl
def common:List UInt8→List UInt8→Nat
 | a::r,b::q=>if a=b then common r q+1 else 0
 | _,_=>0
theorem zh {a b:List UInt8} {i:Nat} (h1:i<a.length) (h2:i<b.length):common (a.drop i) (b.drop i)=if (a.getD i 0).toNat=(b.getD i 0).toNat then common (a.drop (i+1)) (b.drop (i+1))+1 else 0:=by
 rw [CC h1,CC h2,common]
 simp only [UInt8.toNat_inj]
theorem xl {a b:List UInt8} {i:Nat} (h:¬ (i<a.length∧i<b.length)):common (a.drop i) (b.drop i)=0:=by
 by_cases h1:i<a.length
 ·rw [show b.drop i=[] from List.drop_eq_nil_of_le (by omega)]
  cases a.drop i<;>rfl
 ·rw [show a.drop i=[] from List.drop_eq_nil_of_le (by omega)]
  rfl
def right (l:List UInt8):Bool:= !(l.any fun b=>decide (15<b.toNat))
theorem AB {x:UInt8} {r:List UInt8}:right (x::r)=(!(decide (15<x.toNat))&&right r):=by simp [right]
def fo:List UInt8→List UInt8
 | a::b::r=>(a*16||| b)::fo r
 | _=>[]
theorem xU {l:List UInt8} (h:l.length<2):fo l=[]:=by
 cases l with
 | nil=>rfl
 | cons a r=>cases r with
  | nil=>rfl
  | cons b q=>simp at h;omega
def dz:List UInt8→List UInt8
 | []=>[]
 | c::r=>c/16::c%16::dz r
theorem qL:∀ ks:List UInt8,(dz ks).length=2*ks.length
 | []=>rfl
 | c::r=>by simp only [dz,List.length_cons,qL r];omega
theorem CD:∀ (ks:List UInt8) (j:Nat),j<ks.length→(dz ks)[2*j]? =some (ks.getD j 0/16)∧(dz ks)[2*j+1]? =some (ks.getD j 0%16)
 | [],j,h=>by simp at h
 | c::r,0,_=>⟨rfl,rfl⟩
 | c::r,j+1,h=>by
  have:=CD r j (by simpa using h)
  simp only [dz,show 2*(j+1)=2*j+1+1 from by omega,List.getElem?_cons_succ,List.getD_cons_succ]
  exact this
theorem OV (x:UInt8):x/16%16=x/16:=by
 apply UInt8.toNat_inj.1
 have:x.toNat<256:=x.toNat_lt
 rw [UInt8.toNat_mod,UInt8.toNat_div]
 exact Nat.mod_eq_of_lt (by show x.toNat/16<16;omega)
theorem OW (ks:List UInt8) (i:Nat) (h:i%2=0) (hi:i/2<ks.length):(dz ks).take (i+1)=(dz ks).take i++[ks.getD (i/2) 0/16%16]:=by
 have:=(CD ks (i/2) hi).1
 rw [show 2*(i/2)=i from by omega] at this
 rw [List.take_add_one,this,OV]
 rfl
theorem Q1 (ks:List UInt8) (i:Nat) (h:i%2=1) (hi:i/2<ks.length):(dz ks).take (i+1)=(dz ks).take i++[ks.getD (i/2) 0%16]:=by
 have:=(CD ks (i/2) hi).2
 rw [show 2*(i/2)+1=i from by omega] at this
 rw [List.take_add_one,this]
 rfl
def eu (p:List UInt8) (leaf:Bool):List UInt8:=
 if p.length%2=1 then fo ((if leaf then 3 else 1)::p) else fo ((if leaf then 2 else 0)::0::p)
def CE (p:List UInt8):Bool:=right p&&decide (p.length≤64)
theorem rB:∀ l:List UInt8,(fo l).length=l.length/2
 | []=>rfl
 | [_]=>by simp [fo]
 | a::b::r=>by simp only [fo,List.length_cons,rB r];omega
theorem Mw {p:List UInt8} (h:right p=true) (h2:p.length≤64):CE p=true:=by simp [CE,h,h2]
theorem yA {p:List UInt8} (h:right p=true) (i:Nat):(p.getD i 0).toNat<16:=by
 by_cases hi:i<p.length
 ·rw [List.getD_eq_getElem?_getD,List.getElem?_eq_getElem hi]
  simp only [right,Bool.not_eq_true',List.any_eq_false,decide_eq_true_eq] at h
  have:=h p[i] (List.getElem_mem hi)
  simp only [Option.getD_some]
  omega
 ·rw [List.getD_eq_getElem?_getD,List.getElem?_eq_none (by omega)]
  decide
theorem FL {a b:UInt8} (h:b.toNat<16):16*a+b=a*16||| b:=by
 apply UInt8.toNat_inj.1
 rw [UInt8.toNat_or,UInt8.toNat_add,UInt8.toNat_mul,UInt8.toNat_mul]
 have e:(16:UInt8).toNat=16:=rfl
 rw [e]
 have h1:a.toNat<256:=a.toNat_lt
 have h2:a.toNat*16%2 ^ 8=2 ^ 4*(a.toNat%16):=by omega
 rw [h2, ← Nat.two_pow_add_eq_or_of_lt (show b.toNat<2 ^ 4 by omega)]
 omega
theorem Es {p:List UInt8} (h:p.length%2=0):eu p true=[32]++fo (p.drop 0):=by
 rw [eu,if_neg (by omega)];rfl
theorem Dy {p:List UInt8} (h:p.length%2=0):eu p false=[0]++fo (p.drop 0):=by
 rw [eu,if_neg (by omega)];rfl
theorem ofNat_add {b:UInt8} {n:Nat} (h:b.toNat<16) (hn:n<200):UInt8.ofNat ((n:Int)+(b.toNat:Int)).toNat=UInt8.ofNat n+b:=by
 apply UInt8.toNat_inj.1
 rw [UInt8.toNat_add,UInt8.toNat_ofNat',UInt8.toNat_ofNat']
 omega
theorem Dz {p:List UInt8} (m:UInt8) (h:p.length%2=1) (h2:(p.getD 0 0).toNat<16):fo (m::p)=(16*m+p.getD 0 0)::fo (p.drop 1):=by
 have e:p=p.getD 0 0::p.drop 1:=by have:=CC (l:=p) (i:=0) (by omega);simpa using this
 rw [FL h2]
 conv=>lhs;rw [e]
 rfl
theorem FF {p:List UInt8} (h:p.length%2=1) (h2:(p.getD 0 0).toNat<16):eu p true=[UInt8.ofNat (48+((p.getD 0 0).toNat:Int)).toNat]++fo (p.drop 1):=by
 rw [eu,if_pos h]
 have e:=ofNat_add (n:=48) h2 (by omega)
 simp only [if_true]
 rw [Dz 3 h h2]
 exact congrArg (· ::fo (p.drop 1)) e.symm
theorem Et {p:List UInt8} (h:p.length%2=1) (h2:(p.getD 0 0).toNat<16):eu p false=[UInt8.ofNat (16+((p.getD 0 0).toNat:Int)).toNat]++fo (p.drop 1):=by
 rw [eu,if_pos h]
 have e:=ofNat_add (n:=16) h2 (by omega)
 simp only [if_false,Bool.false_eq_true]
 rw [Dz 1 h h2]
 exact congrArg (· ::fo (p.drop 1)) e.symm
def uY (c:UInt8) (n:Nat):Bool:=decide (3<c.toNat/16)||(decide (c.toNat/16%2=0)&&decide (c.toNat%16≠0))||decide (64+(2-c.toNat/16%2)<2*n)
def E9:List UInt8→Int
 | []=>5
 | c::r=>if uY c (r.length+1) then 6 else 0
def wu:List UInt8→List UInt8
 | []=>[]
 | c::r=>if uY c (r.length+1) then [] else (dz (c::r)).drop (2-c.toNat/16%2)
def BQ:List UInt8→Bool
 | []=>false
 | c::r=>if uY c (r.length+1) then false else decide (2≤c.toNat/16)
theorem BR:∀ (a b:List UInt8),dz (a++b)=dz a++dz b
 | [],b=>rfl
 | x::r,b=>by simp only [List.cons_append,dz,BR r b]
theorem Fa {l:List UInt8} {i:Nat} (h:i<l.length):dz (l.take (i+1))=dz (l.take i)++[l.getD i 0/16,l.getD i 0%16]:=by
 rw [List.take_add_one,BR,List.getD_eq_getElem?_getD,List.getElem?_eq_getElem h]
 rfl
theorem Q2 {c:UInt8} {r o:List UInt8} {i:Nat} (f:o=dz ((c::r).take i)) (hi:0<i):o.getD 0 0=c/16∧o.getD 1 0=c%16:=by
 obtain ⟨j,rfl⟩:∃ j,i=j+1:=⟨i-1,by omega⟩
 subst f
 exact ⟨rfl,rfl⟩
theorem qM (c:UInt8):(c/16).toNat=c.toNat/16:=by rw [UInt8.toNat_div];rfl
theorem qN (c:UInt8):(c%16).toNat=c.toNat%16:=by rw [UInt8.toNat_mod];rfl
theorem xo (c:UInt8) (n:Nat):uY c n=true↔(3<c.toNat/16∨(c.toNat/16%2=0∧c.toNat%16≠0)∨64+(2-c.toNat/16%2)<2*n):=by
 simp [uY,or_assoc]
theorem uZ {p:List UInt8} (h:CE p=true):right p=true∧p.length≤64:=by simpa [CE] using h
theorem zi (p:List UInt8) (leaf:Bool):(eu p leaf).length=p.length/2+1:=by
 unfold eu
 split
 ·rw [rB,List.length_cons];omega
 ·rw [rB,List.length_cons,List.length_cons];omega
theorem AD {a b:UInt8} (ha:a.toNat<16) (hb:b.toNat<16):(a*16||| b)/16=a∧(a*16||| b)%16=b:=by
 rw [← FL hb]
 have e:(16*a+b).toNat=16*a.toNat+b.toNat:=by
  rw [UInt8.toNat_add,UInt8.toNat_mul]
  show (16*a.toNat%256+b.toNat)%256=_
  omega
 constructor
 ·apply UInt8.toNat_inj.1
  rw [qM,e];omega
 ·apply UInt8.toNat_inj.1
  rw [qN,e];omega
theorem OX (c:UInt8):(c/16*16||| c%16)=c:=by
 have h:(c%16).toNat<16:=by rw [qN];omega
 rw [← FL h]
 apply UInt8.toNat_inj.1
 rw [UInt8.toNat_add,UInt8.toNat_mul,qM,qN]
 have:=c.toNat_lt
 show (16*(c.toNat/16)%256+c.toNat%16)%256=_
 omega
theorem AE {x:UInt8} {r:List UInt8} (h:right (x::r)=true):x.toNat<16∧right r=true:=by
 rw [AB] at h
 simp at h
 exact ⟨by omega,h.2⟩
theorem u0:∀ (q:List UInt8),q.length%2=0→right q=true→dz (fo q)=q
 | [],_,_=>rfl
 | [_],h,_=>by simp at h
 | a::b::r,h,hr=>by
  obtain ⟨h1,h2⟩:=AE hr
  obtain ⟨h3,h4⟩:=AE h2
  obtain ⟨e1,e2⟩:=AD h1 h3
  rw [fo,dz,e1,e2,u0 r (by simp at h;omega) h4]
theorem si:∀ (k:List UInt8),fo (dz k)=k
 | []=>rfl
 | c::r=>by rw [dz,fo,OX,si r]
theorem zj:∀ (k:List UInt8),right (dz k)=true
 | []=>rfl
 | c::r=>by
  have h1:(c/16).toNat<16:=by rw [qM];have:=c.toNat_lt;omega
  have h2:(c%16).toNat<16:=by rw [qN];omega
  rw [dz,AB,AB,zj r,decide_eq_false (by omega),decide_eq_false (by omega)]
  rfl
theorem Mx (m x:UInt8) (q:List UInt8) (hm:m.toNat<4) (ho:m.toNat%2=1) (hx:x.toNat<16) (hq:right q=true) (he:q.length%2=0) (hl:q.length<64):
  wu ((m*16||| x)::fo q)=x::q∧BQ ((m*16||| x)::fo q)=decide (2≤m.toNat)∧E9 ((m*16||| x)::fo q)=0:=by
 obtain ⟨e1,e2⟩:=AD (show m.toNat<16 by omega) hx
 have e3:=congrArg UInt8.toNat e1
 have e4:=congrArg UInt8.toNat e2
 rw [qM] at e3
 rw [qN] at e4
 have hb:uY (m*16||| x) ((fo q).length+1)=false:=by
  rw [Bool.eq_false_iff,ne_eq,xo,e3,e4,rB]
  omega
 simp only [wu,BQ,E9,hb,Bool.false_eq_true,if_false,e3,ho,dz,e1,e2,u0 q he hq,List.drop_succ_cons,List.drop_zero,and_true]
theorem My (m:UInt8) (q:List UInt8) (hm:m.toNat<4) (ho:m.toNat%2=0) (hq:right q=true) (he:q.length%2=0) (hl:q.length≤64):
  wu ((m*16||| 0)::fo q)=q∧BQ ((m*16||| 0)::fo q)=decide (2≤m.toNat)∧E9 ((m*16||| 0)::fo q)=0:=by
 obtain ⟨e1,e2⟩:=AD (show m.toNat<16 by omega) (show (0:UInt8).toNat<16 by decide)
 have e3:=congrArg UInt8.toNat e1
 have e4:=congrArg UInt8.toNat e2
 rw [qM] at e3
 rw [qN] at e4
 have e5:(0:UInt8).toNat=0:=rfl
 have hb:uY (m*16||| 0) ((fo q).length+1)=false:=by
  rw [Bool.eq_false_iff,ne_eq,xo,e3,e4,rB,e5]
  omega
 simp only [wu,BQ,E9,hb,Bool.false_eq_true,if_false,e3,ho,dz,e1,e2,u0 q he hq,Nat.sub_zero,List.drop_succ_cons,List.drop_zero,and_true]
theorem JE {p:List UInt8} (h:CE p=true) (leaf:Bool):wu (eu p leaf)=p∧BQ (eu p leaf)=leaf∧E9 (eu p leaf)=0:=by
 obtain ⟨h1,h2⟩:=uZ h
 unfold eu
 split
 ·rename_i ho
  cases p with
  | nil=>simp at ho
  | cons x q=>
   obtain ⟨h3,h4⟩:=AE h1
   simp at ho h2
   cases leaf
   ·exact Mx 1 x q (by decide) (by decide) h3 h4 (by omega) (by omega)
   ·exact Mx 3 x q (by decide) (by decide) h3 h4 (by omega) (by omega)
 ·cases leaf
  ·exact My 0 p (by decide) (by decide) h1 (by omega) h2
  ·exact My 2 p (by decide) (by decide) h1 (by omega) h2
theorem Mz {p:List UInt8} (h:right p=true) (k:Nat):right (p.drop k)=true:=by
 unfold right at h ⊢
 simp only [Bool.not_eq_true',List.any_eq_false] at h ⊢
 exact fun x hx=>h x (List.mem_of_mem_drop hx)
end Go.Proofs.YtlfjfoknbjcncaaGreat.K
namespace Go.Proofs.YtlfjfoknbjcncaaGreat.K
open Go
set_option linter.unusedVariables false
set_option linter.unusedSimpArgs false
theorem OY (v:List UInt8) (f:UInt8→Option Bool) (p:UInt8→Bool) (hf:∀ y∈v,f y=some (p y)) (hv:v.length≤1000000000):fK v f=some (v.any p):=by
 have hq:∀ i,i<v.length→f (idx v (i:Int))=some (p (idx v (i:Int))):=fun i hi=>hf _ (fc v hi)
 obtain ⟨r,hr,h⟩:=Comes.ex (step:=cY v f) (fun i=> .L1 (i:Int)) (fun i=>p (idx v (i:Int))) v.length (fun i=>(i:Int)) (-1) (by
   intro i hi h
   simp only [cY]
   rw [decide_eq_true (by omega),cond_true,af (by omega),hq i hi,Option.bind_some,h,cond_false,af (by unfold bA;omega)]
   rfl) (by
   intro i hi h
   simp only [cY]
   rw [decide_eq_true (by omega),cond_true,af (by omega),hq i hi,Option.bind_some,h,cond_true]) (by
   refine Comes.stop ?_
   simp only [cY]
   rw [decide_eq_false (by omega),cond_false])
 have e:kJ v f=some r:=cN (Comes.next rfl hr)
 unfold fK
 rw [e,Option.bind_some]
 congr 1
 rcases h with ⟨i,hi,h1,_,rfl⟩ | ⟨h1,rfl⟩
 ·rw [decide_eq_true (by omega)];exact (List.any_eq_true.2 ⟨_,fc v hi,h1⟩).symm
 ·rw [decide_eq_false (by omega)];symm;rw [List.any_eq_false];intro x hx
  obtain ⟨i,hi,rfl⟩:=List.mem_iff_getElem.1 hx
  have:=h1 i hi
  rw [lT v hi] at this;simpa using this
theorem HN (v:List (List UInt8)) (f:List UInt8→Option Bool) (p:List UInt8→Bool) (hf:∀ y∈v,f y=some (p y)) (hv:v.length≤1000000000):∃ r,gJ v f=some r∧((∃ i:Nat,r=(i:Int)∧i<v.length∧p (idx v (i:Int))=true∧∀ j,j<i→p (idx v (j:Int))=false)∨(r= -1∧∀ i,i<v.length→p (idx v (i:Int))=false)):=by
 have hq:∀ i,i<v.length→f (idx v (i:Int))=some (p (idx v (i:Int))):=fun i hi=>hf _ (fc v hi)
 obtain ⟨r,hr,h⟩:=Comes.ex (step:=cI v f) (fun i=> .L1 (i:Int)) (fun i=>p (idx v (i:Int))) v.length (fun i=>(i:Int)) (-1) (by
   intro i hi h
   simp only [cI]
   rw [decide_eq_true (by omega),cond_true,af (by omega),hq i hi,Option.bind_some,h,cond_false,af (by unfold bA;omega)]
   rfl) (by
   intro i hi h
   simp only [cI]
   rw [decide_eq_true (by omega),cond_true,af (by omega),hq i hi,Option.bind_some,h,cond_true]) (by
   refine Comes.stop ?_
   simp only [cI]
   rw [decide_eq_false (by omega),cond_false])
 refine ⟨r,cN (Comes.next rfl hr),?_⟩
 rcases h with ⟨i,hi,h1,h2,rfl⟩ | ⟨h1,rfl⟩
 ·exact .inl ⟨i,rfl,hi,h1,h2⟩
 ·exact .inr ⟨rfl,h1⟩
theorem JF (p:List UInt8) (hp:p.length≤1000000000):pF p=some (right p):=by
 unfold pF
 rw [OY p _ (fun b=>decide (15<b.toNat)) (fun y _=>by
  simp only [oL]
  congr 1
  rw [Bool.eq_iff_iff];simp only [decide_eq_true_eq];omega) hp,Option.bind_some]
 rfl
theorem vb (a b:List UInt8) (ha:a.length≤1000000) (hb:b.length≤1000000):q8 [a,b]=some (a++b):=by
 refine cN (Comes.next (c':= .L1 [] 0) rfl (Comes.next (c':= .L1 a 1) ?_ (Comes.next (c':= .L1 (a++b) 2) ?_ (Comes.stop ?_))))
 ·simp only [lM]
  rw [decide_eq_true (by simp),cond_true,af (by simp),af (by show (0+a.length)*1≤_;omega),af (by unfold bA;omega)]
  rfl
 ·simp only [lM]
  rw [decide_eq_true (by simp),cond_true,af (by simp),af (by show (a.length+b.length)*1≤_;omega),af (by unfold bA;omega)]
  rfl
 ·simp only [lM]
  rw [decide_eq_false (by simp),cond_false]
theorem Yc (a:UInt8):qw a 4=a*16:=by
 unfold qw
 apply UInt8.toNat_inj.1
 rw [show min (4:Int).toNat 8=4 from rfl,UInt8.toNat_ofNat',UInt8.toNat_mul]
 rfl
theorem TK (a:UInt8):mP a 4=a/16:=by
 unfold mP
 apply UInt8.toNat_inj.1
 have:=a.toNat_lt
 rw [show min (4:Int).toNat 8=4 from rfl,UInt8.toNat_ofNat',UInt8.toNat_div,show (16:UInt8).toNat=16 from rfl]
 exact Nat.mod_eq_of_lt (by omega)
theorem PC (a:UInt8):a&&& 15=a%16:=by
 apply UInt8.toNat_inj.1
 rw [UInt8.toNat_and,UInt8.toNat_mod]
 exact Nat.and_two_pow_sub_one_eq_mod a.toNat 4
theorem Q3 (p:List UInt8) (hp:p.length≤1000000):∀ (k i:Nat) (acc:List UInt8),p.length≤i+k→i≤p.length+1→acc.length≤i→Comes (jS p) (.L1 acc (i:Int)) (acc++fo (p.drop i)):=by
 intro k
 induction k with
 | zero=>
  intro i acc h h1 h2
  refine Comes.stop ?_
  simp only [jS]
  rw [af (by unfold bA;omega),decide_eq_false (by omega),cond_false,xU (by rw [List.length_drop];omega),List.append_nil]
 | succ k ih=>
  intro i acc h h1 h2
  by_cases hi:i+1<p.length
  ·have:=ih (i+2) (acc++[(idx p (i:Int))*16||| idx p ((i+1:Nat):Int)]) (by omega) (by omega) (by simp;omega)
   rw [List.append_assoc] at this
   have e:fo (p.drop i)=[(idx p (i:Int))*16||| idx p ((i+1:Nat):Int)]++fo (p.drop (i+2)):=by
    rw [nr p (by omega:i<p.length),nr p hi];rfl
   rw [e]
   refine Comes.next ?_ this
   simp only [jS]
   rw [af (by unfold bA;omega),decide_eq_true (by omega),cond_true,af (by omega),af (by unfold bA;omega),af (by omega),af (by simp only [List.length_singleton];omega),af (by unfold bA;omega),Yc]
   rfl
  ·refine Comes.stop ?_
   simp only [jS]
   rw [af (by unfold bA;omega),decide_eq_false (by omega),cond_false,xU (by rw [List.length_drop];omega),List.append_nil]
theorem Ba (p:List UInt8) (hp:p.length≤1000000):uT p=some (fo p):=by
 refine cN (Comes.next rfl ?_)
 have:=Q3 p hp p.length 0 [] (by omega) (by omega) (by simp)
 simpa using this
theorem HP (n:Nat):decide ((n:Int).tmod 2=1)=decide (n%2=1):=by
 rw [Bool.eq_iff_iff];simp only [decide_eq_true_eq]
 rw [Int.tmod_eq_emod_of_nonneg (by omega)];omega
theorem HQ {p:List UInt8} (h:CE p=true) (leaf:Bool):tU p leaf=some (eu p leaf,0):=by
 obtain ⟨h1,h2⟩:=uZ h
 unfold tU
 rw [JF p (by omega),Option.bind_some,h1,decide_eq_false (by omega),HP]
 by_cases ho:p.length%2=1
 ·rw [decide_eq_true ho]
  unfold eu
  rw [if_pos ho]
  cases leaf
  ·simp only [Bool.not_true,Bool.or_self,cond_false,Option.bind_some,cond_true]
   rw [vb _ _ (by simp) (by omega),Option.bind_some,Ba _ (by simp;omega)]
   rfl
  ·simp only [Bool.not_true,Bool.or_self,cond_false,Option.bind_some,cond_true]
   rw [vb _ _ (by simp) (by omega),Option.bind_some,Ba _ (by simp;omega)]
   rfl
 ·rw [decide_eq_false ho]
  unfold eu
  rw [if_neg ho]
  cases leaf
  ·simp only [Bool.not_true,Bool.or_self,cond_false,Option.bind_some,cond_true]
   rw [vb _ _ (by simp) (by omega),Option.bind_some,Ba _ (by simp;omega)]
   rfl
  ·simp only [Bool.not_true,Bool.or_self,cond_false,Option.bind_some,cond_true]
   rw [vb _ _ (by simp) (by omega),Option.bind_some,Ba _ (by simp;omega)]
   rfl
theorem OZ (s:List UInt8) (hs:s.length≤1000000):xG s=some (wu s,BQ s,E9 s):=by
 cases s with
 | nil=>exact cN (Comes.stop rfl)
 | cons c r=>
  refine cN (Comes.next (c':= .L1 0 []) rfl ?_)
  have hm:e8 (((c::r).length:Nat):Int) 64=((min (c::r).length 64:Nat):Int):=by unfold e8;split<;>omega
  have h1:1≤min (c::r).length 64:=by simp only [List.length_cons];omega
  refine Comes.upto (step:=j8 (c::r)) (fun i=> .L1 (i:Int) (dz ((c::r).take i))) (min (c::r).length 64) ?_ ?_
  ·intro i hi
   have hi':i<(c::r).length:=by omega
   have hl:(dz ((c::r).take i)).length≤2*i:=by rw [qL,List.length_take];omega
   simp only [j8]
   rw [hm,decide_eq_true (by omega),cond_true,af (by omega)]
   unfold qm
   rw [af (by simp only [List.length_cons,List.length_nil];omega),Option.bind_some,af (by unfold bA;omega),TK,PC,Fa hi',gZ]
   rfl
  ·have ho:(dz ((c::r).take (min (c::r).length 64))).length=2*min (c::r).length 64:=by
    rw [qL,List.length_take];omega
   obtain ⟨e0,e1⟩:=Q2 (c:=c) (r:=r) (i:=min (c::r).length 64) rfl (by omega)
   generalize hO:dz ((c::r).take (min (c::r).length 64))=o at ho e0 e1
   have i0:idx o (0:Int)=c/16:=by rw [← e0];rfl
   have i1:idx o (1:Int)=c%16:=by rw [← e1];rfl
   have hc:=c.toNat_lt
   have m2:((c/16%2).toNat:Int)=((c.toNat/16%2:Nat):Int):=by rw [UInt8.toNat_mod,qM];rfl
   have hL:(c::r).length=r.length+1:=rfl
   refine Comes.stop ?_
   simp only [j8]
   rw [hm,decide_eq_false (by omega),cond_false,af (by omega),i0,i1,m2,qM,qN,af (by unfold bA;omega),af (fun _=>by omega),af (fun _=>by unfold bA;omega),af (fun _=>by unfold bA;omega)]
   by_cases hb:uY c (r.length+1)=true
   ·have hb':=(xo _ _).1 hb
    have:((decide ((3:Int)<((c.toNat/16:Nat):Int))||(decide (((c.toNat/16%2:Nat):Int)=0)&& !decide (((c.toNat%16:Nat):Int)=0)))||decide ((64:Int)<2*(((c::r).length:Nat):Int)-(2-((c.toNat/16%2:Nat):Int))))=true:=by
     simp only [Bool.or_eq_true,Bool.and_eq_true,Bool.not_eq_true',decide_eq_true_eq,decide_eq_false_iff_not];omega
    rw [this,cond_true]
    simp only [wu,BQ,E9,hb,if_true]
   ·have hb':uY c (r.length+1)=false:=by simpa using hb
    have R6:=mt (xo c (r.length+1)).2 hb
    have:((decide ((3:Int)<((c.toNat/16:Nat):Int))||(decide (((c.toNat/16%2:Nat):Int)=0)&& !decide (((c.toNat%16:Nat):Int)=0)))||decide ((64:Int)<2*(((c::r).length:Nat):Int)-(2-((c.toNat/16%2:Nat):Int))))=false:=by
     simp only [Bool.or_eq_false_iff,Bool.and_eq_false_iff,Bool.not_eq_false',decide_eq_true_eq,decide_eq_false_iff_not];omega
    rw [this,cond_false,af (by omega)]
    have hn:(c::r).take (min (c::r).length 64)=c::r:=List.take_of_length_le (by omega)
    rw [hn] at hO
    subst hO
    have e2:(2:Int)-((c.toNat/16%2:Nat):Int)=((2-c.toNat/16%2:Nat):Int):=by omega
    rw [e2,nu]
    simp only [wu,BQ,E9,hb',Bool.false_eq_true,if_false]
    congr 4
    rw [Bool.eq_iff_iff];simp only [decide_eq_true_eq];omega
theorem JG (p:List UInt8) (leaf:Bool) (hr:right p=true) (hp:p.length≤64):∀ (k i:Nat) (acc:List UInt8),p.length=i+2*k→acc.length≤i+1→Comes (gh p leaf) (.L3 acc (i:Int)) (acc++fo (p.drop i)):=by
 intro k
 induction k with
 | zero=>
  intro i acc h h2
  refine Comes.stop ?_
  simp only [gh]
  rw [decide_eq_false (by omega),cond_false,xU (by rw [List.length_drop];omega),List.append_nil]
 | succ k ih=>
  intro i acc h h2
  have:=ih (i+2) (acc++[(idx p (i:Int))*16||| idx p ((i+1:Nat):Int)]) (by omega) (by simp;omega)
  rw [List.append_assoc] at this
  have e:fo (p.drop i)=[(idx p (i:Int))*16||| idx p ((i+1:Nat):Int)]++fo (p.drop (i+2)):=by
   rw [nr p (by omega:i<p.length),nr p (by omega:i+1<p.length)];rfl
  rw [e]
  refine Comes.next ?_ this
  have hlt:(idx p ((i+1:Nat):Int)).toNat<16:=by rw [gZ];exact yA hr _
  simp only [gh]
  rw [decide_eq_true (by omega),cond_true,af (by omega),af (by unfold bA;omega),af (by omega),af (by simp only [List.length_singleton];omega),af (by unfold bA;omega), ← FL hlt]
  rfl
theorem Bb {p:List UInt8} (h:CE p=true) (leaf:Bool):tA p leaf=some (eu p leaf):=by
 obtain ⟨h1,h2⟩:=uZ h
 have h0:(idx p (0:Int)).toNat<16:=yA h1 0
 have Kv:(p.getD 0 0).toNat<16:=yA h1 0
 have hg:idx p (0:Int)=p.getD 0 0:=rfl
 refine cN ?_
 by_cases ho:p.length%2=1
 ·have hL:=fun a=>JG p leaf h1 h2 (p.length/2) 1 [a] (by omega) (by simp)
  cases leaf
  ·rw [Et ho Kv]
   refine Comes.next ?_ (hL _)
   simp only [gh,cond_false,Option.bind_some]
   rw [HP,decide_eq_true ho,cond_true,af (by unfold bA;omega),af (by omega),af (by unfold bA;omega),Option.bind_some,show (0:Int)+16+((idx p (0:Int)).toNat:Int)=((16+(p.getD 0 0).toNat:Nat):Int) by rw [hg];omega,wm]
   rw [show ((16:Int)+((p.getD 0 0).toNat:Int)).toNat=16+(p.getD 0 0).toNat by omega]
   rfl
  ·rw [FF ho Kv]
   refine Comes.next ?_ (hL _)
   simp only [gh,cond_true,Option.bind_some]
   rw [HP,decide_eq_true ho,cond_true,af (by unfold bA;omega),af (by omega),af (by unfold bA;omega),Option.bind_some,show (32:Int)+16+((idx p (0:Int)).toNat:Int)=((48+(p.getD 0 0).toNat:Nat):Int) by rw [hg];omega,wm]
   rw [show ((48:Int)+((p.getD 0 0).toNat:Int)).toNat=48+(p.getD 0 0).toNat by omega]
   rfl
 ·have hL:=fun a=>JG p leaf h1 h2 (p.length/2) 0 [a] (by omega) (by simp)
  cases leaf
  ·rw [Dy (by omega)]
   refine Comes.next ?_ (hL _)
   simp only [gh,cond_false,Option.bind_some]
   rw [HP,decide_eq_false ho,cond_false,Option.bind_some]
   rfl
  ·rw [Es (by omega)]
   refine Comes.next ?_ (hL _)
   simp only [gh,cond_true,Option.bind_some]
   rw [HP,decide_eq_false ho,cond_false,Option.bind_some]
   rfl
end Go.Proofs.YtlfjfoknbjcncaaGreat.K
namespace Go.Proofs.YtlfjfoknbjcncaaGreat.K
open Go
set_option linter.unusedVariables false
set_option linter.unusedSimpArgs false
theorem RT.mono:∀ {n m:Nat} {x:Item},RT n x→n≤m→RT m x
 | n+1,m+1,x,h,hm=>⟨h.1,h.2.1,fun y hy=>RT.mono (h.2.2 y hy) (by omega)⟩
 | n+1,0,x,h,hm=>by omega
theorem Bc (x:Item):1≤(cm x).length:=List.length_pos_iff.2 (HJ x)
theorem HR:∀ (l:List Item) (y:Item),y∈l→(cm y).length≤(cB l).length
 | x::r,y,h=>by
  simp only [cB,List.length_append]
  rcases List.mem_cons.1 h with rfl | h
  ·omega
  ·have:=HR r y h;omega
theorem CF:∀ l:List Item,l.length≤(cB l).length
 | []=>Nat.le_refl _
 | x::r=>by have:=CF r;have:=Bc x;simp only [cB,List.length_append,List.length_cons];omega
theorem CG:∀ a b:List Item,cB (a++b)=cB a++cB b
 | [],b=>by simp [cB]
 | x::r,b=>by simp only [List.cons_append,cB,CG r b,List.append_assoc]
theorem wv (l:List Item):cm ⟨true,[],l⟩=hd true (cB l).length++cB l:=by rw [o8];simp
theorem FM {x:Item} (h:x.cD=true):cm x=hd true (cB x.fL).length++cB x.fL:=by rw [o8,if_neg (by simp [h])]
theorem PD (l:Bool) (k:Nat):1≤(hd l k).length:=List.length_pos_iff.2 (HI l k)
theorem Bd {x y:Item} (h:x.cD=true) (hy:y∈x.fL):(cm y).length<(cm x).length:=by
 rw [FM h,List.length_append]
 have:=HR _ _ hy;have:=PD true (cB x.fL).length;omega
theorem KH (x:Item) (h:x.cD=false):x.fS.length≤(cm x).length:=by
 rw [o8,if_pos h]
 split
 ·exact Nat.le_refl _
 ·simp
theorem JH:∀ l:List Item,(∀ y∈l,o7 y≤(cm y).length)→sg l≤(cB l).length
 | [],_=>Nat.le_refl _
 | x::r,h=>by
  have:=JH r fun y hy=>h y (List.mem_cons_of_mem _ hy)
  have:=h x (List.mem_cons_self ..)
  simp only [sg,cB,List.length_append];omega
theorem HS:∀ (n:Nat) (x:Item),RT n x→o7 x≤(cm x).length
 | n+1,x,h=>by
  rw [wq]
  cases hx:x.cD with
  | false=>rw [h.1 hx];exact Bc x
  | true=>
   rw [FM hx,List.length_append]
   have:=JH x.fL fun y hy=>HS n y (h.2.2 y hy)
   have:=PD true (cB x.fL).length;omega
theorem PE:∀ (n:Nat) (x:Item),RT n x→RT (cm x).length x
 | n+1,x,h=>by
  obtain ⟨j,hj⟩:∃ j,(cm x).length=j+1:=⟨(cm x).length-1,by have:=Bc x;omega⟩
  rw [hj]
  refine ⟨h.1,h.2.1,fun y hy=>?_⟩
  cases hx:x.cD with
  | false=>rw [h.1 hx] at hy;cases hy
  | true=>
   have:=Bd hx hy
   exact (PE n y (h.2.2 y hy)).mono (by omega)
theorem PF:∀ (n:Nat) (x:Item),RT n x→(cm x).length≤2 ^ 32→Wp n x
 | n+1,x,h,hl=>by
  cases hx:x.cD with
  | false=>
   have:=KH x hx
   refine ⟨by rw [h.1 hx];simp,by omega,fun y hy=>?_⟩
   rw [h.1 hx] at hy;cases hy
  | true=>
   have:=CF x.fL
   have e:=FM hx
   have:(cB x.fL).length≤(cm x).length:=by rw [e,List.length_append];omega
   refine ⟨by omega,by rw [h.2.1 hx];simp,fun y hy=>PF n y (h.2.2 y hy) (by have:=Bd hx hy;omega)⟩
theorem zk {n:Nat} {x:Item} (h:RT n x) (hn:n≤65) (hl:(cm x).length≤4096):lN x=some (cm x,0):=
 Wr x (PF n x h (by omega)) h hn (by omega) (by have:=HS n x h;omega)
theorem DA {n:Nat} {x:Item} (h:RT n x) (hn:n≤65) (hl:(cm x).length≤4096):ku (cm x)=some (x,0):=
 Q0 x h hn (by omega) (by have:=HS n x h;omega)
theorem TL (f:Item→Option (List UInt8)) (x:Item) (hf:∀ y∈x.fL,f y=some (cm y)) (hl:(cB x.fL).length≤2 ^ 32):∀ (k i:Nat) (acc:List UInt8),k+i=x.fL.length→acc++cB (x.fL.drop i)=cB x.fL→
  Comes (jf f x) (.L1 acc (i:Int)) (hd true (cB x.fL).length++cB x.fL):=by
 have PY:=CF x.fL
 intro k
 induction k with
 | zero=>
  intro i acc h1 h2
  have e:acc=cB x.fL:=by rw [← h2,List.drop_eq_nil_of_le (by omega)];simp [cB]
  subst e
  have:=CB true (k:=(cB x.fL).length) hl
  refine Comes.stop ?_
  simp only [jf]
  rw [decide_eq_false (by omega),cond_false,A8 _ true (by omega),Option.bind_some,af (by omega)]
 | succ k ih=>
  intro i acc h1 h2
  have hi:i<x.fL.length:=by omega
  rw [nr x.fL hi] at h2
  simp only [cB] at h2
  have hal:acc.length+(cm (idx x.fL (i:Int))).length≤2 ^ 32:=by
   have:=congrArg List.length h2
   simp only [List.length_append] at this
   omega
  refine Comes.next ?_ (ih (i+1) (acc++cm (idx x.fL (i:Int))) (by omega) (by rw [List.append_assoc];exact h2))
  simp only [jf]
  rw [decide_eq_true (by omega),cond_true,af (by omega),hf _ (fc x.fL hi),Option.bind_some,af (by omega),af (by unfold bA;omega)]
  rfl
theorem JI:∀ (n m:Nat) (x:Item),RT n x→n≤m→(cm x).length≤2 ^ 32→nj m x=some (cm x)
 | n+1,m+1,x,h,hm,hl=>by
  show xP (nj m) x=_
  refine cN ?_
  cases hx:x.cD with
  | true=>
   have e:=FM hx
   have h2:(cB x.fL).length≤2 ^ 32:=by rw [e,List.length_append] at hl;omega
   rw [e]
   refine Comes.next (c':= .L1 [] 0) ?_ (TL _ x (fun y hy=>JI n m y (h.2.2 y hy) (by omega) (by have:=Bd hx hy;omega)) h2 x.fL.length 0 [] (by omega) rfl)
   simp only [jf]
   rw [hx];rfl
  | false=>
   have hfl:=KH x hx
   refine Comes.stop ?_
   simp only [jf]
   rw [hx,Bool.not_false,cond_true,af (fun h=>by have:=of_decide_eq_true h;omega),o8,if_pos hx]
   by_cases h1:x.fS.length=1∧(x.fS.getD 0 0).toNat<128
   ·have CS:(idx x.fS (0:Int)).toNat<128:=h1.2
    rw [if_pos h1,decide_eq_true (by omega),decide_eq_true (by omega)]
    rfl
   ·rw [if_neg h1]
    have e:(decide ((x.fS.length:Int)=1)&&decide (((idx x.fS (0:Int)).toNat:Int)≤127))=false:=by
     rw [Bool.and_eq_false_iff,decide_eq_false_iff_not,decide_eq_false_iff_not]
     have hg:idx x.fS (0:Int)=x.fS.getD 0 0:=rfl
     rw [hg];omega
    have:=CB false (k:=x.fS.length) (by omega)
    rw [e,cond_false,A8 _ false (by omega),Option.bind_some,af (by omega)]
theorem TM {n:Nat} {x:Item} (h:RT n x) (hl:(cm x).length≤2 ^ 32):zd x=some (cm x):=m8 n fun m hm=>JI n m x h hm hl
end Go.Proofs.YtlfjfoknbjcncaaGreat.K
namespace Go.Proofs.YtlfjfoknbjcncaaGreat.K
open Go
set_option linter.unusedVariables false
set_option linter.unusedSimpArgs false
def wz (k:List UInt8):Bool:= !(k==[])
def yB (n:Node):Nat:=(n.aT.1.filter wz).length
theorem xp (n:Node):n.aT.1.length=16:=n.aT.2
theorem CH {α:Type} (p:α→Bool) (l:List α) (x:α):(l++[x]).filter p=l.filter p++(if p x=true then [x] else []):=by
 rw [List.filter_append,List.filter_cons,List.filter_nil]
theorem Wt (f:List UInt8→Option Bool) (v:List (List UInt8)) (hf:∀ y∈v,f y=some (!(wz y))) (hv:v.length≤1000000):∀ (k i j:Nat) (c:List (List UInt8)),k+j=v.length→c.length=v.length→c.drop j=v.drop j→c.take i=(v.take j).filter wz→i<j→
  i≤v.length→Comes (cj f v) (.L1 (i:Int) (j:Int) c) (v.filter wz):=by
 intro k
 induction k with
 | zero=>
  intro i j c h1 h2 h3 h4 h5 h6
  have e:c.take i=v.filter wz:=by rw [h4,List.take_of_length_le (by omega)]
  refine Comes.stop ?_
  simp only [cj]
  rw [decide_eq_false (by omega),cond_false,af (by omega),af h2.symm,af (by omega),af (by rw [List.length_take];omega),Int.toNat_natCast,e]
 | succ k ih=>
  intro i j c h1 h2 h3 h4 h5 h6
  have hj:j<v.length:=by omega
  have ZR:j<c.length:=by omega
  have hx:idx c (j:Int)=idx v (j:Int):=by
   have:=h3
   rw [nr c ZR,nr v hj] at this
   exact (List.cons.inj this).1
  have hd:c.drop (j+1)=v.drop (j+1):=by
   have:=h3
   rw [nr c ZR,nr v hj] at this
   exact (List.cons.inj this).2
  have ZS:=hf _ (fc v hj)
  cases hk:wz (idx v (j:Int)) with
  | true=>
   have hi:i<c.length:=by omega
   refine Comes.next (c':= .L1 ((i+1:Nat):Int) ((j+1:Nat):Int) (c.set i (idx v (j:Int)))) ?_ (ih (i+1) (j+1) _ (by omega) (by simp [h2]) ?_ ?_ (by omega) (by omega))
   ·simp only [cj]
    rw [decide_eq_true (by omega),cond_true,af (by omega),af (by omega),hx,ZS,Option.bind_some,hk,Bool.not_true,Bool.not_false,cond_true,af (by omega),af (by omega),af (by unfold bA;omega),Option.bind_some]
    simp only
    rw [af (by unfold bA;omega),Int.toNat_natCast]
    rfl
   ·rw [List.drop_set_of_lt (by omega),hd]
   ·have e1:(c.set i (idx v (j:Int))).take (i+1)=c.take i++[idx v (j:Int)]:=by
     rw [List.take_add_one,List.getElem?_set_self hi,List.take_set_of_le (Nat.le_refl _)];rfl
    rw [e1,h4,nq v hj,CH,if_pos hk]
  | false=>
   refine Comes.next (c':= .L1 (i:Int) ((j+1:Nat):Int) c) ?_ (ih i (j+1) _ (by omega) h2 hd ?_ (by omega) h6)
   ·simp only [cj]
    rw [decide_eq_true (by omega),cond_true,af (by omega),af (by omega),hx,ZS,Option.bind_some,hk,Bool.not_false,Bool.not_true,cond_false,Option.bind_some]
    simp only
    rw [af (by unfold bA;omega)]
    rfl
   ·rw [h4,nq v hj,CH,if_neg (by rw [hk];simp),List.append_nil]
theorem Wu (f:List UInt8→Option Bool) (v:List (List UInt8)) (hf:∀ y∈v,f y=some (!(wz y))) (hv:v.length≤1000000):ji f v=some (v.filter wz):=by
 obtain ⟨r,hr,h⟩:=HN v f (fun y=> !(wz y)) hf (by omega)
 refine cN ?_
 rcases h with ⟨i,rfl,hi,h1,h2⟩ | ⟨rfl,h1⟩
 ·have hall:(v.take i).filter wz=v.take i:=by
   rw [List.filter_eq_self]
   intro x hx
   obtain ⟨j,hj,rfl⟩:=List.mem_iff_getElem.1 hx
   have hj':j<i:=by rw [List.length_take] at hj;omega
   have:=h2 j hj'
   rw [lT v (by omega)] at this
   rw [List.getElem_take];simpa using this
  refine Comes.next (c':= .L1 (i:Int) ((i+1:Nat):Int) v) ?_ (Wt f v hf hv (v.length-(i+1)) i (i+1) v (by omega) rfl rfl ?_ (by omega) (by omega))
  ·simp only [cj]
   rw [hr,Option.bind_some,decide_eq_false (by omega),cond_false,af (by unfold bA;omega)]
   rfl
  ·have:wz (idx v (i:Int))=false:=by simpa using h1
   rw [nq v hi,CH,hall,if_neg (by rw [this];simp),List.append_nil]
 ·have hall:v.filter wz=v:=by
   rw [List.filter_eq_self]
   intro x hx
   obtain ⟨j,hj,rfl⟩:=List.mem_iff_getElem.1 hx
   have:=h1 j hj
   rw [lT v hj] at this
   simpa using this
  rw [hall]
  refine Comes.stop ?_
  simp only [cj]
  rw [hr,Option.bind_some]
  rfl
theorem TO (n:Node):rR n=some (n.aT.1.filter wz):=by
 have AF:=xp n
 unfold rR iU
 rw [af (by omega),Option.bind_some,Wu _ _ (fun y _=>by simp [oQ,wz]) (by omega)]
 rfl
def ox (n:Node):Bool:=
 bif decide (n.aW=1) then ((!(n.ay==[]))&&decide ((n.ay.length:Int)≤65552))&&decide ((yB n:Int)=0)
 else bif decide (n.aW=2) then (((n.ay==[])&&decide ((0:Int)<(n.az.length:Int)))&&decide ((yB n:Int)=1))&&(!(idx n.aT.1 (0:Int)==[]))
 else bif decide (n.aW=3) then ((n.ay==[])&&decide ((n.az.length:Int)=0))&&decide ((1:Int)<(yB n:Int))
 else false
theorem Q4 (n:Node):p7 n=some (ox n):=by
 unfold p7 ox
 rw [TO,Option.bind_some]
 show _=_
 cases decide (n.aW=1)<;>cases decide (n.aW=2)<;>cases decide (n.aW=3)<;>rfl
def xq (R:List UInt8→Bool) (n:Node):Bool:=(CE n.az&&n.aT.1.all R)&&ox n
theorem MA {α:Type} (p:α→Bool):∀ l:List α,(l.any fun x=> !(p x))= !(l.all p)
 | []=>rfl
 | x::r=>by simp [MA p r]
theorem Be (self:List UInt8→Option Bool) (R:List UInt8→Bool) (n:Node) (hk:∀ k∈n.aT.1,self k=some (R k)) (hp:n.az.length≤1000000):oS self n=some (if xq R n=true then 0 else 2):=by
 have AF:=xp n
 have hR:=JF n.az (by omega)
 obtain ⟨r,hr,h⟩:=HN n.aT.1 (fun y0=>ke self y0) (fun k=> !(R k)) (fun y hy=>by unfold ke;rw [hk y hy];rfl) (by omega)
 have hC:eT n.aT.1 (fun y0=>ke self y0)=some (!(n.aT.1.all R)):=by
  unfold eT
  rw [hr,Option.bind_some, ← MA]
  congr 1
  rcases h with ⟨i,rfl,hi,h1,_⟩ | ⟨rfl,h1⟩
  ·rw [decide_eq_true (by omega)];exact (List.any_eq_true.2 ⟨_,fc _ hi,h1⟩).symm
  ·rw [decide_eq_false (by omega)];symm;rw [List.any_eq_false];intro x hx
   obtain ⟨i,hi,rfl⟩:=List.mem_iff_getElem.1 hx
   have:=h1 i hi
   rw [lT _ hi] at this;simpa using this
 unfold oS xq CE
 rw [Q4,Option.bind_some,hR,hC]
 have hd:decide ((64:Int)<(n.az.length:Int))= !(decide (n.az.length≤64)):=by
  rw [Bool.eq_iff_iff];simp;omega
 rw [hd]
 cases ox n<;>cases right n.az<;>cases decide (n.az.length≤64)<;>cases n.aT.1.all R<;>rfl
end Go.Proofs.YtlfjfoknbjcncaaGreat.K
namespace Go.Proofs.YtlfjfoknbjcncaaGreat.K
open Go
set_option linter.unusedVariables false
set_option linter.unusedSimpArgs false
def iO (s:List UInt8):Item:=⟨false,s,[]⟩
theorem DB (s:List UInt8) (n:Nat):RT (n+1) (iO s):=by
 refine ⟨fun _=>rfl,fun h=>?_,fun y hy=>?_⟩
 ·exact absurd h (by simp [iO])
 ·exact absurd hy (by simp [iO])
theorem AG (s:List UInt8):cm (iO s)=if s.length=1∧(s.getD 0 0).toNat<128 then s else hd false s.length++s:=by
 rw [o8,if_pos (show (iO s).cD=false from rfl)];rfl
theorem yC {s:List UInt8} (h:s.length≤100000):(cm (iO s)).length≤s.length+6:=by
 have:=CB false (k:=s.length) (by omega)
 rw [AG]
 split
 ·omega
 ·rw [List.length_append];omega
theorem HT:cm (iO [])=[128]:=by rw [AG];rfl
theorem sj {s:List UInt8} (h:s.length≤100000):lD s=some (cm (iO s)):=by
 unfold lD
 have:=TM (DB s 0) (by have:=yC h;omega)
 rw [show (⟨false,s,[]⟩:Item)=iO s from rfl,this];rfl
noncomputable def ZT (k:List UInt8):Item:=((ku k).getD (noI,1)).1
noncomputable def eP (k:List UInt8):Item:=if k=[]∨k.length=32 then iO k else ZT k
def good (k:List UInt8):Prop:=k=[]∨k.length=32∨(k.length<32∧∃ x,RT 65 x∧cm x=k∧x.cD=true)
def qO (x:Item):List UInt8:=if x.cD=true then cm x else x.fS
theorem nP {k:List UInt8} (h:good k):RT 64 (eP k)∧(cm (eP k)).length≤33∧mF k=some (eP k)∧qO (eP k)=k∧kB k=some (cm (eP k)):=by
 by_cases h0:k=[]∨k.length=32
 ·have e:eP k=iO k:=if_pos h0
  have hc:((k==[])||decide ((k.length:Int)=32))=true:=by
   rcases h0 with rfl | h0
   ·rfl
   ·rw [decide_eq_true (by omega),Bool.or_true]
  have hl:k.length≤32:=by
   rcases h0 with rfl | h0
   ·simp
   ·omega
  rw [e]
  refine ⟨DB k 63,?_,?_,rfl,?_⟩
  ·rcases h0 with rfl | h0
   ·rw [HT];simp
   ·rw [AG,if_neg (by omega),List.length_append,A9,if_pos (by omega)];omega
  ·unfold mF;rw [hc,cond_true];rfl
  ·unfold kB;rw [hc,cond_true,sj (by omega)];rfl
 ·obtain ⟨Yd,x,h1,h2,h3⟩:=(h.resolve_left fun e=>h0 (.inl e)).resolve_left fun e=>h0 (.inr e)
  have hw:ku k=some (x,0):=by rw [← h2];exact DA h1 (by omega) (by rw [h2];omega)
  have e:eP k=x:=by
   unfold eP ZT
   rw [if_neg h0,hw];rfl
  have hc:((k==[])||decide ((k.length:Int)=32))=false:=by
   rw [Bool.or_eq_false_iff]
   exact ⟨by rw [beq_eq_false_iff_ne];exact fun e=>h0 (.inl e),decide_eq_false (by omega)⟩
  rw [e]
  refine ⟨(PE _ _ h1).mono (by rw [h2];omega),by rw [h2];omega,?_,by unfold qO;rw [if_pos h3,h2],?_⟩
  ·unfold mF;rw [hc,cond_false,hw];rfl
  ·unfold kB;rw [hc,cond_false,h2]
noncomputable def iP (n:Node):Item:=
 if n.aW=1 then ⟨true,[],[iO (eu n.az true),iO n.ay]⟩
 else if n.aW=2 then ⟨true,[],[iO (eu n.az false),eP (idx n.aT.1 (0:Int))]⟩
 else ⟨true,[],n.aT.1.map eP++[iO []]⟩
theorem Eu {b:Nat}:∀ l:List Item,(∀ y∈l,(cm y).length≤b)→(cB l).length≤l.length*b
 | [],_=>by simp [cB]
 | x::r,h=>by
  have:=Eu r fun y hy=>h y (List.mem_cons_of_mem _ hy)
  have:=h x (List.mem_cons_self ..)
  simp only [cB,List.length_append,List.length_cons,Nat.succ_mul];omega
theorem Ev (n:Node) (hg:∀ k∈n.aT.1,good k) (hp:n.az.length≤64) (hv:n.ay.length≤3000):RT 65 (iP n)∧(cm (iP n)).length≤700+n.ay.length∧(iP n).cD=true:=by
 have AF:=xp n
 have hP:∀ b,(cm (iO (eu n.az b))).length≤39:=by
  intro b
  have:=yC (s:=eu n.az b) (by rw [zi];omega)
  rw [zi] at this;omega
 have hV:=yC (s:=n.ay) (by omega)
 have Ye:∀ k,k≤2 ^ 32→(hd true k).length≤6:=fun k h=>CB true h
 unfold iP
 split
 ·refine ⟨⟨fun h=>(by cases h),fun _=>rfl,fun y hy=>?_⟩,?_,rfl⟩
  ·simp only [List.mem_cons,List.not_mem_nil,or_false] at hy
   rcases hy with rfl | rfl<;>exact DB _ 63
  ·have e:(cB [iO (eu n.az true),iO n.ay]).length=(cm (iO (eu n.az true))).length+(cm (iO n.ay)).length:=by simp [cB]
   have:=hP true
   have:=Ye (cB [iO (eu n.az true),iO n.ay]).length (by omega)
   rw [wv,List.length_append];omega
 ·split
  ·have TP:=nP (hg _ (fc n.aT.1 (i:=0) (by omega)))
   have TP:RT 64 (eP (idx n.aT.1 (0:Int)))∧(cm (eP (idx n.aT.1 (0:Int)))).length≤33:=⟨TP.1,TP.2.1⟩
   refine ⟨⟨fun h=>(by cases h),fun _=>rfl,fun y hy=>?_⟩,?_,rfl⟩
   ·simp only [List.mem_cons,List.not_mem_nil,or_false] at hy
    rcases hy with rfl | rfl
    ·exact DB _ 63
    ·exact TP.1
   ·have e:(cB [iO (eu n.az false),eP (idx n.aT.1 (0:Int))]).length=(cm (iO (eu n.az false))).length+(cm (eP (idx n.aT.1 (0:Int)))).length:=by simp [cB]
    have:=hP false
    have:=TP.2
    have:=Ye (cB [iO (eu n.az false),eP (idx n.aT.1 (0:Int))]).length (by omega)
    rw [wv,List.length_append];omega
  ·have hall:∀ y∈n.aT.1.map eP++[iO []],RT 64 y∧(cm y).length≤33:=by
    intro y hy
    rcases List.mem_append.1 hy with hy | hy
    ·obtain ⟨k,hk,rfl⟩:=List.mem_map.1 hy
     have:=nP (hg k hk)
     exact ⟨this.1,this.2.1⟩
    ·rw [List.mem_singleton] at hy;subst hy
     exact ⟨DB _ 63,by rw [HT];simp⟩
   refine ⟨⟨fun h=>(by cases h),fun _=>rfl,fun y hy=>(hall y hy).1⟩,?_,rfl⟩
   have:=Eu _ fun y hy=>(hall y hy).2
   have hlen:(n.aT.1.map eP++[iO []]).length=17:=by simp [AF]
   rw [hlen] at this
   have:=Ye (cB (n.aT.1.map eP++[iO []])).length (by omega)
   rw [wv,List.length_append];omega
theorem HU (l:List Item) (h:l.length≤1000000):oM l=some ⟨true,[],l⟩:=by
 unfold oM
 rw [af (by simp only [List.length_nil];omega)];rfl
theorem CI {R:List UInt8→Bool} {n:Node} (h:xq R n=true):CE n.az=true∧(∀ k∈n.aT.1,R k=true)∧ox n=true:=by
 unfold xq at h
 rw [Bool.and_eq_true,Bool.and_eq_true] at h
 exact ⟨h.1.1,fun k hk=>List.all_eq_true.1 h.1.2 k hk,h.2⟩
theorem Fb {n:Node} (h:ox n=true):n.aW=1∨n.aW=2∨n.aW=3:=by
 unfold ox at h
 by_cases h1:n.aW=1
 ·exact .inl h1
 ·by_cases h2:n.aW=2
  ·exact .inr (.inl h2)
  ·by_cases h3:n.aW=3
   ·exact .inr (.inr h3)
   ·rw [decide_eq_false h1,decide_eq_false h2,decide_eq_false h3] at h;cases h
theorem Wv (self:List UInt8→Option Bool) (n:Node) (hg:∀ k∈n.aT.1,good k) (hN:RT 65 (⟨true,[],n.aT.1.map eP++[iO []]⟩:Item)) (hl:(cm (⟨true,[],n.aT.1.map eP++[iO []]⟩:Item)).length≤4096):
  Comes (gE self n) (.L1 [] 0) (cm (⟨true,[],n.aT.1.map eP++[iO []]⟩:Item),0):=by
 have AF:=xp n
 refine Comes.upto (step:=gE self n) (fun i=> .L1 ((n.aT.1.map eP).take i) (i:Int)) 16 ?_ ?_
 ·intro i hi
  have hi':i<n.aT.1.length:=by omega
  have TQ:i<(n.aT.1.map eP).length:=by rw [List.length_map];omega
  have e:idx (n.aT.1.map eP) (i:Int)=eP (idx n.aT.1 (i:Int)):=by rw [lT _ TQ,lT _ hi',List.getElem_map]
  simp only [gE]
  rw [decide_eq_true (by omega),cond_true,af (by omega),(nP (hg _ (fc _ hi'))).2.2.1,Option.bind_some,af (by rw [List.length_take];simp only [List.length_singleton];omega),af (by unfold bA;omega),nq _ TQ,e]
  rfl
 ·refine Comes.stop ?_
  simp only [gE]
  rw [decide_eq_false (by omega),cond_false,List.take_of_length_le (by rw [List.length_map];omega)]
  simp only [iT,Option.bind_some]
  rw [af (by rw [List.length_map];simp only [List.length_singleton];omega),HU _ (by simp;omega),Option.bind_some,show (⟨false,[],[]⟩:Item)=iO [] from rfl,zk hN (by omega) hl]
  rfl
theorem MB (self:List UInt8→Option Bool) (R:List UInt8→Bool) (n:Node) (hk:∀ k∈n.aT.1,self k=some (R k)) (hg:∀ k∈n.aT.1,R k=true→good k) (hp:n.az.length≤1000000) (hv:n.ay.length≤3000):
  uU self n=some (if xq R n=true then (cm (iP n),0) else ([],2)):=by
 have AF:=xp n
 refine cN ?_
 by_cases hc:xq R n=true
 ·obtain ⟨c1,c2,c3⟩:=CI hc
  have Yf:∀ k∈n.aT.1,good k:=fun k h=>hg k h (c2 k h)
  obtain ⟨r1,r2,r3⟩:=Ev n Yf (uZ c1).2 hv
  rw [if_pos hc]
  by_cases h1:n.aW=1
  ·have e:iP n=⟨true,[],[iO (eu n.az true),iO n.ay]⟩:=if_pos h1
   refine Comes.stop ?_
   simp only [gE]
   rw [Be self R n hk hp,if_pos hc,Option.bind_some,show (!decide ((0:Int)=0))=false from rfl,cond_false,decide_eq_true h1,HQ c1,Option.bind_some,cond_true]
   simp only [iT,Option.bind_some]
   rw [HU _ (by simp),Option.bind_some]
   show (lN ⟨true,[],[iO (eu n.az true),iO n.ay]⟩).bind _=_
   rw [← e,zk r1 (by omega) (by omega)]
   rfl
  ·by_cases h2:n.aW=2
   ·have e:iP n=⟨true,[],[iO (eu n.az false),eP (idx n.aT.1 (0:Int))]⟩:=by unfold iP;rw [if_neg h1,if_pos h2]
    have hi:=nP (Yf _ (fc n.aT.1 (i:=0) (by omega)))
    refine Comes.stop ?_
    simp only [gE]
    rw [Be self R n hk hp,if_pos hc,Option.bind_some,show (!decide ((0:Int)=0))=false from rfl,cond_false,decide_eq_false h1,HQ c1,Option.bind_some,cond_false,decide_eq_true h2,cond_true]
    simp only [iT,Option.bind_some]
    rw [show mF (idx n.aT.1 (0:Int))=some (eP (idx n.aT.1 (0:Int))) from hi.2.2.1,Option.bind_some,HU _ (by simp),Option.bind_some]
    show (lN ⟨true,[],[iO (eu n.az false),eP (idx n.aT.1 (0:Int))]⟩).bind _=_
    rw [← e,zk r1 (by omega) (by omega)]
    rfl
   ·have e:iP n=⟨true,[],n.aT.1.map eP++[iO []]⟩:=by unfold iP;rw [if_neg h1,if_neg h2]
    rw [e] at r1 r2 ⊢
    refine Comes.next (c':= .L1 [] 0) ?_ (Wv self n Yf r1 (by omega))
    simp only [gE]
    rw [Be self R n hk hp,if_pos hc,Option.bind_some,show (!decide ((0:Int)=0))=false from rfl,cond_false,decide_eq_false h1,HQ c1,Option.bind_some,cond_false,decide_eq_false h2,cond_false]
 ·rw [if_neg hc]
  refine Comes.stop ?_
  simp only [gE]
  rw [Be self R n hk hp,if_neg hc,Option.bind_some]
  rfl
theorem Q5 (R:List UInt8→Bool) (n:Node) (hc:xq R n=true) (hg:∀ k∈n.aT.1,good k) (hv:n.ay.length≤3000):pG n=some (cm (iP n)):=by
 have AF:=xp n
 obtain ⟨c1,c2,c3⟩:=CI hc
 obtain ⟨r1,r2,r3⟩:=Ev n hg (uZ c1).2 hv
 have KI:∀ b,(eu n.az b).length≤33:=by intro b;rw [zi];have:=(uZ c1).2;omega
 have hJ:∀ l:List Item,iP n=⟨true,[],l⟩→Comes (cL n) (.J3 (cB l)) (cm (iP n)):=by
  intro l e
  rw [e,wv,List.length_append] at r2
  refine Comes.stop ?_
  simp only [cL]
  rw [A8 _ true (by omega),Option.bind_some,af (by omega),e,wv]
 refine cN ?_
 by_cases h1:n.aW=1
 ·have e:iP n=⟨true,[],[iO (eu n.az true),iO n.ay]⟩:=if_pos h1
  have:=yC (s:=eu n.az true) (by have:=KI true;omega)
  have:=yC (s:=n.ay) (by omega)
  have:=KI true
  have ei:cB [iO (eu n.az true),iO n.ay]=cm (iO (eu n.az true))++cm (iO n.ay):=by simp [cB]
  refine Comes.next ?_ (hJ _ e)
  simp only [cL]
  rw [decide_eq_true h1,cond_true,Bb c1,Option.bind_some,sj (by omega),Option.bind_some,sj (by omega),Option.bind_some,af (by omega),Option.bind_some,decide_eq_false (by omega),cond_false,Option.bind_some,decide_eq_false (by omega),cond_false,ei]
 ·by_cases h2:n.aW=2
  ·have e:iP n=⟨true,[],[iO (eu n.az false),eP (idx n.aT.1 (0:Int))]⟩:=by unfold iP;rw [if_neg h1,if_pos h2]
   have hi:=nP (hg _ (fc n.aT.1 (i:=0) (by omega)))
   have hi2:(cm (eP (idx n.aT.1 (0:Int)))).length≤33:=hi.2.1
   have:=yC (s:=eu n.az false) (by have:=KI false;omega)
   have:=KI false
   have ei:cB [iO (eu n.az false),eP (idx n.aT.1 (0:Int))]=cm (iO (eu n.az false))++cm (eP (idx n.aT.1 (0:Int))):=by simp [cB]
   refine Comes.next ?_ (hJ _ e)
   simp only [cL]
   rw [decide_eq_false h1,cond_false,Option.bind_some,decide_eq_true h2,cond_true,Bb c1,Option.bind_some,sj (by omega),Option.bind_some,show kB (idx n.aT.1 (0:Int))=some (cm (eP (idx n.aT.1 (0:Int)))) from hi.2.2.2.2,Option.bind_some,af (by omega),Option.bind_some,decide_eq_false (by omega),cond_false,ei]
  ·have h3:n.aW=3:=((Fb c3).resolve_left h1).resolve_left h2
   have e:iP n=⟨true,[],n.aT.1.map eP++[iO []]⟩:=by unfold iP;rw [if_neg h1,if_neg h2]
   have ei:cB (n.aT.1.map eP++[iO []])=cB (n.aT.1.map eP)++[128]:=by
    rw [CG];simp only [cB,HT,List.append_nil]
   have hlen:∀ i,(cB ((n.aT.1.map eP).take i)).length≤16*33:=by
    intro i
    have:=Eu (b:=33) ((n.aT.1.map eP).take i) (fun y hy=>by
     obtain ⟨k,hk,rfl⟩:=List.mem_map.1 (List.mem_of_mem_take hy)
     exact (nP (hg k hk)).2.1)
    have h2:((n.aT.1.map eP).take i).length≤16:=by rw [List.length_take,List.length_map];omega
    exact Nat.le_trans this (Nat.mul_le_mul_right 33 h2)
   refine Comes.next (c':= .L4 [] 0) ?_ ?_
   ·simp only [cL]
    rw [decide_eq_false h1,cond_false,Option.bind_some,decide_eq_false h2,cond_false,Option.bind_some,decide_eq_true h3,cond_true]
   ·refine Comes.upto (step:=cL n) (fun i=> .L4 (cB ((n.aT.1.map eP).take i)) (i:Int)) 16 ?_ ?_
    ·intro i hi
     have hi':i<n.aT.1.length:=by omega
     have TQ:i<(n.aT.1.map eP).length:=by rw [List.length_map];omega
     have ex:idx (n.aT.1.map eP) (i:Int)=eP (idx n.aT.1 (i:Int)):=by rw [lT _ TQ,lT _ hi',List.getElem_map]
     have hi:=nP (hg _ (fc _ hi'))
     have:=hlen i
     have:=hi.2.1
     simp only [cL]
     rw [decide_eq_true (by omega),cond_true,af (by omega),hi.2.2.2.2,Option.bind_some,af (by omega),af (by unfold bA;omega),nq _ TQ,ex,CG]
     simp only [cB,List.append_nil]
     rfl
    ·have:=hlen 16
     refine Comes.next ?_ (hJ _ e)
     simp only [cL]
     rw [decide_eq_false (by omega),cond_false,af (by simp only [List.length_singleton];omega),List.take_of_length_le (by rw [List.length_map];omega),ei]
end Go.Proofs.YtlfjfoknbjcncaaGreat.K
namespace Go.Proofs.YtlfjfoknbjcncaaGreat.K
open Go
set_option linter.unusedVariables false
set_option linter.unusedSimpArgs false
set_option linter.unusedSectionVars false
def KJ:Node:=⟨0,[],[],aE.rep 16 []⟩
def K1 (k:List UInt8):aE 16 (List UInt8):=(aE.rep 16 []).put 0 k
def zl (a b:Item):Node:=if BQ a.fS=true then ⟨1,wu a.fS,b.fS,aE.rep 16 []⟩ else ⟨2,wu a.fS,[],K1 (qO b)⟩
def yD (l:List Item):Nat→aE 16 (List UInt8)
 | 0=>aE.rep 16 []
 | i+1=>(yD l i).put (i:Int) (qO (idx l (i:Int)))
theorem HV (l:List Item):∀ i,i≤16→i≤l.length→(yD l i).1.take i=(l.take i).map qO
 | 0,_,_=>by simp
 | i+1,h,h2=>by
  have hi:i<(yD l i).1.length:=by rw [(yD l i).2];omega
  show ((yD l i).1.set (i:Int).toNat (qO (idx l (i:Int)))).take (i+1)=_
  rw [Int.toNat_natCast,List.take_add_one,List.getElem?_set_self hi,List.take_set_of_le (Nat.le_refl _),HV l i (by omega) (by omega),nq l (by omega),List.map_append]
  rfl
theorem JJ (l:List Item) (h:16≤l.length):(yD l 16).1=(l.take 16).map qO:=by
 have:=HV l 16 (Nat.le_refl _) h
 rwa [List.take_of_length_le (by rw [(yD l 16).2];exact Nat.le_refl _)] at this
def fW (x:Item):Node:=
 if x.fL.length=2 then zl (idx x.fL (0:Int)) (idx x.fL (1:Int))
 else if x.fL.length=17 then ⟨3,[],[],yD x.fL 16⟩
 else KJ
theorem TR (p v:List UInt8) (h:p.length≤1000000):rP p v=some ⟨1,p,v,aE.rep 16 []⟩:=by
 unfold rP cV
 rw [af (by simp only [List.length_nil];omega),Option.bind_some];rfl
theorem Ww (p k:List UInt8) (h:p.length≤1000000):tW p k=some ⟨2,p,[],K1 k⟩:=by
 unfold tW cV
 rw [af (by simp only [List.length_nil];omega),Option.bind_some];rfl
theorem BS {n:Nat} {y:Item} (h:RT n y) (hn:n≤65) (hl:(cm y).length≤4096):kS y=some (qO y):=by
 unfold kS qO
 cases hy:y.cD with
 | false=>rfl
 | true=>
  rw [Bool.not_true,cond_false,zk h hn hl];rfl
theorem JK (s:List UInt8):(wu s).length≤2*s.length:=by
 cases s with
 | nil=>simp [wu]
 | cons c r=>
  simp only [wu]
  split
  ·simp
  ·rw [List.length_drop,qL];omega
theorem TS {n:Nat} (a:Item) {b:Item} (ha:a.fS.length≤100000) (h:RT n b) (hn:n≤65) (hl:(cm b).length≤4096):rQ a b=some (zl a b):=by
 have:=JK a.fS
 unfold rQ zl
 rw [OZ _ (by omega),Option.bind_some]
 cases hu:BQ a.fS with
 | true=>
  simp only [cond_true,if_true]
  rw [TR _ _ (by omega)];rfl
 | false=>
  simp only [cond_false,Bool.false_eq_true,if_false]
  rw [BS h hn hl,Option.bind_some,Ww _ _ (by omega)];rfl
section
variable {x:Item} {s:List UInt8} (hx:RT 65 x) (he:cm x=s)
include hx he
theorem TU (h:x.fL≠[]):x.cD=true:=by
 cases hh:x.cD with
 | true=>rfl
 | false=>exact absurd (hx.1 hh) h
theorem Bf {y:Item} (hy:y∈x.fL):RT 64 y∧(cm y).length<s.length∧(qO y).length<s.length∧y.fS.length<s.length:=by
 have hL:=TU hx he (by intro e;rw [e] at hy;cases hy)
 have h1:=Bd hL hy
 rw [he] at h1
 have hR:RT 64 y:=hx.2.2 y hy
 have h2:y.fS.length≤(cm y).length:=by
  cases hh:y.cD with
  | false=>exact KH y hh
  | true=>rw [hR.2.1 hh];simp
 refine ⟨hR,h1,?_,by omega⟩
 unfold qO
 split<;>omega
theorem MC:(∀ k∈(fW x).aT.1,k.length<s.length)∧(fW x).az.length≤2*s.length∧(fW x).ay.length≤s.length:=by
 have hs:0<s.length:=by rw [← he];exact Bc x
 have rep:∀ k∈(aE.rep 16 ([]:List UInt8)).1,k.length<s.length:=by
  intro k hk
  have:k=[]:=List.eq_of_mem_replicate hk
  subst this;exact hs
 unfold fW
 split
 ·rename_i h
  have ha:=Bf hx he (fc x.fL (i:=0) (by omega))
  have hb:=Bf hx he (fc x.fL (i:=1) (by omega))
  have hp:=JK (idx x.fL (0:Int)).fS
  have ha3:(idx x.fL (0:Int)).fS.length<s.length:=ha.2.2.2
  have hb3:(idx x.fL (1:Int)).fS.length<s.length:=hb.2.2.2
  have R6:(qO (idx x.fL (1:Int))).length<s.length:=hb.2.2.1
  unfold zl
  split
  ·exact ⟨rep,by show (wu (idx x.fL (0:Int)).fS).length≤_;omega,Nat.le_of_lt hb3⟩
  ·refine ⟨fun k hk=>?_,by show (wu (idx x.fL (0:Int)).fS).length≤_;omega,Nat.zero_le _⟩
   rcases List.mem_or_eq_of_mem_set hk with hk | rfl
   ·exact rep k hk
   ·exact R6
 ·split
  ·rename_i h
   refine ⟨fun k hk=>?_,Nat.zero_le _,Nat.zero_le _⟩
   have hk:k∈(yD x.fL 16).1:=hk
   rw [JJ _ (by omega)] at hk
   obtain ⟨y,hy,rfl⟩:=List.mem_map.1 hk
   exact (Bf hx he (List.mem_of_mem_take hy)).2.2.1
  ·exact ⟨rep,Nat.zero_le _,Nat.zero_le _⟩
end
open Classical in
noncomputable def TV (R:List UInt8→Bool) (s:List UInt8) (x:Item):Bool:=decide (xq R (fW x)=true∧cm (iP (fW x))=s)
theorem HW {R:List UInt8→Bool} {s:List UInt8} {x:Item}:TV R s x=true↔(xq R (fW x)=true∧cm (iP (fW x))=s):=by unfold TV;exact decide_eq_true_iff
theorem PG {R:List UInt8→Bool} {s:List UInt8} {x:Item} (h:¬ (xq R (fW x)=true∧cm (iP (fW x))=s)):TV R s x=false:=by
 rw [Bool.eq_false_iff,ne_eq,HW];exact h
section
variable {x:Item} {s:List UInt8} (hx:RT 65 x) (he:cm x=s) (hl:s.length≤1500) {self:List UInt8→Option Bool} {R:List UInt8→Bool}
 (fP:∀ k∈(fW x).aT.1,self k=some (R k)) (mM:∀ k∈(fW x).aT.1,R k=true→good k)
include hx he hl fP mM
theorem TX:Comes (fM self s) (.J1 (fW x).aW (fW x).az (fW x).ay (fW x).aT) (if TV R s x=true then (fW x,0) else (KJ,6)):=by
 obtain ⟨k1,k2,k3⟩:=MC hx he
 have hP:=MB self R (fW x) fP mM (by omega) (by omega)
 refine Comes.stop ?_
 simp only [fM]
 rw [show (⟨(fW x).aW,(fW x).az,(fW x).ay,(fW x).aT⟩:Node)=fW x from rfl,hP,Option.bind_some]
 by_cases hc:xq R (fW x)=true
 ·rw [if_pos hc]
  by_cases hb:cm (iP (fW x))=s
  ·rw [if_pos (HW.2 ⟨hc,hb⟩)]
   simp only [hb,beq_self_eq_true,Bool.not_true,decide_true,Bool.or_self,cond_false]
  ·rw [if_neg (by rw [PG (fun h=>hb h.2)];simp)]
   have:(cm (iP (fW x))==s)=false:=by rw [beq_eq_false_iff_ne];exact hb
   simp only [this,Bool.not_false,Bool.or_true,cond_true]
   rfl
 ·rw [if_neg hc,if_neg (by rw [PG (fun h=>hc h.1)];simp)]
  rfl
theorem TY (hw:ku s=some (x,0)):rU self s=some (if TV R s x=true then (fW x,0) else (KJ,6)):=by
 have hJ:=TX hx he hl fP mM
 refine cN ?_
 by_cases h2:x.fL.length=2
 ·have ha:RT 64 (idx x.fL (0:Int))∧(cm (idx x.fL (0:Int))).length<s.length∧(qO (idx x.fL (0:Int))).length<s.length∧(idx x.fL (0:Int)).fS.length<s.length:=Bf hx he (fc x.fL (i:=0) (by omega))
  have hb:RT 64 (idx x.fL (1:Int))∧(cm (idx x.fL (1:Int))).length<s.length∧(qO (idx x.fL (1:Int))).length<s.length∧(idx x.fL (1:Int)).fS.length<s.length:=Bf hx he (fc x.fL (i:=1) (by omega))
  have e:fW x=zl (idx x.fL (0:Int)) (idx x.fL (1:Int)):=if_pos h2
  refine Comes.next ?_ hJ
  simp only [fM,hw,Option.bind_some,decide_true,Bool.not_true,cond_false]
  rw [decide_eq_true (by omega),cond_true,af (by omega),af (by omega)]
  have:=TS (n:=64) (idx x.fL (0:Int)) (b:=idx x.fL (1:Int)) (by have:=ha.2.2.2;omega) hb.1 (by omega) (by have:=hb.2.1;omega)
  rw [this,Option.bind_some,e]
 ·by_cases ZV:x.fL.length=17
  ·have e:fW x=⟨3,[],[],yD x.fL 16⟩:=by unfold fW;rw [if_neg h2,if_pos ZV]
   rw [e] at hJ
   refine Comes.next (c':= .L2 0 x.cD x.fS x.fL (aE.rep 16 [])) ?_ ?_
   ·simp only [fM,hw,Option.bind_some,decide_true,Bool.not_true,cond_false]
    rw [decide_eq_false (by omega),cond_false,decide_eq_true (by omega),cond_true]
   ·rw [e]
    refine Comes.upto (step:=fM self s) (fun i=> .L2 (i:Int) x.cD x.fS x.fL (yD x.fL i)) 16 ?_ ?_
    ·intro i hi
     have hk:=Bf hx he (fc x.fL (i:=i) (by omega))
     simp only [fM]
     rw [decide_eq_true (by omega),cond_true,af (by omega),BS hk.1 (by omega) (by have:=hk.2.1;omega),Option.bind_some,af (by omega),af (by unfold bA;omega)]
     rfl
    ·refine Comes.next ?_ hJ
     simp only [fM]
     rw [decide_eq_false (by omega),cond_false]
     rfl
  ·have e:fW x=KJ:=by unfold fW;rw [if_neg h2,if_neg ZV]
   rw [e] at hJ
   rw [e]
   refine Comes.next ?_ hJ
   simp only [fM,hw,Option.bind_some,decide_true,Bool.not_true,cond_false]
   rw [decide_eq_false (by omega),cond_false,decide_eq_false (by omega),cond_false]
   rfl
end
theorem TZ {s:List UInt8} (h0:¬ (s=[]∨s.length=32)):((s==[])||decide ((s.length:Int)=32))=false:=by
 rw [Bool.or_eq_false_iff]
 exact ⟨by rw [beq_eq_false_iff_ne];exact fun e=>h0 (.inl e),decide_eq_false (by omega)⟩
theorem KK {s:List UInt8} (h0:s=[]∨s.length=32):((s==[])||decide ((s.length:Int)=32))=true:=by
 rcases h0 with rfl | h
 ·rfl
 ·rw [decide_eq_true (by omega),Bool.or_true]
theorem Q6 {s:List UInt8} (self:List UInt8→Option Bool) {n:Node} {e:Int} {b:Bool} (h0:¬ (s=[]∨s.length=32)) (h:rU self s=some (n,e)) (hb:(decide ((s.length:Int)<32)&&decide (e=0))=b):eO self s=some b:=by
 unfold eO
 rw [TZ h0,cond_false,h,Option.bind_some, ← hb]
theorem Yg {n:Node} (h:yB n=0):n.aT=aE.rep 16 []:=by
 apply Subtype.ext
 show n.aT.1=List.replicate 16 []
 rw [List.eq_replicate_iff]
 refine ⟨n.aT.2,fun k hk=>?_⟩
 have h2:=List.length_eq_zero_iff.1 h
 rw [List.filter_eq_nil_iff] at h2
 have:=h2 k hk
 simpa [wz] using this
theorem Yh {n:Node} (h:yB n=1) (h0:idx n.aT.1 (0:Int)≠[]):n.aT=K1 (idx n.aT.1 (0:Int)):=by
 apply Subtype.ext
 have AF:=xp n
 obtain ⟨a,r,e⟩:∃ a r,n.aT.1=a::r:=by
  cases hh:n.aT.1 with
  | nil=>rw [hh] at AF;cases AF
  | cons a r=>exact ⟨a,r,rfl⟩
 unfold yB at h
 rw [e] at h h0 AF ⊢
 have ha:idx (a::r) (0:Int)=a:=rfl
 rw [ha] at h0 ⊢
 have hne:wz a=true:=by simpa [wz] using h0
 rw [List.filter_cons,if_pos hne,List.length_cons] at h
 have h2:=List.length_eq_zero_iff.1 (by omega:(r.filter wz).length=0)
 rw [List.filter_eq_nil_iff] at h2
 have hr:r=List.replicate 15 []:=by
  rw [List.eq_replicate_iff]
  refine ⟨by simpa using AF,fun k hk=>?_⟩
  have:=h2 k hk
  simpa [wz] using this
 rw [hr];rfl
theorem IK {R:List UInt8→Bool} {n:Node} (hc:xq R n=true) (hg:∀ k∈n.aT.1,good k):fW (iP n)=n:=by
 have AF:=xp n
 obtain ⟨c1,c2,c3⟩:=CI hc
 obtain ⟨kind,path,value,kids⟩:=n
 rcases Fb c3 with h | h | h
 ·simp only at h
  subst h
  have e:iP ⟨1,path,value,kids⟩=⟨true,[],[iO (eu path true),iO value]⟩:=by unfold iP;rw [if_pos rfl]
  have hs:yB ⟨1,path,value,kids⟩=0:=by
   simp only [ox,decide_true,cond_true,Bool.and_eq_true,decide_eq_true_eq] at c3
   omega
  have hk:kids=aE.rep 16 []:=Yg hs
  obtain ⟨p1,p2,_⟩:=JE c1 true
  simp only at p1 p2
  rw [e]
  show zl (iO (eu path true)) (iO value)=_
  unfold zl
  rw [show (iO (eu path true)).fS=eu path true from rfl,if_pos p2,p1,hk]
  rfl
 ·simp only at h
  subst h
  have e:iP ⟨2,path,value,kids⟩=⟨true,[],[iO (eu path false),eP (idx kids.1 (0:Int))]⟩:=by unfold iP;rw [if_neg (by show ¬ ((2:Int)=1);decide),if_pos rfl]
  simp only [ox,show decide ((2:Int)=1)=false from rfl,decide_true,cond_true,cond_false,Bool.and_eq_true,decide_eq_true_eq,beq_iff_eq,Bool.not_eq_true',beq_eq_false_iff_ne] at c3
  have hk:kids=K1 (idx kids.1 (0:Int)):=Yh (n:=⟨2,path,value,kids⟩) (by omega) c3.2
  have hv:value=[]:=c3.1.1.1
  obtain ⟨p1,p2,_⟩:=JE c1 false
  simp only at p1 p2
  have Yi:=(nP (hg _ (fc kids.1 (i:=0) (by rw [kids.2];omega)))).2.2.2.1
  have Yi:qO (eP (idx kids.1 (0:Int)))=idx kids.1 (0:Int):=Yi
  rw [e]
  show zl (iO (eu path false)) (eP (idx kids.1 (0:Int)))=_
  unfold zl
  rw [show (iO (eu path false)).fS=eu path false from rfl,if_neg (by rw [p2];simp),p1,Yi, ← hk,hv]
 ·simp only at h
  subst h
  have e:iP ⟨3,path,value,kids⟩=⟨true,[],kids.1.map eP++[iO []]⟩:=by
   unfold iP
   rw [if_neg (by show ¬ ((3:Int)=1);decide),if_neg (by show ¬ ((3:Int)=2);decide)]
  simp only [ox,show decide ((3:Int)=1)=false from rfl,show decide ((3:Int)=2)=false from rfl,decide_true,cond_true,cond_false,Bool.and_eq_true,decide_eq_true_eq,beq_iff_eq] at c3
  have hv:value=[]:=c3.1.1
  have hp:path=[]:=List.length_eq_zero_iff.1 (by omega)
  have hlen:(kids.1.map eP).length=16:=by rw [List.length_map,kids.2]
  have hk:yD (kids.1.map eP++[iO []]) 16=kids:=by
   apply Subtype.ext
   rw [JJ _ (by rw [List.length_append,hlen];omega),List.take_append_of_le_length (by omega),List.take_of_length_le (by omega),List.map_map]
   conv=>rhs;rw [← List.map_id kids.1]
   exact List.map_congr_left fun k hk=>(nP (hg k hk)).2.2.2.1
  rw [e]
  generalize hl:kids.1.map eP++[iO []]=l at hk
  have ZW:l.length=17:=by rw [← hl,List.length_append,hlen];rfl
  unfold fW
  rw [if_neg (by show ¬ (l.length=2);omega),if_pos (by show l.length=17;exact ZW),hv,hp]
  show (⟨3,[],[],yD l 16⟩:Node)=_
  rw [hk]
end Go.Proofs.YtlfjfoknbjcncaaGreat.K
namespace Go.Proofs.YtlfjfoknbjcncaaGreat.K
open Go
theorem MD {l:List UInt8} {i:Nat} (h:i<l.length):l.drop i=l.getD i 0::l.drop (i+1):=by
 rw [List.drop_eq_getElem_cons h,List.getD_eq_getElem?_getD,List.getElem?_eq_getElem h]
 rfl
def jB (x:Wd) (n:Nat):Wd:=x.rotateRight n
def JL (a b c d:UInt8):Wd:=(((a.toBitVec.setWidth 32 <<< 24)||| (b.toBitVec.setWidth 32 <<< 16))||| (c.toBitVec.setWidth 32 <<< 8))||| d.toBitVec.setWidth 32
def yE (x:Wd) (a b c:Nat) (shift:Bool):Wd:=if shift then (jB x a^^^jB x b)^^^(x >>> c) else (jB x a^^^jB x b)^^^jB x c
def pW (s:List UInt8) (i:Nat):Wd:=
 if h:i<16 then JL (s.getD (4*i) 0) (s.getD (4*i+1) 0) (s.getD (4*i+2) 0) (s.getD (4*i+3) 0)
 else pW s (i-16)+yE (pW s (i-15)) 7 18 3 true+pW s (i-7)+yE (pW s (i-2)) 17 19 10 true
termination_by i
def jW (s:List UInt8) (n:Nat):List Wd:=(List.range n).map (pW s)
theorem wA (s:List UInt8) (n:Nat):(jW s n).length=n:=by simp [jW]
theorem qP {s:List UInt8} {n i:Nat} (h:i<n):(jW s n).getD i 0=pW s i:=by
 rw [jW,List.getD_eq_getElem?_getD,List.getElem?_map,List.getElem?_range h]
 rfl
theorem Fc (s:List UInt8) (n:Nat):jW s (n+1)=jW s n++[pW s n]:=by simp [jW,List.range_succ]
def wB (s:List UInt8) (n:Nat):List Wd:=jW s n++List.replicate (64-n) 0
theorem Q7 {s:List UInt8} {n:Nat} (h:n≤64):(wB s n).length=64:=by simp [wB,wA];omega
theorem Q8 {s:List UInt8} {n i:Nat} (h:i<n):(wB s n).getD i 0=pW s i:=by
 rw [wB,List.getD_eq_getElem?_getD,List.getElem?_append_left (by rw [wA];exact h), ← List.getD_eq_getElem?_getD,qP h]
theorem JM {s:List UInt8} {n:Nat} (h:n<64):(wB s n).set n (pW s n)=wB s (n+1):=by
 rw [wB,wB,Fc,List.set_append_right _ _ (by rw [wA];exact Nat.le_refl _),wA,Nat.sub_self,List.append_assoc]
 congr 1
 rw [show 64-n=(64-(n+1))+1 by omega,List.replicate_succ]
 rfl
def Fe:List Wd:=[1116352408,1899447441,3049323471,3921009573,961987163,1508970993,2453635748,2870763221,3624381080,310598401,607225278,1426881987,1925078388,2162078206,2614888103,3248222580,3835390401,4022224774,264347078,604807628,770255983,1249150122,1555081692,1996064986,2554220882,2821834349,2952996808,3210313671,3336571891,3584528711,113926993,338241895,666307205,773529912,1294757372,1396182291,1695183700,1986661051,2177026350,2456956037,2730485921,2820302411,3259730800,3345764771,3516065817,3600352804,4094571909,275423344,430227734,506948616,659060556,883997877,958139571,1322822218,1537002063,1747873779,1955562222,2024104815,2227730452,2361852424,2428436474,2756734187,3204031479,3329325298]
def ME:List Wd:=[1779033703,3144134277,1013904242,2773480762,1359893119,2600822924,528734635,1541459225]
theorem PI (x:Wd) (n:Nat) (h:0<n∧n<32):jB x n=(x <<< (32-n))||| (x >>> n):=by
 rw [jB,BitVec.rotateRight_def,Nat.mod_eq_of_lt h.2,BitVec.or_comm]
theorem DC (x:Wd) (r i:Nat) (hr:r<32) (hi:i<32):(x.rotateRight r).getLsbD i=x.getLsbD (if i+r<32 then i+r else i+r-32):=by
 rw [BitVec.getLsbD_rotateRight,Nat.mod_eq_of_lt hr]
 by_cases h:i+r<32
 ·rw [if_pos h,decide_eq_true (show i<32-r by omega),cond_true,Nat.add_comm]
 ·rw [if_neg h,decide_eq_false (show ¬ i<32-r by omega),cond_false,decide_eq_true hi,Bool.true_and,show i-(32-r)=i+r-32 by omega]
theorem Q9 (x:Wd) (n:Nat) (h:n<31):jB (jB x n) 1=jB x (n+1):=by
 unfold jB
 apply BitVec.eq_of_getLsbD_eq
 intro i hi
 rw [DC _ _ _ (by omega) hi,DC _ _ _ (by omega) hi,DC _ _ _ (by omega) (by split<;>omega)]
 congr 1
 repeat' split
 all_goals omega
theorem T0 (x:Wd):((x.toNat/2+x.toNat%2*2147483648:Nat))=(jB x 1).toNat:=by
 have h:=PI x 1 (by omega)
 have e:(x <<< 31)&&& (x >>> 1)=0#32:=by
  apply BitVec.eq_of_getLsbD_eq
  intro i hi
  rw [BitVec.getLsbD_and,BitVec.getLsbD_shiftLeft,BitVec.getLsbD_ushiftRight,BitVec.getLsbD_zero]
  by_cases h1:i<31
  ·simp [h1]
  ·rw [BitVec.getLsbD_of_ge x (1+i) (by omega)];simp
 rw [h, ← BitVec.add_eq_or_of_and_eq_zero _ _ e,BitVec.toNat_add,BitVec.toNat_shiftLeft,BitVec.toNat_ushiftRight,Nat.shiftLeft_eq,Nat.shiftRight_eq_div_pow]
 have:=x.isLt
 omega
theorem O0 (x:Wd):jB x 0=x:=by
 unfold jB
 apply BitVec.eq_of_getLsbD_eq
 intro i hi
 rw [DC _ _ _ (by omega) hi,if_pos (by omega),Nat.add_zero]
theorem Ra (x:Wd) (i:Nat):((x >>> i).toNat:Int)/2=((x >>> (i+1)).toNat:Int):=by
 rw [BitVec.toNat_ushiftRight,BitVec.toNat_ushiftRight,Nat.shiftRight_succ]
 omega
theorem O1 (s:List UInt8):List.replicate 64 0=wB s 0:=rfl
theorem MF {s:List UInt8} {i:Nat} (h:i<16):pW s i=JL (s.getD (4*i) 0) (s.getD (4*i+1) 0) (s.getD (4*i+2) 0) (s.getD (4*i+3) 0):=by rw [pW,dif_pos h]
theorem JN {s:List UInt8} {i:Nat} (h:16≤i):pW s i=pW s (i-16)+yE (pW s (i-15)) 7 18 3 true+pW s (i-7)+yE (pW s (i-2)) 17 19 10 true:=by rw [pW,dif_neg (by omega)]
theorem O2 (s:List UInt8):wB s 64=jW s 64:=by simp [wB]
def ZX (s:List UInt8) (i:Nat) (v:List Wd):List Wd:=
  [(v.getD 7 0+yE (v.getD 4 0) 6 11 25 false+((v.getD 4 0&&& v.getD 5 0)^^^(~~~(v.getD 4 0)&&& v.getD 6 0))+Fe.getD i 0+pW s i)+(yE (v.getD 0 0) 2 13 22 false+(((v.getD 0 0&&& v.getD 1 0)^^^(v.getD 0 0&&& v.getD 2 0))^^^(v.getD 1 0&&& v.getD 2 0))),
   v.getD 0 0,v.getD 1 0,v.getD 2 0,
   v.getD 3 0+(v.getD 7 0+yE (v.getD 4 0) 6 11 25 false+((v.getD 4 0&&& v.getD 5 0)^^^(~~~(v.getD 4 0)&&& v.getD 6 0))+Fe.getD i 0+pW s i),v.getD 4 0,v.getD 5 0,v.getD 6 0]
def uf (s:List UInt8) (h:List Wd):Nat→List Wd
 | 0=>h
 | n+1=>ZX s n (uf s h n)
theorem O3 (s:List UInt8) (h:List Wd) (n:Nat):uf s h (n+1)=ZX s n (uf s h n):=rfl
theorem yF (s:List UInt8) (h:List Wd) (n:Nat) (hh:h.length=8):(uf s h n).length=8:=by
 cases n with
 | zero=>exact hh
 | succ n=>rfl
def ug (h v:List Wd) (n:Nat):List Wd:=List.zipWith (· +·) (h.take n) (v.take n)++h.drop n
theorem O4 (h v:List Wd):ug h v 0=h:=by simp [ug]
theorem Ew (h v:List Wd) (n:Nat) (hh:h.length=8) (hv:v.length=8) (hn:n≤8):(ug h v n).length=8:=by simp [ug,hh,hv];omega
theorem Rb {h v:List Wd} {i:Nat} (hi:i<h.length) (hv:h.length=v.length):(ug h v i).getD i 0=h.getD i 0:=by
 rw [ug,List.getD_eq_getElem?_getD,List.getElem?_append_right (by simp;omega),List.getD_eq_getElem?_getD]
 congr 1
 rw [List.getElem?_drop]
 congr 1
 simp
 omega
theorem Rc {h v:List Wd} {i:Nat} (hi:i<h.length) (hv:h.length=v.length):(ug h v i).set i ((ug h v i).getD i 0+v.getD i 0)=ug h v (i+1):=by
 rw [Rb hi hv,ug,ug,List.set_append_right _ _ (by simp;omega)]
 have e:(List.zipWith (· +·) (h.take i) (v.take i)).length=i:=by simp;omega
 have e1:h.drop i=h.getD i 0::h.drop (i+1):=by
  rw [List.drop_eq_getElem_cons hi,List.getD_eq_getElem?_getD,List.getElem?_eq_getElem hi];rfl
 have e2:h.take (i+1)=h.take i++[h.getD i 0]:=by
  rw [List.take_add_one,List.getD_eq_getElem?_getD,List.getElem?_eq_getElem hi];rfl
 have e3:v.take (i+1)=v.take i++[v.getD i 0]:=by
  rw [List.take_add_one,List.getD_eq_getElem?_getD,List.getElem?_eq_getElem (by omega)];rfl
 rw [e,Nat.sub_self,e1,List.set_cons_zero,e2,e3,List.zipWith_append (by simp;omega)]
 simp
def sk (h:List Wd) (s:List UInt8):List Wd:=ug h (uf s h 64) 8
theorem KL {h:List Wd} {s:List UInt8} (hh:h.length=8):(sk h s).length=8:=Ew h _ 8 hh (yF s h 64 hh) (by omega)
def DD (m w:Nat):List UInt8:=(List.range w).map fun i=>UInt8.ofNat (m/256 ^ i)
theorem DE (m w:Nat):(DD m w).length=w:=by simp [DD]
def sn (n:Nat):Nat:=(119-n%64)%64
def ux (s:List UInt8):List UInt8:=s++128::List.replicate (sn s.length) 0
def sq (s:List UInt8):List UInt8:=ux s++(DD (s.length*8) 8).reverse
theorem CJ (s:List UInt8):(ux s).length=s.length+1+sn s.length:=by simp [ux];omega
theorem HX (s:List UInt8):(sq s).length%64=0∧(sq s).length≤s.length+72:=by
 have:=CJ s
 have h2:(sq s).length=(ux s).length+8:=by simp [sq,DE]
 rw [h2,this]
 unfold sn
 omega
theorem div_pow (m i:Nat):m/256 ^ i/256=m/256 ^ (i+1):=by rw [Nat.div_div_eq_div_mul,Nat.pow_succ]
theorem JO (n:Nat):List.replicate n (0:UInt8)++[0]=List.replicate (n+1) 0:=by rw [List.replicate_succ']
theorem Rd {l:List UInt8} {j:Nat} (h:j<l.length):(l.drop (j+1)).reverse++[l.getD j 0]=(l.drop j).reverse:=by
 rw [MD h,List.reverse_cons]
def sr (h:List Wd) (t:List UInt8):List Wd:=
 if t.length<64 then h else sr (sk h (t.take 64)) (t.drop 64)
termination_by t.length
decreasing_by simp;omega
def WZ (s:List UInt8):List Wd:=sr ME (sq s)
def uK (h:List Wd) (i:Nat):UInt8:=UInt8.ofNat (h.getD (i/4) 0 >>> (24-8*(i%4))).toNat
def Ff (s:List UInt8):List UInt8:=(List.range 32).map (uK (WZ s))
theorem Bg (s:List UInt8):(Ff s).length=32:=by simp [Ff]
theorem BT (h:List Wd) {t:List UInt8} (ht:64≤t.length):sr h t=sr (sk h (t.take 64)) (t.drop 64):=by rw [sr,if_neg (by omega)]
theorem DF {h g:List Wd} {t:List UInt8} (f:sr h t=g) (ht:t=[]):h=g:=by rw [← f,ht,sr];rfl
def HY (s:List UInt8) (a:Nat):Nat→Nat
 | 0=>0
 | j+1=>256*HY s a j+(s.getD (a+j) 0).toNat
theorem KM (s:List UInt8) (a j:Nat) (h:j≤4):HY s a j<4294967296:=by
 have b0:=m7 (s.getD (a+0) 0)
 have b1:=m7 (s.getD (a+1) 0)
 have b2:=m7 (s.getD (a+2) 0)
 have b3:=m7 (s.getD (a+3) 0)
 match j,h with
 | 0,_=>show 0<_;omega
 | 1,_=>show 256*0+(s.getD (a+0) 0).toNat<_;omega
 | 2,_=>show 256*(256*0+(s.getD (a+0) 0).toNat)+(s.getD (a+1) 0).toNat<_;omega
 | 3,_=>show 256*(256*(256*0+(s.getD (a+0) 0).toNat)+(s.getD (a+1) 0).toNat)+(s.getD (a+2) 0).toNat<_;omega
 | 4,_=>show 256*(256*(256*(256*0+(s.getD (a+0) 0).toNat)+(s.getD (a+1) 0).toNat)+(s.getD (a+2) 0).toNat)+(s.getD (a+3) 0).toNat<_;omega
theorem Ex (x y:Wd) (k:Nat) (hk:k<32) (h:y.toNat<2 ^ k):((x <<< k)||| y).toNat=(x <<< k).toNat+y.toNat:=by
  have e:(x <<< k)&&& y=0#32:=by
    apply BitVec.eq_of_getLsbD_eq
    intro i hi
    rw [BitVec.getLsbD_and,BitVec.getLsbD_shiftLeft,BitVec.getLsbD_zero]
    by_cases h1:i<k
    · simp [h1]
    · have:y.getLsbD i=false:=by
        rw [BitVec.getLsbD,Nat.testBit_lt_two_pow (Nat.lt_of_lt_of_le h (Nat.pow_le_pow_right (by omega) (by omega)))]
      simp [this]
  rw [← BitVec.add_eq_or_of_and_eq_zero _ _ e,BitVec.toNat_add,Nat.mod_eq_of_lt]
  rw [BitVec.toNat_shiftLeft,Nat.shiftLeft_eq]
  obtain ⟨m,hm⟩:∃ m,2 ^ 32=2 ^ k*m:=⟨2 ^ (32-k),by rw [← Nat.pow_add];congr 1;omega⟩
  rw [hm,Nat.mul_comm x.toNat,Nat.mul_mod_mul_left]
  have hm0:0<m:=by
                         rcases Nat.eq_zero_or_pos m with h0 | h0;· rw [h0] at hm;simp at hm
                         · exact h0
  have:=Nat.mod_lt x.toNat hm0
  calc 2 ^ k*(x.toNat%m)+y.toNat<2 ^ k*(x.toNat%m)+2 ^ k:=by omega
    _=2 ^ k*(x.toNat%m+1):=by rw [Nat.mul_add,Nat.mul_one]
    _≤2 ^ k*m:=Nat.mul_le_mul_left _ (by omega)
theorem Re (a b c d:UInt8):(JL a b c d).toNat=256*(256*(256*(256*0+a.toNat)+b.toNat)+c.toNat)+d.toNat:=by
 have ha:=m7 a
 have hb:=m7 b
 have hc:=m7 c
 have hd:=m7 d
 have w:∀ x:UInt8,(x.toBitVec.setWidth 32).toNat=x.toNat:=fun x=>by
  rw [BitVec.toNat_setWidth];have:=m7 x;exact Nat.mod_eq_of_lt (by show x.toNat<_;omega)
 have s24:(a.toBitVec.setWidth 32 <<< 24).toNat=a.toNat*16777216:=by rw [BitVec.toNat_shiftLeft,w,Nat.shiftLeft_eq];omega
 have s16:(b.toBitVec.setWidth 32 <<< 16).toNat=b.toNat*65536:=by rw [BitVec.toNat_shiftLeft,w,Nat.shiftLeft_eq];omega
 have s8:(c.toBitVec.setWidth 32 <<< 8).toNat=c.toNat*256:=by rw [BitVec.toNat_shiftLeft,w,Nat.shiftLeft_eq];omega
 unfold JL
 rw [BitVec.or_assoc,BitVec.or_assoc]
 have e1:((c.toBitVec.setWidth 32 <<< 8)||| d.toBitVec.setWidth 32).toNat=c.toNat*256+d.toNat:=by rw [Ex _ _ 8 (by omega) (by rw [w];omega),s8,w]
 have e2:((b.toBitVec.setWidth 32 <<< 16)||| ((c.toBitVec.setWidth 32 <<< 8)||| d.toBitVec.setWidth 32)).toNat=b.toNat*65536+(c.toNat*256+d.toNat):=by rw [Ex _ _ 16 (by omega) (by rw [e1];omega),s16,e1]
 rw [Ex _ _ 24 (by omega) (by rw [e2];omega),s24,e2]
 omega
theorem Rf {s:List UInt8} {i j:Nat} (hi:i<16) (hj:j=4):((HY s (4*i) j:Nat):Int)=((pW s i).toNat:Int):=by
 rw [hj,MF hi,Re]
 rfl
theorem Yj {s:List UInt8} {i:Nat} (h:16≤i):(jW s i).getD (i-16) 0+((jB ((jW s i).getD (i-15) 0) 7^^^jB ((jW s i).getD (i-15) 0) 18)^^^((jW s i).getD (i-15) 0 >>> 3))+(jW s i).getD (i-7) 0+
  ((jB ((jW s i).getD (i-2) 0) 17^^^jB ((jW s i).getD (i-2) 0) 19)^^^((jW s i).getD (i-2) 0 >>> 10))=pW s i:=by
 rw [qP (by omega),qP (by omega),qP (by omega),qP (by omega),JN h]
 rfl
theorem T1 (e f g:Wd):(e&&& f)||| (~~~e&&& g)=(e&&& f)^^^(~~~e&&& g):=by
 apply BitVec.eq_of_getLsbD_eq
 intro i hi
 simp only [BitVec.getLsbD_or,BitVec.getLsbD_xor,BitVec.getLsbD_and,BitVec.getLsbD_not,hi,decide_true,Bool.true_and]
 cases e.getLsbD i<;>cases f.getLsbD i<;>cases g.getLsbD i<;>rfl
theorem T2 (a b c:Wd):((a&&& b)||| (a&&& c))||| (b&&& c)=((a&&& b)^^^(a&&& c))^^^(b&&& c):=by
 apply BitVec.eq_of_getLsbD_eq
 intro i hi
 simp only [BitVec.getLsbD_or,BitVec.getLsbD_xor,BitVec.getLsbD_and]
 cases a.getLsbD i<;>cases b.getLsbD i<;>cases c.getLsbD i<;>rfl
def DG (h v:List Wd) (i:Nat):List Wd:=(List.range i).map fun j=>h.getD j 0+v.getD j 0
theorem Rg (h v:List Wd) (i:Nat):(DG h v i).length=i:=by simp [DG]
theorem O5 (h v:List Wd) (i:Nat):DG h v (i+1)=DG h v i++[h.getD i 0+v.getD i 0]:=by simp [DG,List.range_succ]
theorem O6 (h:List Wd) (s:List UInt8) (hh:h.length=8):DG h (uf s h 64) 8=sk h s:=by
 have hv:=yF s h 64 hh
 unfold sk
 generalize uf s h 64=v at*
 match h,v,hh,hv with
 | [a0,a1,a2,a3,a4,a5,a6,a7],[b0,b1,b2,b3,b4,b5,b6,b7],_,_=>rfl
theorem JP (m i:Nat):DD m (i+1)=DD m i++[UInt8.ofNat (m/256 ^ i)]:=by simp [DD,List.range_succ]
theorem T3 (m i:Nat):[UInt8.ofNat (m/256 ^ i)]++(DD m i).reverse=(DD m (i+1)).reverse:=by rw [JP,List.reverse_append];rfl
theorem T4 (h:List Wd) (i:Nat):UInt8.ofNat ((h.getD (i/4) 0).toNat/256 ^ (3-i%4))=uK h i:=by
 unfold uK
 rw [BitVec.toNat_ushiftRight,Nat.shiftRight_eq_div_pow,show (256:Nat)=2 ^ 8 from rfl, ← Nat.pow_mul,show 8*(3-i%4)=24-8*(i%4) by omega]
end Go.Proofs.YtlfjfoknbjcncaaGreat.K
namespace Go.Proofs.YtlfjfoknbjcncaaGreat.K
open Go
set_option linter.unusedVariables false
set_option linter.unusedSimpArgs false
theorem T5 (n:Nat) (a:aE 8 UInt8) (i:Nat) (h:i<8) (ha:a.1=CA n i++List.replicate (8-i) 0) (b:UInt8) (hb:b=UInt8.ofNat (n/256 ^ i%256)):(a.put (i:Int) b).1=CA n (i+1)++List.replicate (8-(i+1)) 0:=by
 subst hb
 show a.1.set (i:Int).toNat _=_
 rw [ha,Int.toNat_natCast,Em,List.set_append_right _ _ (by simp),Ms,Nat.sub_self,show 8-i=(8-(i+1))+1 by omega,List.replicate_succ,List.set_cons_zero]
 simp
theorem Wx (n:BitVec 64) (w:Nat) (hw:w≤8):xd n (w:Int)=some (CA n.toNat w):=by
 have hm:e8 (gQ (w:Int) 0) 8=(w:Int):=by unfold e8 gQ;repeat' split<;>omega
 refine cN (.next rfl ?_)
 have key:∀ i,i≤w→(∀ a:aE 8 UInt8,a.1=CA n.toNat i++List.replicate (8-i) 0→Comes (kK n (w:Int)) (.L1 (BitVec.ofNat 64 (n.toNat/256 ^ i)) (i:Int) a) (CA n.toNat w))→Comes (kK n (w:Int)) (.L1 n 0 (aE.rep 8 0)) (CA n.toNat w):=by
  intro i
  induction i with
  | zero=>
   intro _ h
   have:=h (aE.rep 8 0) rfl
   simpa using this
  | succ i ih=>
   intro hi h
   refine ih (by omega) fun a ha=> .next ?_ (h (a.put (i:Int) (UInt8.ofNat (n.toNat/256 ^ i%256))) (T5 n.toNat a i (by omega) ha _ rfl))
   simp only [kK]
   have h2:n.toNat/256 ^ i<2 ^ 64:=Nat.lt_of_le_of_lt (Nat.div_le_self _ _) n.isLt
   have e2:oJ (BitVec.ofNat 64 (n.toNat/256 ^ i)) (8:Int)=BitVec.ofNat 64 (n.toNat/256 ^ (i+1)):=by
    apply BitVec.eq_of_toNat_eq
    show (BitVec.ofNat 64 (n.toNat/256 ^ i) >>> 8).toNat=_
    rw [BitVec.toNat_ushiftRight,BitVec.toNat_ofNat,BitVec.toNat_ofNat,Nat.mod_eq_of_lt h2,Nat.mod_eq_of_lt (Nat.lt_of_le_of_lt (Nat.div_le_self _ _) n.isLt),Nat.pow_succ, ← Nat.div_div_eq_div_mul,Nat.shiftRight_eq_div_pow]
   rw [hm,decide_eq_true (by omega),cond_true,af (by omega),af (by unfold bA;omega),e2,wm,BitVec.toNat_ofNat,Nat.mod_eq_of_lt h2,tE]
   rfl
 refine key w (Nat.le_refl _) fun a ha=> .stop ?_
 simp only [kK]
 rw [hm,decide_eq_false (by omega),cond_false,af (by omega),Dv,ha,List.take_left' (by simp)]
end Go.Proofs.YtlfjfoknbjcncaaGreat.K
namespace Go.Proofs.YtlfjfoknbjcncaaGreat.K
open Go
set_option linter.unusedVariables false
set_option linter.unusedSimpArgs false
theorem Rh:∀ n:Fin 32,0<n.val→((BitVec.ofInt 64 (0-(n.val:Int)))&&& (31:BitVec 64)).toNat=32-n.val∧((32:BitVec 64)-((BitVec.ofInt 64 (0-(n.val:Int)))&&& (31:BitVec 64))).toNat=n.val:=by decide
theorem T6 (x:BitVec 32) (n:Nat) (h:0<n∧n<32):iK x (0-(n:Int))=some (jB x n):=by
 obtain ⟨h1,h2⟩:=Rh ⟨n,h.2⟩ h.1
 simp only at h1 h2
 unfold iK
 rw [af (by omega),af (by omega),h1,h2,PI x n h]
 unfold qW oJ
 rw [show min (((32-n:Nat):Int)).toNat 32=32-n by omega,show min ((n:Int)).toNat 32=n by omega]
theorem HZ (x:BitVec 32) (n:Nat) (h:0<n∧n<32):lp (n:Int) x=some (jB x n):=by
 unfold lp
 rw [af (by unfold bA;omega),T6 x n h];rfl
theorem FN (x:BitVec 32) (a b c:Nat) (s:Bool) (ha:0<a∧a<32) (hb:0<b∧b<32) (hc:0<c∧c<32):kV x (a:Int) (b:Int) (c:Int) s=some (yE x a b c s):=by
 unfold kV yE
 rw [HZ x a ha,HZ x b hb,HZ x c hc]
 cases s with
 | true=>
  simp only [cond_true,Option.bind_some,if_true]
  rw [af (by omega)]
  unfold oJ
  rw [show min ((c:Int)).toNat 32=c by omega]
 | false=>rfl
theorem T7 (s:List UInt8) (h:4≤s.length):tZ s=some (JL (s.getD 0 0) (s.getD 1 0) (s.getD 2 0) (s.getD 3 0)):=by
 have e:∀ b:UInt8,BitVec.ofInt 32 ((b.toNat:Nat):Int)=b.toBitVec.setWidth 32:=by
  intro b
  apply BitVec.eq_of_toNat_eq
  have:=b.toNat_lt
  rw [BitVec.toNat_setWidth,BitVec.toNat_ofInt]
  show ((b.toNat:Int)%(2 ^ 32:Nat)).toNat=b.toNat%2 ^ 32
  omega
 unfold tZ JL
 rw [af (by omega),af (by omega),af (by omega),af (by omega),e,e,e,e]
 rfl
theorem Ri (s:List UInt8) (h:s.length=64):∃ r:aE 64 (BitVec 32),r.1=jW s 64∧y6 s=some r:=by
 have P:∀ n,n≤64→(wB s n).length=64:=fun n h=>Q7 h
 let A:Nat→aE 64 (BitVec 32):=fun n=>if h:n≤64 then ⟨wB s n,P n h⟩ else aE.rep 64 0
 have hA:∀ n,n≤64→(A n).1=wB s n:=by intro n h;show (if h:n≤64 then (⟨wB s n,P n h⟩:aE 64 (BitVec 32)) else aE.rep 64 0).1=_;rw [dif_pos h]
 have get:∀ n i,n≤64→i<n→idx (A n).1 (i:Int)=pW s i:=by
  intro n i h1 h2
  rw [hA n h1,gZ];exact Q8 h2
 refine ⟨A 64,by rw [hA 64 (Nat.le_refl _),O2],cN (Comes.next (c':= .L1 0 (A 0)) ?_ ?_)⟩
 ·have:A 0=aE.rep 64 0:=Subtype.ext ((hA 0 (by omega)).trans (O1 s).symm)
  rw [this];rfl
 ·refine Comes.upto (step:=fZ s) (fun i=> .L1 (i:Int) (A i)) 16 ?_ ?_
  ·intro i hi
   have e1:(4:Int)*(i:Int)=((4*i:Nat):Int):=by omega
   have hw:=T7 (s.drop (4*i)) (by rw [List.length_drop];omega)
   have g:∀ k,(s.drop (4*i)).getD k 0=s.getD (4*i+k) 0:=by intro k;simp [List.getD_eq_getElem?_getD]
   rw [g,g,g,g,Nat.add_zero, ← MF hi] at hw
   have hn:(A i).put (i:Int) (pW s i)=A (i+1):=by
    apply Subtype.ext
    show (A i).1.set (i:Int).toNat (pW s i)=_
    rw [Int.toNat_natCast,hA i (by omega),hA (i+1) (by omega),JM (by omega)]
   simp only [fZ]
   rw [decide_eq_true (by omega),cond_true,af (by unfold bA;omega),af (by omega),e1,nu,hw,Option.bind_some,af (by omega),af (by unfold bA;omega),hn]
   rfl
  ·refine Comes.next (c':= .L2 16 (A 16)) ?_ ?_
   ·simp only [fZ]
    rw [decide_eq_false (by omega),cond_false]
   ·have:=Comes.upto (step:=fZ s) (fun j=> .L2 ((16+j:Nat):Int) (A (16+j))) 48 (r:=A 64) (by
     intro j hj
     have d16:((16+j:Nat):Int)-16=((16+j-16:Nat):Int):=by omega
     have d15:((16+j:Nat):Int)-15=((16+j-15:Nat):Int):=by omega
     have d7:((16+j:Nat):Int)-7=((16+j-7:Nat):Int):=by omega
     have d2:((16+j:Nat):Int)-2=((16+j-2:Nat):Int):=by omega
     have hn:(A (16+j)).put ((16+j:Nat):Int) (pW s (16+j))=A (16+j+1):=by
      apply Subtype.ext
      show (A (16+j)).1.set ((16+j:Nat):Int).toNat (pW s (16+j))=_
      rw [Int.toNat_natCast,hA (16+j) (by omega),hA (16+j+1) (by omega),JM (by omega)]
     simp only [fZ]
     rw [decide_eq_true (by omega),cond_true,d16,d15,d7,d2,af (by unfold bA;omega),af (by omega),af (by unfold bA;omega),af (by omega),get _ _ (by omega) (by omega),get _ _ (by omega) (by omega),get _ _ (by omega) (by omega),get _ _ (by omega) (by omega)]
     rw [show kV (pW s (16+j-15)) 7 18 3 true=some (yE (pW s (16+j-15)) 7 18 3 true) from FN _ 7 18 3 true (by omega) (by omega) (by omega),Option.bind_some,af (by unfold bA;omega),af (by omega),af (by unfold bA;omega),af (by omega),
      show kV (pW s (16+j-2)) 17 19 10 true=some (yE (pW s (16+j-2)) 17 19 10 true) from FN _ 17 19 10 true (by omega) (by omega) (by omega),Option.bind_some,af (by omega),af (by unfold bA;omega), ← JN (by omega),hn]
     rfl) (by
     refine Comes.stop ?_
     simp only [fZ]
     rw [decide_eq_false (by omega)]
     rfl)
    exact this
theorem T8 (h:aE 8 (BitVec 32)) (s:List UInt8) (hs:s.length=64):∃ r:aE 8 (BitVec 32),r.1=sk h.1 s∧As h s=some r:=by
 obtain ⟨w,hw1,Yk⟩:=Ri s hs
 let B:Nat→aE 8 (BitVec 32):=fun n=>⟨uf s h.1 n,yF s h.1 n h.2⟩
 let K:aE 64 (BitVec 32):=⟨Fe,rfl⟩
 have hwg:∀ i:Nat,i<64→idx w.1 (i:Int)=pW s i:=by intro i hi;rw [hw1,gZ];exact qP hi
 let A:Nat→aE 8 (BitVec 32):=fun n=>if hn:n≤8 then ⟨ug h.1 (B 64).1 n,Ew h.1 _ n h.2 (B 64).2 hn⟩ else h
 have hA:∀ n,n≤8→(A n).1=ug h.1 (B 64).1 n:=by
  intro n hn
  show (if hn:n≤8 then (⟨ug h.1 (B 64).1 n,Ew h.1 _ n h.2 (B 64).2 hn⟩:aE 8 (BitVec 32)) else h).1=_
  rw [dif_pos hn]
 refine ⟨A 8,hA 8 (Nat.le_refl _),cN (Comes.next (c':= .L1 0 w K h) ?_ ?_)⟩
 ·simp only [gf]
  rw [Yk];rfl
 ·refine Comes.upto (step:=gf h s) (fun i=> .L1 (i:Int) w K (B i)) 64 ?_ ?_
  ·intro i hi
   have x7:kV (idx (B i).1 (4:Int)) 6 11 25 false=some (yE ((B i).1.getD 4 0) 6 11 25 false):=FN _ 6 11 25 false (by omega) (by omega) (by omega)
   have hm2:kV (idx (B i).1 (0:Int)) 2 13 22 false=some (yE ((B i).1.getD 0 0) 2 13 22 false):=FN _ 2 13 22 false (by omega) (by omega) (by omega)
   have hk:idx K.1 (i:Int)=Fe.getD i 0:=gZ _ _
   simp only [gf]
   rw [decide_eq_true (by omega),cond_true,x7,Option.bind_some,af (by omega),af (by omega),hm2,Option.bind_some,af (by unfold bA;omega),hk,hwg i hi]
   rfl
  ·refine Comes.next (c':= .L2 0 h (B 64)) ?_ ?_
   ·simp only [gf]
    rw [decide_eq_false (by omega)];rfl
   ·have h0:A 0=h:=Subtype.ext ((hA 0 (by omega)).trans (O4 _ _))
    have:=Comes.upto (step:=gf h s) (fun i=> .L2 (i:Int) (A i) (B 64)) 8 (r:=A 8) (by
     intro i hi
     have hlen:h.1.length=8:=h.2
     have hB:(B 64).1.length=8:=(B 64).2
     have e1:idx (A i).1 (i:Int)=(ug h.1 (B 64).1 i).getD i 0:=by rw [hA i (by omega),gZ];rfl
     have e2:idx (B 64).1 (i:Int)=(B 64).1.getD i 0:=gZ _ _
     have hn:(A i).put (i:Int) ((ug h.1 (B 64).1 i).getD i 0+(B 64).1.getD i 0)=A (i+1):=by
      apply Subtype.ext
      show (A i).1.set (i:Int).toNat _=_
      rw [Int.toNat_natCast,hA i (by omega),hA (i+1) (by omega),Rc (by omega) (by omega)]
     simp only [gf]
     rw [decide_eq_true (by omega),cond_true,af (by omega),af (by omega),af (by omega),af (by unfold bA;omega),e1,e2,hn]
     rfl) (by
     refine Comes.stop ?_
     simp only [gf]
     rw [decide_eq_false (by omega)];rfl)
    rw [h0] at this
    exact this
theorem T9 (n:Nat):∀ w,CA n w=DD n w
 | 0=>rfl
 | w+1=>by rw [Em,JP,T9 n w,tE]
theorem O7 (s:List UInt8) (hs:s.length≤1000000):xJ s=some (sq s):=by
 have ZY:sn s.length<64:=by unfold sn;omega
 refine cN (Comes.next (c':= .L1 (s++[128])) ?_ ?_)
 ·simp only [ff]
  rw [af (by omega),af (by simp only [List.length_singleton];omega)]
 ·refine Comes.upto (step:=ff s) (fun j=> .L1 (s++128::List.replicate j 0)) (sn s.length) ?_ ?_
  ·intro j hj
   have hl:(s++128::List.replicate j (0:UInt8)).length=s.length+1+j:=by simp;omega
   have e:s++128::List.replicate j (0:UInt8)++[0]=s++128::List.replicate (j+1) 0:=by rw [List.append_assoc,List.cons_append,JO]
   have hne:¬ (((s.length+1+j:Nat):Int).tmod 64=56):=by
    rw [Int.tmod_eq_emod_of_nonneg (by omega)]
    unfold sn at hj
    omega
   simp only [ff]
   rw [hl,decide_eq_false hne,Bool.not_false,cond_true,af (by simp only [List.length_singleton];omega),e]
  ·have hl:(s++128::List.replicate (sn s.length) (0:UInt8)).length=s.length+1+sn s.length:=by simp;omega
   have he:((s.length+1+sn s.length:Nat):Int).tmod 64=56:=by
    rw [Int.tmod_eq_emod_of_nonneg (by omega)]
    unfold sn
    omega
   have hN:=Wx (BitVec.ofInt 64 (s.length:Int)*(8:BitVec 64)) 8 (by omega)
   have hv:(BitVec.ofInt 64 (s.length:Int)*(8:BitVec 64)).toNat=s.length*8:=by
    rw [BitVec.toNat_mul,BitVec.toNat_ofInt]
    show ((s.length:Int)%(2 ^ 64:Nat)).toNat*8%2 ^ 64=_
    omega
   rw [hv,T9] at hN
   have hL:=DE (s.length*8) 8
   refine Comes.next (c':= .L2 (ux s) (DD (s.length*8) 8) 7) ?_ ?_
   ·simp only [ff]
    rw [hl,decide_eq_true he,Bool.not_true,cond_false,show xd (BitVec.ofInt 64 (s.length:Int)*(8:BitVec 64)) 8=some (DD (s.length*8) 8) from hN]
    rfl
   ·unfold sq
    generalize DD (s.length*8) 8=l at hL
    have hf0:=CJ s
    have h8:ux s++(l.drop (8-0)).reverse=ux s:=by rw [List.drop_eq_nil_of_le (by omega)];simp
    have:=Comes.upto (step:=ff s) (fun j=> .L2 (ux s++(l.drop (8-j)).reverse) l (7-(j:Int))) 8 (r:=ux s++l.reverse) (by
     intro j hj
     have hx:idx l (7-(j:Int))=l.getD (7-j) 0:=by
      rw [show (7:Int)-(j:Int)=((7-j:Nat):Int) by omega,gZ];rfl
     have hd:=Rd (l:=l) (j:=7-j) (by omega)
     rw [show 7-j+1=8-j by omega] at hd
     have hlen:(ux s++(l.drop (8-j)).reverse).length≤s.length+100:=by
      rw [List.length_append,List.length_reverse,List.length_drop];omega
     simp only [ff]
     rw [decide_eq_true (by omega),cond_true,af (by omega),hx,af (by simp only [List.length_singleton];omega),af (by unfold bA;omega),List.append_assoc,hd,show 8-(j+1)=7-j by omega,show (7:Int)-(j:Int)-1=7-((j+1:Nat):Int) by omega]) (by
     refine Comes.stop ?_
     simp only [ff]
     rw [decide_eq_false (by omega),cond_false,show 8-8=0 from rfl,List.drop_zero])
    rw [h8,show (7:Int)-((0:Nat):Int)=7 from rfl] at this
    exact this
theorem Rj (f:Nat→UInt8) (n i:Nat) (h:i<n):((List.range i).map f++List.replicate (n-i) 0).set i (f i)=(List.range (i+1)).map f++List.replicate (n-(i+1)) 0:=by
 rw [List.set_append_right _ _ (by simp)]
 simp only [List.length_map,List.length_range,Nat.sub_self]
 rw [show n-i=(n-(i+1))+1 by omega,List.replicate_succ,List.set_cons_zero,List.range_succ,List.map_append,List.append_assoc]
 rfl
theorem Ua (s:List UInt8):∀ (k:Nat) (t:List UInt8) (h:aE 8 (BitVec 32)),t.length=64*k→∃ g:aE 8 (BitVec 32),g.1=sr h.1 t∧∀ r,Comes (gW s) (.L2 0 g (aE.rep 32 0)) r→Comes (gW s) (.L1 t h) r
 | 0,t,h,hl=>by
  have ht:t=[]:=List.length_eq_zero_iff.1 (by omega)
  subst ht
  refine ⟨h,DF rfl rfl,fun r hr=>Comes.next ?_ hr⟩
  simp only [gW]
  rfl
 | k+1,t,h,hl=>by
  obtain ⟨h',e1,e2⟩:=T8 h (t.take 64) (by rw [List.length_take];omega)
  obtain ⟨g,g1,g2⟩:=Ua s k (t.drop 64) h' (by rw [List.length_drop];omega)
  refine ⟨g,by rw [g1,e1, ← BT h.1 (by omega)],fun r hr=>Comes.next ?_ (g2 r hr)⟩
  have hne:(t==([]:List UInt8))=false:=by
   rw [beq_eq_false_iff_ne];intro e;rw [e] at hl;simp at hl
  have s1:sub t (0:Int) (64:Int)=t.take 64:=Dv t 64
  have s2:sub t (64:Int) (t.length:Int)=t.drop 64:=nu t 64
  simp only [gW]
  rw [hne,Bool.not_false,cond_true,af (by omega),s1,e2,Option.bind_some,af (by omega),s2]
theorem Wy (s:List UInt8) (hs:s.length≤1000000):∃ r:aE 32 UInt8,r.1=Ff s∧Ef s=some r:=by
 have hF:=HX s
 obtain ⟨g,g1,g2⟩:=Ua s ((sq s).length/64) (sq s) ⟨ME,rfl⟩ (by omega)
 have hg:g.1.length=8:=g.2
 let A:Nat→aE 32 UInt8:=fun n=>if hn:n≤32 then ⟨(List.range n).map (uK g.1)++List.replicate (32-n) 0,by simp;omega⟩ else aE.rep 32 0
 have hA:∀ n,n≤32→(A n).1=(List.range n).map (uK g.1)++List.replicate (32-n) 0:=by
  intro n hn
  show (if hn:n≤32 then (⟨(List.range n).map (uK g.1)++List.replicate (32-n) 0,by simp;omega⟩:aE 32 UInt8) else aE.rep 32 0).1=_
  rw [dif_pos hn]
 have h0:A 0=aE.rep 32 0:=Subtype.ext (hA 0 (by omega))
 refine ⟨A 32,?_,cN (Comes.next (c':= .L1 (sq s) ⟨ME,rfl⟩) ?_ (g2 _ ?_))⟩
 ·rw [hA 32 (Nat.le_refl _),Nat.sub_self,List.replicate_zero,List.append_nil,g1];rfl
 ·simp only [gW]
  rw [O7 s hs];rfl
 ·have:=Comes.upto (step:=gW s) (fun i=> .L2 (i:Int) g (A i)) 32 (r:=A 32) (by
   intro i hi
   have q1:(i:Int).tdiv 4=((i/4:Nat):Int):=by rw [Int.tdiv_eq_ediv_of_nonneg (by omega)];omega
   have q2:(i:Int).tmod 4=((i%4:Nat):Int):=by rw [Int.tmod_eq_emod_of_nonneg (by omega)];omega
   have hv:gb (((oJ (idx g.1 ((i/4:Nat):Int)) (24-8*((i%4:Nat):Int))).toNat:Nat):Int)=uK g.1 i:=by
    rw [wm,gZ]
    unfold oJ uK
    rw [show min ((24:Int)-8*((i%4:Nat):Int)).toNat 32=24-8*(i%4) by omega]
    rfl
   have hn:(A i).put (i:Int) (uK g.1 i)=A (i+1):=by
    apply Subtype.ext
    show (A i).1.set (i:Int).toNat _=_
    rw [Int.toNat_natCast,hA i (by omega),hA (i+1) (by omega),Rj _ _ _ hi]
   simp only [gW]
   rw [decide_eq_true (by omega),cond_true,q1,q2,af ⟨by decide,by unfold bA;omega⟩,af (by omega),af (by unfold bA;omega),af (by unfold bA;omega),af (by omega),af (by omega),af (by unfold bA;omega),hv,hn]
   rfl) (by
   refine Comes.stop ?_
   simp only [gW]
   rw [decide_eq_false (by omega)];rfl)
  rw [h0] at this
  exact this
end Go.Proofs.YtlfjfoknbjcncaaGreat.K
namespace Go.Proofs.YtlfjfoknbjcncaaGreat.K
open Go
set_option linter.unusedVariables false
set_option linter.unusedSimpArgs false
def up (x:BitVec 32):BitVec 64:=x.setWidth 64
theorem tF (x:BitVec 32):(up x).toNat=x.toNat:=by
 unfold up
 rw [BitVec.toNat_setWidth]
 have:=x.isLt
 exact Nat.mod_eq_of_lt (by omega)
theorem O8 (x:BitVec 32) (n:Nat) (h:n<31):(up (jB x n))/(2:BitVec 64)+((up (jB x n))%(2:BitVec 64))*(2147483648:BitVec 64)=up (jB x (n+1)):=by
 apply BitVec.eq_of_toNat_eq
 have h1:=T0 (jB x n)
 rw [Q9 x n h] at h1
 have:=(jB x n).isLt
 rw [BitVec.toNat_add,BitVec.toNat_mul,BitVec.toNat_udiv,BitVec.toNat_umod,tF,tF, ← h1]
 show ((jB x n).toNat/2+(jB x n).toNat%2*2147483648%2 ^ 64)%2 ^ 64=_
 omega
theorem qg (x:BitVec 32) (n:Nat) (h:n<32):dI (up x) (n:Int)=some (up (jB x n)):=by
 refine cN (Comes.next (c':= .L1 (up (jB x 0)) 0) ?_ ?_)
 ·rw [O0];rfl
 ·refine Comes.upto (step:=ki (up x) (n:Int)) (fun i=> .L1 (up (jB x i)) (i:Int)) n ?_ ?_
  ·intro i hi
   simp only [ki]
   rw [decide_eq_true (by omega),cond_true,af (by unfold bA;omega),O8 x i (by omega)]
   rfl
  ·refine Comes.stop ?_
   simp only [ki]
   rw [decide_eq_false (by omega)];rfl
theorem JQ (x:BitVec 32) (n:Nat) (h:n<32):ng (up x) (n:Int)=some (up (x >>> n)):=by
 refine cN (Comes.next (c':= .L1 (up (x >>> 0)) 0) ?_ ?_)
 ·simp only [iV]
  rw [show x >>> 0=x from BitVec.ushiftRight_zero x]
 ·refine Comes.upto (step:=iV (up x) (n:Int)) (fun i=> .L1 (up (x >>> i)) (i:Int)) n ?_ ?_
  ·intro i hi
   have e:(up (x >>> i))/(2:BitVec 64)=up (x >>> (i+1)):=by
    apply BitVec.eq_of_toNat_eq
    have:=Ra x i
    rw [BitVec.toNat_udiv,tF,tF]
    show (x >>> i).toNat/2=_
    omega
   simp only [iV]
   rw [decide_eq_true (by omega),cond_true,af (by unfold bA;omega),e]
   rfl
  ·refine Comes.stop ?_
   simp only [iV]
   rw [decide_eq_false (by omega)];rfl
theorem Ub (s:List UInt8) (hs:s.length≤1000000):xN s=some (sq s):=by
 have ZY:sn s.length<64:=by unfold sn;omega
 refine cN (Comes.next (c':= .L1 (s++[128])) ?_ ?_)
 ·simp only [fh]
  rw [af (by simp only [List.length_singleton];omega)]
 ·refine Comes.upto (step:=fh s) (fun j=> .L1 (s++128::List.replicate j 0)) (sn s.length) ?_ ?_
  ·intro j hj
   have hl:(s++128::List.replicate j (0:UInt8)).length=s.length+1+j:=by simp;omega
   have e:s++128::List.replicate j (0:UInt8)++[0]=s++128::List.replicate (j+1) 0:=by rw [List.append_assoc,List.cons_append,JO]
   have hne:¬ (((s.length+1+j:Nat):Int).tmod 64=56):=by
    rw [Int.tmod_eq_emod_of_nonneg (by omega)]
    unfold sn at hj
    omega
   simp only [fh]
   rw [hl,decide_eq_false hne,Bool.not_false,cond_true,af (by simp only [List.length_singleton];omega),e]
  ·have hl:(s++128::List.replicate (sn s.length) (0:UInt8)).length=s.length+1+sn s.length:=by simp;omega
   have he:((s.length+1+sn s.length:Nat):Int).tmod 64=56:=by
    rw [Int.tmod_eq_emod_of_nonneg (by omega)]
    unfold sn
    omega
   have hv:BitVec.ofInt 64 ((8:Int)*(s.length:Int))=BitVec.ofNat 64 (s.length*8/256 ^ 0):=by
    apply BitVec.eq_of_toNat_eq
    rw [BitVec.toNat_ofInt,BitVec.toNat_ofNat,Nat.pow_zero,Nat.div_one]
    show (8*(s.length:Int)%(2 ^ 64:Nat)).toNat=_
    omega
   refine Comes.next (c':= .L2 (ux s) (BitVec.ofNat 64 (s.length*8/256 ^ 0)) (DD (s.length*8) 0).reverse 0) ?_ ?_
   ·simp only [fh]
    rw [hl,decide_eq_true he,Bool.not_true,cond_false,af (by unfold bA;omega),hv]
    rfl
   ·have hf0:=CJ s
    refine Comes.upto (step:=fh s) (fun j=> .L2 (ux s) (BitVec.ofNat 64 (s.length*8/256 ^ j)) (DD (s.length*8) j).reverse (j:Int)) 8 ?_ ?_
    ·intro j hj
     have hle:s.length*8/256 ^ j≤s.length*8:=Nat.div_le_self _ _
     have hn:(BitVec.ofNat 64 (s.length*8/256 ^ j)).toNat=s.length*8/256 ^ j:=by
      rw [BitVec.toNat_ofNat];exact Nat.mod_eq_of_lt (by omega)
     have e1:(BitVec.ofNat 64 (s.length*8/256 ^ j))/(256:BitVec 64)=BitVec.ofNat 64 (s.length*8/256 ^ (j+1)):=by
      apply BitVec.eq_of_toNat_eq
      rw [BitVec.toNat_udiv,hn,BitVec.toNat_ofNat, ← div_pow]
      show s.length*8/256 ^ j/256=s.length*8/256 ^ j/256%2 ^ 64
      omega
     have e2:gb ((((BitVec.ofNat 64 (s.length*8/256 ^ j))%(256:BitVec 64)).toNat:Nat):Int)=UInt8.ofNat (s.length*8/256 ^ j):=by
      rw [wm,BitVec.toNat_umod,hn]
      exact tE _
     have hlen:=DE (s.length*8) j
     simp only [fh]
     rw [decide_eq_true (by omega),cond_true,af (by simp only [List.length_singleton,List.length_reverse];omega),af (by unfold bA;omega),e1,e2,T3]
     rfl
    ·have hlen:=DE (s.length*8) 8
     refine Comes.stop ?_
     simp only [fh]
     rw [decide_eq_false (by omega),cond_false,af (by rw [List.length_reverse];omega)]
     rfl
end Go.Proofs.YtlfjfoknbjcncaaGreat.K
namespace Go.Proofs.YtlfjfoknbjcncaaGreat.K
open Go
set_option linter.unusedVariables false
set_option linter.unusedSimpArgs false
theorem FO (x y:BitVec 32):up x^^^up y=up (x^^^y):=by unfold up;exact (BitVec.setWidth_xor).symm
theorem Wz (x y:BitVec 32):up x&&& up y=up (x&&& y):=by unfold up;exact (BitVec.setWidth_and).symm
theorem Yl (x y:BitVec 32):up x||| up y=up (x||| y):=by unfold up;exact (BitVec.setWidth_or).symm
theorem KN (x:BitVec 32):(up x).setWidth 32=x:=by
 apply BitVec.eq_of_toNat_eq
 rw [BitVec.toNat_setWidth,tF]
 exact Nat.mod_eq_of_lt x.isLt
theorem KO (x y:BitVec 64):(x+y).setWidth 32=x.setWidth 32+y.setWidth 32:=BitVec.setWidth_add x y (by omega)
theorem KP (X:BitVec 64):kA X=some (up (X.setWidth 32)):=by
 unfold kA
 refine congrArg some (BitVec.eq_of_toNat_eq ?_)
 rw [BitVec.toNat_umod,tF,BitVec.toNat_setWidth]
 rfl
theorem WA (x:BitVec 32):(4294967295:BitVec 64)-up x=up (~~~x):=by
 apply BitVec.eq_of_toNat_eq
 rw [BitVec.toNat_sub,tF,tF,BitVec.toNat_not]
 have:=x.isLt
 show (2 ^ 64-x.toNat+4294967295)%2 ^ 64=_
 omega
theorem pK (l:List Wd) (i:Nat):idx (l.map up) (i:Int)=up (l.getD i 0):=by
 rw [gZ,List.getD_eq_getElem?_getD,List.getElem?_map,List.getD_eq_getElem?_getD]
 cases l[i]? <;>rfl
theorem ZZ (l:List (BitVec 64)) (k:List Wd) (i:Nat) (h:i<64) (hl:l.length=64) (e:l=k.map up):gO (0≤(i:Int)∧(i:Int)<(l.length:Int)) (some (idx l (i:Int)))=some (up (k.getD i 0)):=by
 rw [af (by omega),e,pK]
theorem Ym:([1116352408,1899447441,3049323471,3921009573,961987163,1508970993,2453635748,2870763221,3624381080,310598401,607225278,1426881987,1925078388,2162078206,2614888103,3248222580,3835390401,4022224774,264347078,604807628,770255983,1249150122,1555081692,1996064986,2554220882,2821834349,2952996808,3210313671,3336571891,3584528711,113926993,338241895,666307205,773529912,1294757372,1396182291,1695183700,1986661051,2177026350,2456956037,2730485921,2820302411,3259730800,3345764771,3516065817,3600352804,4094571909,275423344,430227734,506948616,659060556,883997877,958139571,1322822218,1537002063,1747873779,1955562222,2024104815,2227730452,2361852424,2428436474,2756734187,3204031479,3329325298]:List (BitVec 64))=Fe.map up:=by
 unfold Fe up
 simp only [List.map_cons,List.map_nil,BitVec.reduceSetWidth,BitVec.ofNat_eq_ofNat]
theorem Z0 (i:Nat) (h:i<64):za (i:Int)=some (up (Fe.getD i 0)):=ZZ _ Fe i h rfl Ym
theorem Rk (h:List Wd) (s:List UInt8) (hh:h.length=8) (hs:s.length=64):wh (h.map up) s=some ((sk h s).map up):=by
 have t6:∀ x,dI (up x) 6=some (up (jB x 6)):=fun x=>qg x 6 (by omega)
 have t7:∀ x,dI (up x) 7=some (up (jB x 7)):=fun x=>qg x 7 (by omega)
 have t18:∀ x,dI (up x) 18=some (up (jB x 18)):=fun x=>qg x 18 (by omega)
 have t17:∀ x,dI (up x) 17=some (up (jB x 17)):=fun x=>qg x 17 (by omega)
 have t19:∀ x,dI (up x) 19=some (up (jB x 19)):=fun x=>qg x 19 (by omega)
 have t11:∀ x,dI (up x) 11=some (up (jB x 11)):=fun x=>qg x 11 (by omega)
 have t25:∀ x,dI (up x) 25=some (up (jB x 25)):=fun x=>qg x 25 (by omega)
 have t2:∀ x,dI (up x) 2=some (up (jB x 2)):=fun x=>qg x 2 (by omega)
 have t13:∀ x,dI (up x) 13=some (up (jB x 13)):=fun x=>qg x 13 (by omega)
 have t22:∀ x,dI (up x) 22=some (up (jB x 22)):=fun x=>qg x 22 (by omega)
 have s3:∀ x,ng (up x) 3=some (up (x >>> 3)):=fun x=>JQ x 3 (by omega)
 have s10:∀ x,ng (up x) 10=some (up (x >>> 10)):=fun x=>JQ x 10 (by omega)
 have Z1:∀ i,((jW s i).map up).length=i:=fun i=>by rw [List.length_map,wA]
 have hwn:∀ i,(jW s i).map up++[up (pW s i)]=(jW s (i+1)).map up:=fun i=>by rw [Fc,List.map_append];rfl
 refine cN (Comes.next (c':= .L1 ((jW s 0).map up) ((0:Nat):Int)) rfl ?_)
 refine Comes.TF (step:=bW (h.map up) s) (fun i=> .L1 ((jW s i).map up) (i:Int)) 64 ?_ ?_
 ·intro i hi hn
  have hJ:Comes (bW (h.map up) s) (.J2 ((jW s (i+1)).map up) (i:Int)) ((sk h s).map up):=by
   refine Comes.next ?_ hn
   simp only [bW]
   rw [af (by unfold bA;omega)]
   rfl
  have hl:=Z1 i
  by_cases AF:i<16
  ·refine Comes.next (c':= .L3 ((jW s i).map up) (i:Int) (BitVec.ofNat 64 (HY s (4*i) 0)) ((4*i+0:Nat):Int)) ?_ ?_
   ·simp only [bW]
    rw [decide_eq_true (by omega),cond_true,decide_eq_true (by omega),cond_true,af (by unfold bA;omega)]
    rfl
   ·refine Comes.upto (step:=bW (h.map up) s) (fun j=> .L3 ((jW s i).map up) (i:Int) (BitVec.ofNat 64 (HY s (4*i) j)) ((4*i+j:Nat):Int)) 4 ?_ ?_
    ·intro j hj
     have e:(256:BitVec 64)*BitVec.ofNat 64 (HY s (4*i) j)+BitVec.ofInt 64 ((idx s ((4*i+j:Nat):Int)).toNat:Int)=BitVec.ofNat 64 (HY s (4*i) (j+1)):=by
      apply BitVec.eq_of_toNat_eq
      have h1:=KM s (4*i) j (by omega)
      have h2:=KM s (4*i) (j+1) (by omega)
      have h3:HY s (4*i) (j+1)=256*HY s (4*i) j+(s.getD (4*i+j) 0).toNat:=rfl
      have h4:idx s ((4*i+j:Nat):Int)=s.getD (4*i+j) 0:=gZ _ _
      have h5:=m7 (s.getD (4*i+j) 0)
      rw [h4,BitVec.toNat_add,BitVec.toNat_mul,BitVec.toNat_ofNat,BitVec.toNat_ofNat,BitVec.toNat_ofInt,h3]
      show (256*(HY s (4*i) j%2 ^ 64)%2 ^ 64+(((s.getD (4*i+j) 0).toNat:Int)%(2 ^ 64:Nat)).toNat)%2 ^ 64=_
      omega
     simp only [bW]
     rw [af (by unfold bA;omega),af (by unfold bA;omega),decide_eq_true (by omega),cond_true,af (by omega),af (by unfold bA;omega),e]
     rfl
    ·have e:BitVec.ofNat 64 (HY s (4*i) 4)=up (pW s i):=by
      apply BitVec.eq_of_toNat_eq
      have h1:=Rf (s:=s) AF (rfl:4=4)
      have h2:=KM s (4*i) 4 (by omega)
      rw [tF,BitVec.toNat_ofNat]
      omega
     refine Comes.next ?_ hJ
     simp only [bW]
     rw [af (by unfold bA;omega),af (by unfold bA;omega),decide_eq_false (by omega),cond_false,af (by rw [hl];simp only [List.length_singleton];omega),e,hwn]
  ·have d16:(i:Int)-16=((i-16:Nat):Int):=by omega
   have d15:(i:Int)-15=((i-15:Nat):Int):=by omega
   have d7:(i:Int)-7=((i-7:Nat):Int):=by omega
   have d2:(i:Int)-2=((i-2:Nat):Int):=by omega
   refine Comes.next ?_ hJ
   simp only [bW]
   rw [decide_eq_true (by omega),cond_true,decide_eq_false (by omega),cond_false,d16,d15,d7,d2,af (by unfold bA;omega),af (by omega),af (by unfold bA;omega),af (by omega)]
   simp only [pK,t7,t18,s3,t17,t19,s10,Option.bind_some]
   rw [af (by unfold bA;omega),af (by omega),af (by unfold bA;omega),af (by omega)]
   simp only [FO,KP,KO,KN,Option.bind_some]
   rw [Yj (by omega),af (by rw [hl];simp only [List.length_singleton];omega),hwn]
 ·refine Comes.next (c':= .L4 ((jW s 64).map up) ((uf s h 0).map up) ((0:Nat):Int)) ?_ ?_
  ·simp only [bW]
   rw [decide_eq_false (by omega),cond_false,af (by simp only [List.length_nil,List.length_map];omega)]
   rfl
  ·refine Comes.upto (step:=bW (h.map up) s) (fun i=> .L4 ((jW s 64).map up) ((uf s h i).map up) (i:Int)) 64 ?_ ?_
   ·intro i hi
    have hv:((uf s h i).map up).length=8:=by rw [List.length_map,yF s h i hh]
    have hl:=Z1 64
    have i0:∀ l:List Wd,idx (l.map up) (0:Int)=up (l.getD 0 0):=fun l=>pK l 0
    have i1:∀ l:List Wd,idx (l.map up) (1:Int)=up (l.getD 1 0):=fun l=>pK l 1
    have i2:∀ l:List Wd,idx (l.map up) (2:Int)=up (l.getD 2 0):=fun l=>pK l 2
    have i3:∀ l:List Wd,idx (l.map up) (3:Int)=up (l.getD 3 0):=fun l=>pK l 3
    have i4:∀ l:List Wd,idx (l.map up) (4:Int)=up (l.getD 4 0):=fun l=>pK l 4
    have i5:∀ l:List Wd,idx (l.map up) (5:Int)=up (l.getD 5 0):=fun l=>pK l 5
    have i6:∀ l:List Wd,idx (l.map up) (6:Int)=up (l.getD 6 0):=fun l=>pK l 6
    have i7:∀ l:List Wd,idx (l.map up) (7:Int)=up (l.getD 7 0):=fun l=>pK l 7
    simp only [bW,hv,hl]
    rw [decide_eq_true (by omega),cond_true]
    iterate 9 rw [af (by omega)]
    simp only [i0,i1,i2,i3,i4,i5,i6,i7,t6,t11,t25,Z0 i hi,Option.bind_some]
    rw [af (by omega)]
    simp only [WA,pK,qP hi,FO,Wz,Yl]
    simp only [KP]
    simp only [KO,KN]
    rw [Option.bind_some,t2,Option.bind_some,t13,Option.bind_some,t22,Option.bind_some,FO,FO,Option.bind_some,Option.bind_some]
    iterate 4 rw [af (by omega)]
    rw [Option.bind_some]
    simp only [KN]
    iterate 3 rw [af (by omega)]
    rw [af (by unfold bA;omega),T1,T2,O3]
    rfl
   ·refine Comes.next (c':= .L5 ((uf s h 64).map up) ((DG h (uf s h 64) 0).map up) ((0:Nat):Int)) ?_ ?_
    ·simp only [bW]
     rw [decide_eq_false (by omega),cond_false]
     rfl
    ·refine Comes.upto (step:=bW (h.map up) s) (fun i=> .L5 ((uf s h 64).map up) ((DG h (uf s h 64) i).map up) (i:Int)) 8 ?_ ?_
     ·intro i hi
      have hv:((uf s h 64).map up).length=8:=by rw [List.length_map,yF s h 64 hh]
      have ho:((DG h (uf s h 64) i).map up).length=i:=by rw [List.length_map,Rg]
      simp only [bW,hv,ho,List.length_map,hh,pK,KP,KO,KN]
      rw [decide_eq_true (by omega),cond_true,af (by omega),af (by omega),Option.bind_some,af (by simp only [List.length_singleton];omega),af (by unfold bA;omega),O5,List.map_append]
      rfl
     ·refine Comes.stop ?_
      simp only [bW]
      rw [decide_eq_false (by omega),cond_false,O6 h s hh]
end Go.Proofs.YtlfjfoknbjcncaaGreat.K
namespace Go.Proofs.YtlfjfoknbjcncaaGreat.K
open Go
set_option linter.unusedVariables false
set_option linter.unusedSimpArgs false
theorem PJ (s t:List UInt8) (ht:t.length≤2000000) (r:List UInt8):∀ (k j:Nat) (h:List Wd),h.length=8→t.length=64*(j+k)→(∀ g:List Wd,g.length=8→sr h (t.drop (64*j))=g→Comes (dO s) (.L2 (g.map up) [] 0) r)→Comes (dO s) (.L1 (h.map up) t ((64*j:Nat):Int)) r
 | 0,j,h,hh,hl,hr=>by
  have e:t.drop (64*j)=[]:=List.drop_of_length_le (by omega)
  refine Comes.next ?_ (hr h hh (DF rfl e).symm)
  simp only [dO]
  rw [decide_eq_false (by omega),cond_false]
 | k+1,j,h,hh,hl,hr=>by
  have hB:=Rk h ((t.drop (64*j)).take 64) hh (by rw [List.length_take,List.length_drop];omega)
  have hs:sub t ((64*j:Nat):Int) (((64*j:Nat):Int)+64)=(t.drop (64*j)).take 64:=by
   rw [show ((64*j:Nat):Int)+64=((64*j+64:Nat):Int) by omega,TG,show 64*j+64-64*j=64 by omega]
  have e:(t.drop (64*j)).drop 64=t.drop (64*(j+1)):=by rw [List.drop_drop];congr 1
  refine Comes.next (c':= .L1 ((sk h ((t.drop (64*j)).take 64)).map up) t ((64*(j+1):Nat):Int)) ?_ (PJ s t ht r k (j+1) _ (KL hh) (by omega) (fun g hg hgf=>hr g hg ?_))
  ·simp only [dO]
   rw [decide_eq_true (by omega),cond_true,af (by unfold bA;omega),af (by omega),hs,hB,Option.bind_some,af (by unfold bA;omega),show ((64*j:Nat):Int)+64=((64*(j+1):Nat):Int) by omega]
  ·rw [BT h (by rw [List.length_drop];omega),e];exact hgf
theorem WB (s:List UInt8) (g:List Wd) (hg:g.length=8):Comes (dO s) (.L2 (g.map up) ((List.range 0).map (uK g)) ((0:Nat):Int)) ((List.range 32).map (uK g)):=by
 refine Comes.TF (step:=dO s) (fun i=> .L2 (g.map up) ((List.range i).map (uK g)) (i:Int)) 32 ?_ ?_
 ·intro i hi hn
  have q1:(i:Int).tdiv 4=((i/4:Nat):Int):=by rw [Int.tdiv_eq_ediv_of_nonneg (by omega)];omega
  have q2:(i:Int).tmod 4=((i%4+0:Nat):Int):=by rw [Int.tmod_eq_emod_of_nonneg (by omega)];omega
  have hx:=(g.getD (i/4) 0).isLt
  have hm:(g.map up).length=8:=by rw [List.length_map,hg]
  refine Comes.next (c':= .L3 (g.map up) ((List.range i).map (uK g)) (i:Int) (BitVec.ofNat 64 ((g.getD (i/4) 0).toNat/256 ^ 0)) ((i%4+0:Nat):Int)) ?_ ?_
  ·have e:up (g.getD (i/4) 0)=BitVec.ofNat 64 ((g.getD (i/4) 0).toNat/256 ^ 0):=by
    apply BitVec.eq_of_toNat_eq
    rw [tF,BitVec.toNat_ofNat,Nat.pow_zero,Nat.div_one]
    exact (Nat.mod_eq_of_lt (by omega)).symm
   simp only [dO,hm,q1,q2,pK,e]
   rw [decide_eq_true (by omega),cond_true,af ⟨by decide,by unfold bA;omega⟩,af (by omega)]
  ·refine Comes.upto (step:=dO s) (fun m=> .L3 (g.map up) ((List.range i).map (uK g)) (i:Int) (BitVec.ofNat 64 ((g.getD (i/4) 0).toNat/256 ^ m)) ((i%4+m:Nat):Int)) (3-i%4) ?_ ?_
   ·intro m hm
    have hle:(g.getD (i/4) 0).toNat/256 ^ m≤(g.getD (i/4) 0).toNat:=Nat.div_le_self _ _
    have e:(BitVec.ofNat 64 ((g.getD (i/4) 0).toNat/256 ^ m))/(256:BitVec 64)=BitVec.ofNat 64 ((g.getD (i/4) 0).toNat/256 ^ (m+1)):=by
     apply BitVec.eq_of_toNat_eq
     rw [BitVec.toNat_udiv,BitVec.toNat_ofNat,BitVec.toNat_ofNat, ← div_pow]
     generalize (g.getD (i/4) 0).toNat/256 ^ m=q at hle
     show q%2 ^ 64/256=q/256%2 ^ 64
     omega
    simp only [dO]
    rw [decide_eq_true (by omega),cond_true,af (by unfold bA;omega),e]
    rfl
   ·have hle:(g.getD (i/4) 0).toNat/256 ^ (3-i%4)≤(g.getD (i/4) 0).toNat:=Nat.div_le_self _ _
    have e:gb (((BitVec.ofNat 64 ((g.getD (i/4) 0).toNat/256 ^ (3-i%4))%(256:BitVec 64)).toNat:Nat):Int)=uK g i:=by
     rw [wm,BitVec.toNat_umod,BitVec.toNat_ofNat, ← T4]
     generalize (g.getD (i/4) 0).toNat/256 ^ (3-i%4)=q at hle
     rw [Nat.mod_eq_of_lt (show q<2 ^ 64 by omega)]
     exact tE q
    have hl:((List.range i).map (uK g)).length=i:=by simp
    refine Comes.next ?_ hn
    simp only [dO,e,hl]
    rw [decide_eq_false (by omega),cond_false,af (by simp only [List.length_singleton];omega),af (by unfold bA;omega),List.range_succ,List.map_append]
    rfl
 ·refine Comes.stop ?_
  simp only [dO]
  rw [decide_eq_false (by omega),cond_false]
theorem WC (s:List UInt8) (hs:s.length≤1000000):Az s=some (Ff s):=by
 have hF:=HX s
 refine cN (Comes.next (c':= .L1 (ME.map up) (sq s) ((64*0:Nat):Int)) ?_ ?_)
 ·simp only [dO]
  rw [Ub s hs,Option.bind_some]
  rfl
 ·refine PJ s (sq s) (by omega) _ ((sq s).length/64) 0 ME rfl (by omega) fun g hg e=>?_
  have:WZ s=g:=by rw [← e];rfl
  rw [Ff,this]
  exact WB s g hg
def cl (l:List (List UInt8)) (j k:Nat):Prop:=Ff (idx l (j:Int))=Ff (idx l (k:Int))∧idx l (j:Int)≠idx l (k:Int)
end Go.Proofs.YtlfjfoknbjcncaaGreat.K
