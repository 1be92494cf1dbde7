/- Packages rlp and nib: what they reckon. -/
import Derived.Test.YtlfjfoknbjcncaaGreatHG3
import Derived.Test.YtlfjfoknbjcncaaGreatRows
import Derived.KernelRfl
namespace Go.Proofs.YtlfjfoknbjcncaaGreat.K
open Go Go.RowKit
set_option linter.unusedSimpArgs false
set_option linter.unusedVariables false
set_option maxRecDepth 20000
set_option maxHeartbeats 4000000
namespace TT
theorem Dd:mw Tryz.prog 28=some (32,1,false):=by kernel_rfl
theorem nT:mw Tryz.prog 9=none:=by kernel_rfl
theorem Qg:p8 Tryz.prog 145=some ([Value.int IntKind.i64 0], .inl [(0,1)]):=by kernel_rfl
theorem x9:p8 Tryz.prog 82=some ([Value.bool false,Value.string ⟨#[]⟩,Value.slice none 0 0], .inl [(0,1),(1,1),(2,1)]):=by kernel_rfl
theorem EU:aP Tryz.prog 100=true:=by kernel_rfl
theorem LG:aP Tryz.prog 101=true:=by kernel_rfl
theorem LH:aP Tryz.prog 109=true:=by kernel_rfl
theorem wZ:aP Tryz.prog 110=true:=by kernel_rfl
theorem EV:aP Tryz.prog 117=true:=by kernel_rfl
theorem LI:aP Tryz.prog 118=true:=by kernel_rfl
theorem qD:aP Tryz.prog 54=true:=by kernel_rfl
theorem GC:aP Tryz.prog 74=true:=by kernel_rfl
theorem yR:aP Tryz.prog 79=true:=by kernel_rfl
theorem GD:aP Tryz.prog 80=true:=by kernel_rfl
theorem GF:aP Tryz.prog 81=true:=by kernel_rfl
theorem yS:aP Tryz.prog 82=true:=by kernel_rfl
theorem NJ:aP Tryz.prog 95=true:=by kernel_rfl
theorem NK:aP Tryz.prog 96=true:=by kernel_rfl
theorem yT:aP Tryz.prog 98=true:=by kernel_rfl
theorem fD:aP Tryz.prog 99=true:=by kernel_rfl
theorem Ab:mu Tryz.prog 125 0=some (0,1,false):=by kernel_rfl
theorem LJ:mu Tryz.prog 145 0=some (0,1,false):=by kernel_rfl
theorem vB:mu Tryz.prog 82 0=some (0,1,false):=by kernel_rfl
theorem jD:mu Tryz.prog 82 1=some (1,1,false):=by kernel_rfl
theorem mV:mu Tryz.prog 82 2=some (2,1,false):=by kernel_rfl
theorem De:vq Tryz.prog 145=true:=by kernel_rfl
theorem Sj:Tryz.f100.results.toList=[.tmp 4]:=rfl
theorem Sk:Tryz.f101.results.toList=[.cell 2 82, .tmp 3, .cell 4 34]:=rfl
theorem Sl:Tryz.f109.results.toList=[.tmp 4]:=rfl
theorem Sm:Tryz.f110.results.toList=[.cell 6 82, .tmp 7]:=rfl
theorem Sn:Tryz.f114.results.toList=[.tmp 2, .tmp 3, .tmp 4]:=rfl
theorem So:Tryz.f117.results.toList=[.tmp 4, .tmp 5]:=rfl
theorem Sp:Tryz.f118.results.toList=[]:=rfl
theorem Ut:Tryz.f27.results.toList=[.tmp 2]:=rfl
theorem Uu:Tryz.f43.results.toList=[.tmp 2]:=rfl
theorem Uv:Tryz.f47.results.toList=[.tmp 4]:=rfl
theorem Uw:Tryz.f51.results.toList=[.tmp 4, .tmp 5]:=rfl
theorem Ux:Tryz.f52.results.toList=[.tmp 2, .cell 3 34]:=rfl
theorem Uy:Tryz.f53.results.toList=[.cell 2 82]:=rfl
theorem Uz:Tryz.f54.results.toList=[.cell 2 82]:=rfl
theorem UA:Tryz.f74.results.toList=[.tmp 2]:=rfl
theorem UB:Tryz.f79.results.toList=[.tmp 2]:=rfl
theorem UC:Tryz.f80.results.toList=[.tmp 2]:=rfl
theorem Pf:Tryz.f81.results.toList=[]:=rfl
theorem UD:Tryz.f82.results.toList=[.tmp 6]:=rfl
theorem UE:Tryz.f83.results.toList=[.cell 2 82, .tmp 3]:=rfl
theorem UF:Tryz.f95.results.toList=[.tmp 4]:=rfl
theorem UG:Tryz.f96.results.toList=[.tmp 2]:=rfl
theorem UH:Tryz.f98.results.toList=[]:=rfl
theorem UI:Tryz.f99.results.toList=[]:=rfl
theorem A5:oH Tryz.prog 143=some (1,24):=by kernel_rfl
theorem e8:oH Tryz.prog 49=some (1,1):=by kernel_rfl
theorem rN:oH Tryz.prog 80=some (3,48):=by kernel_rfl
theorem Qh:mz Tryz.prog 143=some (1,24,false):=by kernel_rfl
theorem ek:mz Tryz.prog 49=some (1,1,false):=by kernel_rfl
theorem Ac:mz Tryz.prog 80=some (3,48,true):=by kernel_rfl
theorem Sq:jS Tryz.prog 145=some (true,1):=by kernel_rfl
theorem jE:jS Tryz.prog 28=some (true,32):=by kernel_rfl
theorem mW:jS Tryz.prog 3=some (false,1):=by kernel_rfl
theorem kr:jS Tryz.prog 34=some (false,1):=by kernel_rfl
theorem GG:jS Tryz.prog 4=some (false,1):=by kernel_rfl
theorem fh:jS Tryz.prog 49=some (false,1):=by kernel_rfl
theorem jx:jS Tryz.prog 5=some (false,1):=by kernel_rfl
theorem tv:jS Tryz.prog 80=some (false,1):=by kernel_rfl
theorem eC:jS Tryz.prog 82=some (true,3):=by kernel_rfl
theorem fJ:jS Tryz.prog 9=some (false,1):=by kernel_rfl
theorem NL:Program.underlying Tryz.prog 143=some (.slice 49):=by kernel_rfl
theorem Eb:Program.underlying Tryz.prog 20=some (.interface #[]):=by kernel_rfl
theorem kC:Program.underlying Tryz.prog 3=some (.int .i64):=by kernel_rfl
theorem bA:Program.underlying Tryz.prog 49=some (.slice 5):=by kernel_rfl
theorem dR:Program.underlying Tryz.prog 5=some (.int .u8):=by kernel_rfl
theorem q7:Program.underlying Tryz.prog 80=some (.slice 82):=by kernel_rfl
theorem bY:Program.underlying Tryz.prog 9=some (.string):=by kernel_rfl
theorem GH:mb Tryz.prog 125=some [Value.int IntKind.i64 0]:=by kernel_rfl
theorem NM:mb Tryz.prog 145=some [Value.int IntKind.i64 0]:=by kernel_rfl
theorem ya:mb Tryz.prog 34=some [Value.int IntKind.i64 0]:=by kernel_rfl
theorem Qi:mb Tryz.prog 49=some [Value.slice none 0 0]:=by kernel_rfl
theorem mj:mb Tryz.prog 82=some [Value.bool false,Value.string ⟨#[]⟩,Value.slice none 0 0]:=by kernel_rfl
end TT
theorem dc:Tryz.prog.follows .mixedOrders=true:=by kernel_rfl
inductive aa where
 | nil
 | node (GI:Int) (GJ:(List UInt8)) (Df:(List UInt8)) (Ec:Fin 16→aa) (LK:(List UInt8))
instance:Inhabited aa:=⟨.nil⟩
def aa.isNil:aa→Bool
 | .nil=>true
 | .node .. =>false
def yc:aa→List D
 | .nil=>[]
 | .node GI GJ Df Ec LK=>(([.val (.int .i64 GI), .slice (GJ.map U), .val (sV Df)])++((List.ofFn fun i=>D.l7 (Ec i).isNil (yc (Ec i)))++([.val (sV LK)])))
def af (x:aa):D:= .l7 x.isNil (yc x)
structure part where
 aZ:Int
 bE:(List UInt8)
 dK:(List UInt8)
 bZ:(aE 16 aa)
 vC:(List UInt8)
 deriving Inhabited
def ja (x:part):List D:=[.val (.int .i64 (x.aZ)), .slice ((x.bE).map U), .val (sV (x.dK))]++((x.bZ).1.map af++([.val (sV (x.vC))]))
def Xc (x:part):D:= .agg (ja x)
theorem Jd:sC Xc ja 20:=⟨fun _=>rfl,fun x=>by simp [ja,x.bZ.2]⟩
theorem kD (x:part):c8 false 1 ((ja x).drop 0) (.val (.int .i64 (x.aZ))):=c8.one
theorem iP (x:part):c8 false 1 ((ja x).drop 1) (.slice ((x.bE).map U)):=c8.one
theorem w4 (x:part):c8 false 1 ((ja x).drop 2) (.val (sV (x.dK))):=c8.one
theorem Ad (x:part):c8 true 16 ((ja x).drop 3) (.agg ((x.bZ).1.map af)):=x7 3 0 rfl (Gy (show ((x.bZ).1.map af).length=16 by rw [List.length_map,x.bZ.2]))
theorem nG (x:part):Pre ((ja x).drop 3) af x.bZ:=I5 3 0 rfl ND
theorem LL (x:part):c8 false 1 ((ja x).drop 19) (.val (sV (x.vC))):=x7 3 16 rfl (x7 16 0 (show ((x.bZ).1.map af).length=16 by rw [List.length_map,x.bZ.2]) (c8.one))
def aa.of (x:part):aa:= .node x.aZ x.bE x.dK (fun i=>x.bZ.1.getD i.1 .nil) x.vC
def aa.at:aa→part
 | .nil=>default
 | .node GI GJ Df Ec LK=>⟨GI,GJ,Df,⟨List.ofFn Ec,by simp⟩,LK⟩
theorem tO (x:part):ja x=yc (.of x):=by
 have Xd:List.ofFn (fun i:Fin 16=>af (x.bZ.1.getD i.1 .nil))=x.bZ.1.map af:=Qd af .nil x.bZ
 simp only [ja,aa.of,yc]
 rw [← Xd]
 rfl
theorem LM {p:aa} (h:p.isNil=false):yc p=ja p.at:=by
 cases p with
 | nil=>cases h
 | node GI GJ Df Ec LK=>
  simp only [ja,aa.at,yc,List.map_ofFn]
  rfl
theorem dI {p:aa} (h:p.isNil=false):PV.d (af p)= .d (.l7 false (ja p.at)):=by
 rw [← LM h, ← h];rfl
structure Tree where
 fp:aa
 deriving Inhabited
def dz (x:Tree):List D:=[af (x.fp)]
def lq (x:Tree):D:= .agg (dz x)
theorem Qj (x:Tree):lq x= .agg (dz x):=rfl
theorem Je:sC lq dz 1:=⟨fun _=>rfl,fun _=>rfl⟩
structure bt where
 ct:(aE 32 UInt8)
 az:(List UInt8)
 deriving Inhabited
def fm (x:bt):List D:=((x.ct).1.map U)++[.val (sV (x.az))]
def bp (x:bt):D:= .agg (fm x)
theorem yd (x:bt):bp x= .agg (fm x):=rfl
theorem cy:sC bp fm 33:=⟨fun _=>rfl,fun x=>by simp [fm,x.ct.2]⟩
theorem nH (x:bt):c8 true 32 ((fm x).drop 0) (.agg ((x.ct).1.map U)):=Gy (show ((x.ct).1.map U).length=32 by rw [List.length_map,x.ct.2])
theorem LN (x:bt) (v:(aE 32 UInt8)):l6 ((fm x).map PV.d) 0 ((v.1.map U).map PV.d)=(fm {x with ct:=v}).map PV.d:=NF (show ((x.ct).1.map U).length=32 by rw [List.length_map,x.ct.2]) (show (v.1.map U).length=32 by rw [List.length_map,v.2])
theorem tP (x:bt):c8 false 1 ((fm x).drop 32) (.val (sV (x.az))):=x7 32 0 (show ((x.ct).1.map U).length=32 by rw [List.length_map,x.ct.2]) (c8.one)
theorem LO (x:bt) (v:(List UInt8)):l6 ((fm x).map PV.d) 32 [PV.d (.val (sV v))]=(fm {x with az:=v}).map PV.d:=P4 32 0 (show ((x.ct).1.map U).length=32 by rw [List.length_map,x.ct.2]) rfl
structure Node where
 bf:Int
 av:(List UInt8)
 az:(List UInt8)
 aR:(aE 16 (List UInt8))
 deriving Inhabited
def cNode (x:Node):List D:=([.val (.int .i64 (x.bf)), .slice ((x.av).map U), .val (sV (x.az))])++((x.aR).1.map eS)
def Xe (x:Node):D:= .agg (cNode x)
theorem ve:sC Xe cNode 19:=⟨fun _=>rfl,fun x=>by simp [cNode,x.aR.2]⟩
theorem q8 (x:Node):c8 false 1 ((cNode x).drop 0) (.val (.int .i64 (x.bf))):=c8.one
theorem oM (x:Node):c8 false 1 ((cNode x).drop 1) (.slice ((x.av).map U)):=c8.one
theorem q9 (x:Node):c8 false 1 ((cNode x).drop 2) (.val (sV (x.az))):=c8.one
theorem LP (x:Node):c8 true 16 ((cNode x).drop 3) (.agg ((x.aR).1.map eS)):=x7 3 0 rfl (qa (show ((x.aR).1.map eS).length=16 by rw [List.length_map,x.aR.2]))
theorem ri (x:Node):Pre ((cNode x).drop 3) eS x.aR:=I5 3 0 rfl (Pre.all _)
theorem GK (x:Node):∀ d∈cNode x,d.flat=true:=(P5 (Cc rfl (Cc rfl (Cc rfl P6))) (I2 _ (fun _=>rfl)))
structure fail where
 fe:Int
 deriving Inhabited
def NN (x:fail):List D:=[.val (.int .i64 (x.fe))]
structure counter where
 fn:Int
 deriving Inhabited
structure Item where
 cF:Bool
 fS:(List UInt8)
 fL:(List Item)
instance:Inhabited Item:=⟨⟨default,default,[]⟩⟩
mutual
def bu:Item→D
 | ⟨x0,x1,x2⟩=> .agg [.val (.bool x0), .val (sV x1), .slice (Dg x2)]
def Dg:List Item→List D
 | []=>[]
 | x::r=>bu x::Dg r
end
theorem EW:∀ l:List Item,Dg l=l.map bu
 | []=>by simp [Dg]
 | x::r=>by simp [Dg,EW r]
def dA (x:Item):List D:=([.val (.bool (x.cF)), .val (sV (x.fS)), .slice ((x.fL).map bu)])
theorem vf (x:Item):bu x= .agg (dA x):=by
 cases x;simp [bu,dA,EW]
theorem kQ:sC bu dA 3:=⟨fun x=>by rw [vf];rfl,fun _=>rfl⟩
structure In where
 av:(List UInt8)
 az:(List UInt8)
 deriving Inhabited
def Sr (x:In):List D:=([.slice ((x.av).map U), .val (sV (x.az))])
def ee (x:In):D:= .agg (Sr x)
theorem Ko (x:In):ee x= .agg (Sr x):=rfl
theorem lu:sC ee Sr 2:=⟨fun _=>rfl,fun _=>rfl⟩
structure Act where
 bf:Int
 ct:(aE 32 UInt8)
 az:(List UInt8)
 deriving Inhabited
inductive Ae where
 | S
 | L1 (v3:(List UInt8)) (v7:Int)
noncomputable def lO (k0:(aE 32 UInt8)):Ae→Option (Ae⊕(List UInt8))
 | .S=>
  some (.inl (.L1 ([]:(List UInt8)) (0)))
 | .L1 v3 v7=>
  (bif (decide (v7<(32:Int))) then
  gO (0≤v7∧v7<((32:Nat):Int)) (
  gO ((v3.length+([(mU (idx k0.1 v7) (4:Int)),((idx k0.1 v7)&&& (15:UInt8))]:List UInt8).length)*1≤140737488355328) (
  gO (bw (v7+(1:Int))) (
  some (.inl (.L1 (v3++([(mU (idx k0.1 v7) (4:Int)),((idx k0.1 v7)&&& (15:UInt8))]:List UInt8)) (v7+(1:Int)))))))
  else
  some (.inr v3))
noncomputable def rj (k0:(aE 32 UInt8)):Option (List UInt8):=g9 (lO k0) .S
theorem xD (k0:(aE 32 UInt8)) (r:(List UInt8)) (h:rj k0=some r):bI Tryz.prog 27 [.agg (k0.1.map U)] (.slice (r.map U)):=by
 refine bI.aU Tryz.func27 rfl (by simp [Tryz.ntmps27]) ?_
 rw [Tryz.ntmps27,TT.Ut]
 refine QW.view (s':=⟨aG [(0, .d (.agg (k0.1.map U)))],aj [],0,[]⟩) (View.init (by rfl)) zL ?_
 replace h:=cL h
 obtain ⟨_,h⟩:=h
 obtain ⟨dm,rfl,h9⟩:=aQ h;replace h:=h9;clear h9;rw [lO] at h
 refine sR ?_
 refine XK.fz (some 1) rfl rfl (fl (ds:=k0.1.map U) rfl rfl rfl rfl cH ?_)
 refine xz 2 (.full (([]:(List UInt8)).map U)) ?_
 refine sR ?_
 refine xz 3 (.full (([]:(List UInt8)).map U)) ?_
 refine QW.seq ?_
 refine sR ?_
 refine xs 6 rfl (aC (d:= .agg (k0.1.map U)) rfl TT.jE rfl (qa (by rw [List.length_map,k0.2])) ?_)
 refine xm 7 (pI (0)) ?_
 refine XK.nz ?_
 refine QW.block ?_
 refine QW.loop (fun k σ=>∃ v3:(List UInt8),∃ v7:Int,k≤dm∧run (lO k0) k (.L1 v3 v7)=some r∧σ=⟨aG [(3, .own 0 (v3.map U)),(6, .d (.agg (k0.1.map U))),(7,pI v7)],aj [.spare 1 v3.length],1,[]⟩) dm zL ⟨⟨aG [(3, .own 0 (([]:(List UInt8)).map U)),(6, .d (.agg (k0.1.map U))),(7,pI (0))],aj [.spare 1 ([]:(List UInt8)).length],1,[]⟩,View.trans (View.buf 3 1 rfl zL) (View.mk 1 [0] _ _ _ rfl rfl (by decide) (iC (iC (iC trivial))) (And.intro rfl trivial) rfl zL rfl),([]:(List UInt8)),0,Nat.le_refl _,jG h,rfl⟩ ?_
 rintro rO _ ⟨v3,v7,rP,h,rfl⟩
 obtain ⟨k_1,rfl,h9⟩:=aQ h;replace h:=h9;clear h9;rw [lO] at h
 refine sR ?_
 refine xs 8 rfl (cJ (a:=v7) (b:=(32:Int)) rfl rfl rfl ?_)
 refine XK.nz ?_
 refine QW.seq ?_
 refine QW.cond (t:=(decide (v7<(32:Int)))) rfl zL (fun cB=>?_) (fun cB=>?_)
 ·replace h:=fF h cB
  refine QW.skip zL (aX ?_)
  refine QW.seq ?_
  refine QW.block ?_
  refine sR ?_
  obtain ⟨dS,h⟩:=gG h
  refine xs 9 rfl (x5 (a:=k0) (i:=v7) rfl TT.Dd rfl rfl dS ?_)
  refine xz 5 (.d (.val (.int .u8 ((idx k0.1 v7).toNat:Int)))) ?_
  refine rG ?_
  refine xm 10 (.own 0 (v3.map U)) ?_
  refine xm 11 (.d (.val (.int .u8 ((idx k0.1 v7).toNat:Int)))) ?_
  refine xs 12 rfl (I0 (p:=(idx k0.1 v7)) (c:=(4:Int)) rfl rfl rfl (by decide) ?_)
  refine xm 13 (.d (.val (.int .u8 ((idx k0.1 v7).toNat:Int)))) ?_
  refine xs 14 rfl (IZ (p:=(idx k0.1 v7)) (q:=(15:UInt8)) rfl rfl rfl ?_)
  refine xs 15 rfl (ef (en:=U) (l:=([(mU (idx k0.1 v7) (4:Int)),((idx k0.1 v7)&&& (15:UInt8))]:List UInt8)) rfl TT.e8 bx rfl rfl (by decide) (by simp [dw,cU,aB,dQ,PV.cz,cx,aG,jA,iU,jX,bU,Value.oneCell']) ?_)
  obtain ⟨mH,h⟩:=gG h
  refine xs 16 rfl (iY (en:=U) (l:=v3) (l2:=([(mU (idx k0.1 v7) (4:Int)),((idx k0.1 v7)&&& (15:UInt8))]:List UInt8)) rfl TT.e8 TT.bA rfl bx rfl rfl rfl mH (by decide) ?_)
  refine xa 3 (.own 1 ((v3++([(mU (idx k0.1 v7) (4:Int)),((idx k0.1 v7)&&& (15:UInt8))]:List UInt8)).map U)) ?_
  refine XK.nil (g6 (aX ?_))
  refine rG ?_
  obtain ⟨nU,h⟩:=gG h
  refine xs 17 rfl (bX (a:=v7) (b:=(1:Int)) rfl rfl rfl nU ?_)
  refine xm 7 (pI (v7+(1:Int))) ?_
  refine XK.nz ?_
  exact ⟨k_1,by omega,⟨aG [(3, .own 0 ((v3++([(mU (idx k0.1 v7) (4:Int)),((idx k0.1 v7)&&& (15:UInt8))]:List UInt8)).map U)),(6, .d (.agg (k0.1.map U))),(7,pI (v7+(1:Int)))],aj [.spare 1 (v3++([(mU (idx k0.1 v7) (4:Int)),((idx k0.1 v7)&&& (15:UInt8))]:List UInt8)).length],1,[]⟩,View.mk 1 [1] _ _ _ rfl rfl (by decide) (iC (iC (iC trivial))) (And.intro rfl trivial) rfl zL rfl,(v3++([(mU (idx k0.1 v7) (4:Int)),((idx k0.1 v7)&&& (15:UInt8))]:List UInt8)),(v7+(1:Int)),by omega,jG h,rfl⟩
 ·replace h:=fG h cB
  refine QW.exit zL (eD (eD (j3 (aX ?_))))
  refine sR ?_
  refine xm 18 (.own 0 (v3.map U)) ?_
  refine xz 2 (.own 0 (v3.map U)) ?_
  refine QW.ret zL ?_
  obtain rfl:=sG h
  exact Ends.one (.inr rfl) rfl (aI.tmp rfl) rfl rfl
noncomputable def cW (v0:(List UInt8)):Option (List UInt8):=
  gO ((([]:List UInt8).length+v0.length)*1≤140737488355328) (
  some (([]:List UInt8)++v0))
theorem gW (v0:(List UInt8)) (r:(List UInt8)) (h:cW v0=some r):bI Tryz.prog 43 [.slice (v0.map U)] (.slice (r.map U)):=by
 refine bI.aU Tryz.func43 rfl (by simp [Tryz.ntmps43]) ?_
 rw [Tryz.ntmps43,TT.Uu]
 refine QW.view (s':=⟨aG [(0, .d (.slice (v0.map U)))],aj [],0,[]⟩) (View.init (by rfl)) zL ?_
 unfold cW at h
 refine sR ?_
 refine xz 2 (.full (([]:(List UInt8)).map U)) ?_
 refine QW.seq ?_
 refine sR ?_
 refine xm 3 (.d (.slice (v0.map U))) ?_
 refine XK.nt (l:=v0) (some 4) rfl rfl rfl TT.bA rfl (fun e0=>?_) ?_
 ·refine XK.nz ?_
  refine QW.Gj rfl ?_
  refine sR ?_
  refine xz 2 (.full (([]:(List UInt8)).map U)) ?_
  refine QW.ret zL (gm ?_)
  subst e0;obtain ⟨_,h⟩:=bk h;obtain rfl:=sO h
  exact Ends.one (.inr rfl) rfl (aI.tmp rfl) rfl rfl
 ·refine XK.nz ?_
  refine QW.Nx rfl ?_
  refine QW.skip zL (aX ?_)
  refine sR ?_
  refine xs 5 rfl (ef (en:=U) (l:=([]:List UInt8)) rfl TT.e8 bx rfl rfl (by decide) (by simp [dw,cU,aB,dQ,PV.cz,cx,aG,jA,iU,jX,bU,Value.oneCell']) ?_)
  refine xm 6 (.d (.slice (v0.map U))) ?_
  obtain ⟨nV,h⟩:=bk h
  refine xs 7 rfl (Gq (en:=U) (l:=([]:List UInt8)) (l2:=v0) rfl TT.e8 TT.bA rfl bx rfl rfl ⟨nV,fun _=>rfl⟩ (by decide) ?_)
  refine xz 2 (.own 0 ((([]:List UInt8)++v0).map U)) ?_
  refine QW.ret zL ?_
  obtain rfl:=sO h
  exact Ends.one (.inr rfl) rfl (aI.tmp rfl) rfl rfl
inductive BI where
 | S
 | L1 (v5:Int)
noncomputable def gM (a0:(List UInt8)) (b1:(List UInt8)):BI→Option (BI⊕Int)
 | .S=>
  some (.inl (.L1 (0)))
 | .L1 v5=>
  gO ((decide (v5<(eY (a0.length:Int) (b1.length:Int))))=true→0≤v5∧v5<(a0.length:Int)) (
  gO ((decide (v5<(eY (a0.length:Int) (b1.length:Int))))=true→0≤v5∧v5<(b1.length:Int)) (
  (bif ((decide (v5<(eY (a0.length:Int) (b1.length:Int))))&&(decide (((idx a0 v5).toNat:Int)=((idx b1 v5).toNat:Int)))) then
  gO (bw (v5+(1:Int))) (
  some (.inl (.L1 (v5+(1:Int)))))
  else
  some (.inr v5))))
noncomputable def tw (a0:(List UInt8)) (b1:(List UInt8)):Option Int:=g9 (gM a0 b1) .S
theorem zC (a0:(List UInt8)) (b1:(List UInt8)) (r:Int) (h:tw a0 b1=some r):bI Tryz.prog 47 [.slice (a0.map U), .slice (b1.map U)] (.val (.int .i64 r)):=by
 refine bI.aU Tryz.func47 rfl (by simp [Tryz.ntmps47]) ?_
 rw [Tryz.ntmps47,TT.Uv]
 refine QW.view (s':=⟨aG [(0, .d (.slice (a0.map U))),(1, .d (.slice (b1.map U)))],aj [],0,[]⟩) (View.init (by rfl)) zL ?_
 replace h:=cL h
 obtain ⟨_,h⟩:=h
 obtain ⟨dm,rfl,h9⟩:=aQ h;replace h:=h9;clear h9;rw [gM] at h
 refine sR ?_
 refine xz 4 (pI (0)) ?_
 refine sR ?_
 refine xz 5 (pI (0)) ?_
 refine QW.seq ?_
 refine QW.block ?_
 refine QW.loop (fun k σ=>∃ v5:Int,k≤dm∧run (gM a0 b1) k (.L1 v5)=some r∧σ=⟨aG [(0, .d (.slice (a0.map U))),(1, .d (.slice (b1.map U))),(5,pI v5)],aj [],0,[]⟩) dm zL ⟨⟨aG [(0, .d (.slice (a0.map U))),(1, .d (.slice (b1.map U))),(5,pI (0))],aj [],0,[]⟩,View.mk 0 [] _ _ _ rfl rfl (by decide) (iC (iC (iC trivial))) trivial rfl zL rfl,0,Nat.le_refl _,jG h,rfl⟩ ?_
 rintro rO _ ⟨v5,rP,h,rfl⟩
 obtain ⟨k_1,rfl,h9⟩:=aQ h;replace h:=h9;clear h9;rw [gM] at h
 refine QW.seq ?_
 refine QW.seq ?_
 refine QW.region zL (PW.kX (id:=2) dc (M:=_) rfl (by kernel_rfl) ?_)
 refine RQ.st (some 6) rfl rfl (au (v:=pI v5) rfl rfl ⟨⟨rfl,rfl⟩,?_⟩)
 refine RQ.st (some 7) rfl rfl (au (v:= .d (.slice (a0.map U))) rfl rfl ⟨⟨rfl,rfl⟩,?_⟩)
 refine RQ.st (some 8) rfl rfl (cM (en:=U) (l:=a0) rfl TT.bA rfl ⟨⟨rfl,rfl⟩,?_⟩)
 refine RQ.st (some 9) rfl rfl (au (v:= .d (.slice (b1.map U))) rfl rfl ⟨⟨rfl,rfl⟩,?_⟩)
 refine RQ.st (some 10) rfl rfl (cM (en:=U) (l:=b1) rfl TT.bA rfl ⟨⟨rfl,rfl⟩,?_⟩)
 refine RQ.st (some 11) rfl rfl (FI (a:=(a0.length:Int)) (b:=(b1.length:Int)) rfl rfl rfl ⟨⟨rfl,rfl⟩,?_⟩)
 refine RQ.st (some 12) rfl rfl (cJ (a:=v5) (b:=(eY (a0.length:Int) (b1.length:Int))) rfl rfl rfl ⟨⟨rfl,rfl⟩,?_⟩)
 refine RQ.st (some 13) rfl rfl (au (v:=pB (decide (v5<(eY (a0.length:Int) (b1.length:Int))))) rfl rfl ⟨⟨rfl,rfl⟩,?_⟩)
 refine RQ.gd (v:= .d (.slice (a0.map U))) (T:=[]) (some 14) rfl rfl (by repeat (first | exact trivial | refine ⟨fun q=>by first | rfl | exact q | exact jC q | exact jY q,?_⟩)) (fun hg=>au (v:= .d (.slice (a0.map U))) rfl rfl g3) lp ?_
 refine RQ.gd (v:=pI v5) (T:=[]) (some 15) rfl rfl (by repeat (first | exact trivial | refine ⟨fun q=>by first | rfl | exact q | exact jC q | exact jY q,?_⟩)) (fun hg=>au (v:=pI v5) rfl rfl g3) lp ?_
 obtain ⟨xE,h⟩:=gG h
 refine RQ.gd (v:= .d (.cA ([.val (.int .u8 ((idx a0 v5).toNat:Int))]))) (T:=[]) (some 16) rfl rfl (by repeat (first | exact trivial | refine ⟨fun q=>by first | rfl | exact q | exact jC q | exact jY q,?_⟩)) (fun hg=>bC (l:=a0) (i:=v5) rfl TT.ek bx rfl rfl (xE (Fp hg)) g3) lp ?_
 refine RQ.gd (v:= .d (.val (.int .u8 ((idx a0 v5).toNat:Int)))) (T:=[]) (some 17) rfl rfl (by repeat (first | exact trivial | refine ⟨fun q=>by first | rfl | exact q | exact jC q | exact jY q,?_⟩)) (fun hg=>aC (d:= .val (.int .u8 ((idx a0 v5).toNat:Int))) rfl TT.jx rfl (c8.one) g3) lp ?_
 refine RQ.gd (v:= .d (.slice (b1.map U))) (T:=[]) (some 18) rfl rfl (by repeat (first | exact trivial | refine ⟨fun q=>by first | rfl | exact q | exact jC q | exact jY q,?_⟩)) (fun hg=>au (v:= .d (.slice (b1.map U))) rfl rfl g3) lp ?_
 refine RQ.gd (v:=pI v5) (T:=[]) (some 19) rfl rfl (by repeat (first | exact trivial | refine ⟨fun q=>by first | rfl | exact q | exact jC q | exact jY q,?_⟩)) (fun hg=>au (v:=pI v5) rfl rfl g3) lp ?_
 obtain ⟨dS,h⟩:=gG h
 refine RQ.gd (v:= .d (.cA ([.val (.int .u8 ((idx b1 v5).toNat:Int))]))) (T:=[]) (some 20) rfl rfl (by repeat (first | exact trivial | refine ⟨fun q=>by first | rfl | exact q | exact jC q | exact jY q,?_⟩)) (fun hg=>bC (l:=b1) (i:=v5) rfl TT.ek bx rfl rfl (dS (Fp hg)) g3) lp ?_
 refine RQ.gd (v:= .d (.val (.int .u8 ((idx b1 v5).toNat:Int)))) (T:=[]) (some 21) rfl rfl (by repeat (first | exact trivial | refine ⟨fun q=>by first | rfl | exact q | exact jC q | exact jY q,?_⟩)) (fun hg=>aC (d:= .val (.int .u8 ((idx b1 v5).toNat:Int))) rfl TT.jx rfl (c8.one) g3) lp ?_
 refine RQ.gd (v:=pB (decide (((idx a0 v5).toNat:Int)=((idx b1 v5).toNat:Int)))) (T:=[]) (some 22) rfl rfl (by repeat (first | exact trivial | refine ⟨fun q=>by first | rfl | exact q | exact jC q | exact jY q,?_⟩)) (fun hg=>eF (a:=((idx a0 v5).toNat:Int)) (b:=((idx b1 v5).toNat:Int)) rfl rfl rfl g3) lp ?_
 refine RQ.st (some 23) rfl rfl (fu rfl rfl rfl rfl (fun hb=>by rw [hb];rfl) (fun _=>rfl) ⟨⟨rfl,rfl⟩,?_⟩)
 refine RQ.nil (aX ?_)
 refine QW.cond (t:=((decide (v5<(eY (a0.length:Int) (b1.length:Int))))&&(decide (((idx a0 v5).toNat:Int)=((idx b1 v5).toNat:Int))))) rfl zL (fun jb=>?_) (fun jb=>?_)
 ·replace h:=fF h jb
  refine QW.skip zL (aX ?_)
  refine QW.block ?_
  refine rG ?_
  refine xm 24 (pI v5) ?_
  obtain ⟨nU,h⟩:=gG h
  refine xs 25 rfl (bX (a:=v5) (b:=(1:Int)) rfl rfl rfl nU ?_)
  refine xa 5 (pI (v5+(1:Int))) ?_
  refine XK.nil (g6 (aX ?_))
  exact ⟨k_1,by omega,⟨aG [(0, .d (.slice (a0.map U))),(1, .d (.slice (b1.map U))),(5,pI (v5+(1:Int)))],aj [],0,[]⟩,View.mk 0 [] _ _ _ rfl rfl (by decide) (iC (iC (iC trivial))) trivial rfl zL rfl,(v5+(1:Int)),by omega,jG h,rfl⟩
 ·replace h:=fG h jb
  refine QW.exit zL (eD (eD (j3 (aX ?_))))
  refine sR ?_
  refine xm 26 (pI v5) ?_
  refine xz 4 (pI v5) ?_
  refine QW.ret zL ?_
  obtain rfl:=sG h
  exact Ends.one (.inr rfl) rfl (aI.tmp rfl) rfl rfl
inductive EX where
 | S
 | L1 (v3:(List UInt8)) (v8:Int)
noncomputable def lP (gK:(List (List UInt8))):EX→Option (EX⊕(List UInt8))
 | .S=>
  some (.inl (.L1 ([]:(List UInt8)) (0)))
 | .L1 v3 v8=>
  (bif (decide (v8<(gK.length:Int))) then
  gO (0≤v8∧v8<(gK.length:Int)) (
  gO ((v3.length+(idx gK v8).length)*1≤140737488355328) (
  gO (bw (v8+(1:Int))) (
  some (.inl (.L1 (v3++(idx gK v8)) (v8+(1:Int)))))))
  else
  some (.inr v3))
noncomputable def rm (gK:(List (List UInt8))):Option (List UInt8):=g9 (lP gK) .S
theorem tA (gK:(List (List UInt8))) (r:(List UInt8)) (h:rm gK=some r):bI Tryz.prog 79 [.slice (gK.map (eL U))] (.slice (r.map U)):=by
 refine bI.aU Tryz.func79 rfl (by simp [Tryz.ntmps79]) ?_
 rw [Tryz.ntmps79,TT.UB]
 refine QW.view (s':=⟨aG [(0, .d (.slice (gK.map (eL U))))],aj [],0,[]⟩) (View.init (by rfl)) zL ?_
 replace h:=cL h
 obtain ⟨_,h⟩:=h
 obtain ⟨dm,rfl,h9⟩:=aQ h;replace h:=h9;clear h9;rw [lP] at h
 refine sR ?_
 refine xz 2 (.full (([]:(List UInt8)).map U)) ?_
 refine sR ?_
 refine xz 3 (.full (([]:(List UInt8)).map U)) ?_
 refine QW.seq ?_
 refine sR ?_
 refine xm 6 (.d (.slice (gK.map (eL U)))) ?_
 refine xs 7 rfl (cM (en:=(eL U)) (l:=gK) rfl TT.NL rfl ?_)
 refine xm 8 (pI (0)) ?_
 refine XK.nz ?_
 refine QW.block ?_
 refine QW.loop (fun k σ=>∃ v3:(List UInt8),∃ v8:Int,k≤dm∧run (lP gK) k (.L1 v3 v8)=some r∧σ=⟨aG [(3, .own 0 (v3.map U)),(6, .d (.slice (gK.map (eL U)))),(7,pI (gK.length:Int)),(8,pI v8)],aj [.spare 1 v3.length],1,[]⟩) dm zL ⟨⟨aG [(3, .own 0 (([]:(List UInt8)).map U)),(6, .d (.slice (gK.map (eL U)))),(7,pI (gK.length:Int)),(8,pI (0))],aj [.spare 1 ([]:(List UInt8)).length],1,[]⟩,View.trans (View.buf 3 1 rfl zL) (View.mk 1 [0] _ _ _ rfl rfl (by decide) (iC (iC (iC (iC trivial)))) (And.intro rfl trivial) rfl zL rfl),([]:(List UInt8)),0,Nat.le_refl _,jG h,rfl⟩ ?_
 rintro rO _ ⟨v3,v8,rP,h,rfl⟩
 obtain ⟨k_1,rfl,h9⟩:=aQ h;replace h:=h9;clear h9;rw [lP] at h
 refine sR ?_
 refine xs 9 rfl (cJ (a:=v8) (b:=(gK.length:Int)) rfl rfl rfl ?_)
 refine XK.nz ?_
 refine QW.seq ?_
 refine QW.cond (t:=(decide (v8<(gK.length:Int)))) rfl zL (fun cB=>?_) (fun cB=>?_)
 ·replace h:=fF h cB
  refine QW.skip zL (aX ?_)
  refine QW.seq ?_
  refine QW.block ?_
  refine sR ?_
  obtain ⟨dS,h⟩:=gG h
  refine xs 10 rfl (bC (l:=gK) (i:=v8) rfl TT.Qh Gp rfl rfl dS ?_)
  refine xs 11 rfl (aC (d:= .slice ((idx gK v8).map U)) rfl TT.fh rfl (c8.one) ?_)
  refine xz 5 (.d (.slice ((idx gK v8).map U))) ?_
  refine rG ?_
  refine xm 12 (.own 0 (v3.map U)) ?_
  refine xm 13 (.d (.slice ((idx gK v8).map U))) ?_
  obtain ⟨mH,h⟩:=gG h
  refine xs 14 rfl (iY (en:=U) (l:=v3) (l2:=(idx gK v8)) rfl TT.e8 TT.bA rfl bx rfl rfl rfl mH (by decide) ?_)
  refine xa 3 (.own 1 ((v3++(idx gK v8)).map U)) ?_
  refine XK.nil (g6 (aX ?_))
  refine rG ?_
  obtain ⟨nU,h⟩:=gG h
  refine xs 15 rfl (bX (a:=v8) (b:=(1:Int)) rfl rfl rfl nU ?_)
  refine xm 8 (pI (v8+(1:Int))) ?_
  refine XK.nz ?_
  exact ⟨k_1,by omega,⟨aG [(3, .own 0 ((v3++(idx gK v8)).map U)),(6, .d (.slice (gK.map (eL U)))),(7,pI (gK.length:Int)),(8,pI (v8+(1:Int)))],aj [.spare 1 (v3++(idx gK v8)).length],1,[]⟩,View.mk 1 [1] _ _ _ rfl rfl (by decide) (iC (iC (iC (iC trivial)))) (And.intro rfl trivial) rfl zL rfl,(v3++(idx gK v8)),(v8+(1:Int)),by omega,jG h,rfl⟩
 ·replace h:=fG h cB
  refine QW.exit zL (eD (eD (j3 (aX ?_))))
  refine sR ?_
  refine xm 16 (.own 0 (v3.map U)) ?_
  refine xz 2 (.own 0 (v3.map U)) ?_
  refine QW.ret zL ?_
  obtain rfl:=sG h
  exact Ends.one (.inr rfl) rfl (aI.tmp rfl) rfl rfl
set_option maxRecDepth 20000 in
theorem rq (e0:Int):x6 Tryz.prog 81 [.aF 0 0] [.var [pI e0]] none [.var [pI e0]]:=by
 refine x6.Ly (r:= .tuple []) none Tryz.func81 rfl rfl rfl rfl rfl rfl rfl rfl (by simp [Tryz.ntmps81]) (by simp [Tryz.ntmps81]) (by simp [Tryz.ntmps81]) ?_
 rw [Tryz.ntmps81,TT.Pf]
 refine QW.view (s':=⟨aG [(0, .aF 0 0),(2, .d (.val .nilIface)),(5, .d (.val .nilIface))],aj [.var [pI e0]],1,[]⟩) (View.mk 1 [0] _ _ _ rfl rfl (by decide) (iC (iC (iC trivial))) (And.intro rfl trivial) rfl bL rfl) bL ?_
 refine QW.seq ?_
 refine lN ?_
 refine xm 6 (.d (.val .nilIface)) ?_
 refine XK.pr (v:=pB true) (some 7) rfl rfl (Gz rfl TT.Eb rfl) ?_
 refine XK.nz ?_
 refine QW.Gj rfl ?_
 refine QW.ret bL (gm ?_)
 exact Ca.none (s':=⟨aG [],aj [.var [pI e0]],1,[]⟩) (.inr rfl) (View.mk 1 [0] _ _ _ rfl rfl (by decide) trivial (And.intro rfl trivial) rfl bL rfl) rfl rfl rfl
set_option maxRecDepth 20000 in
theorem ru (e0 e:Int):x6 Tryz.prog 81 [.aF 0 0] [.var [pI e0]] (some (.iface 145 (.agg [.val (.int .i64 e)]))) [.var [pI e]]:=by
 refine x6.Ly (r:= .tuple []) (some (.iface 145 (.agg [.val (.int .i64 e)]))) Tryz.func81 rfl rfl rfl rfl rfl rfl rfl rfl (by simp [Tryz.ntmps81]) (by simp [Tryz.ntmps81]) (by simp [Tryz.ntmps81]) ?_
 rw [Tryz.ntmps81,TT.Pf]
 refine QW.view (s':=⟨aG [(0, .aF 0 0),(2, .d (.iface 145 (.agg [.val (.int .i64 e)]))),(5, .d (.iface 145 (.agg [.val (.int .i64 e)])))],aj [.var [pI e0]],1,[]⟩) (View.mk 1 [0] _ _ _ rfl rfl (by decide) (iC (iC (iC trivial))) (And.intro rfl trivial) rfl bL rfl) bL ?_
 refine QW.seq ?_
 refine lN ?_
 refine xm 6 (.d (.iface 145 (.agg [.val (.int .i64 e)]))) ?_
 refine xs 7 rfl (P7 rfl TT.Eb rfl rfl ?_)
 refine XK.nz ?_
 refine QW.Nx rfl ?_
 refine QW.skip bL (aX ?_)
 refine lN ?_
 refine xm 9 (.d (.iface 145 (.agg [.val (.int .i64 e)]))) ?_
 refine XK.pr (v:= .d (.tuple [.agg (NN (⟨e⟩:fail)), .val (.bool true)])) (some 10) rfl rfl (LB TT.De rfl rfl) ?_
 refine xm 8 (.d (.tuple [.agg (NN (⟨e⟩:fail)), .val (.bool true)])) ?_
 refine xs 11 rfl (bM (d:= .agg (NN (⟨e⟩:fail))) rfl rfl rfl ?_)
 refine xs 12 rfl (bM (d:= .val (.bool true)) rfl rfl rfl ?_)
 refine xs 3 rfl (bB (l:=[pI (0)]) rfl TT.NM rfl rfl ?_)
 refine XK.st none rfl rfl (bh (l':=[pI e]) rfl TT.Sq rfl rfl rfl rfl rfl rfl (by simp) rfl ?_)
 refine xz 4 (pB true) ?_
 refine lN ?_
 refine xm 13 (.aF 0 0) ?_
 refine xs 14 rfl (mD (v:= .aF 0 0) rfl rfl rfl ?_)
 refine XK.st none rfl rfl (bh (l':=[pI (2)]) rfl TT.kr rfl rfl rfl rfl rfl rfl (by simp) rfl ?_)
 refine XK.nz ?_
 refine lN ?_
 refine xm 15 (pB true) ?_
 refine XK.nz ?_
 refine QW.Gj rfl ?_
 refine Fq ?_
 refine xm 16 (.aF 0 0) ?_
 refine xs 17 rfl (gF rfl TT.LJ (by decide) rfl ?_)
 refine xs 18 rfl (bD (v:=pI e) rfl TT.kr rfl rfl ⟨⟨by simp,by simp⟩,rfl⟩ ?_)
 refine xs 19 rfl (mD (v:= .aF 0 0) rfl rfl rfl ?_)
 refine XK.st none rfl rfl (bh (l':=[pI e]) rfl TT.kr rfl rfl rfl rfl rfl rfl (by simp) rfl ?_)
 refine XK.nil ?_
 exact Ca.none (s':=⟨aG [],aj [.var [pI e]],1,[]⟩) (.inl rfl) (View.mk 1 [0] _ _ _ rfl rfl (by decide) trivial (And.intro rfl trivial) rfl bL rfl) rfl rfl rfl
noncomputable def iQ (NO:Bool) (e1:Int):Option (Unit⊕Int):=
  (bif (!NO) then
  some (.inr e1)
  else
  some (.inl ()))
theorem dM (NO:Bool) (e1:Int) (r:(Unit⊕Int)) (h:iQ NO e1=some r):Spec Tryz.prog 99 [pB NO,pI e1] (aj []) 0 (lM (match r with | .inl x=>Out.ret (.tuple []) | .inr e=>Out.m7 (.d (.iface 145 (.agg [.val (.int .i64 e)])))) (aj []) 0):=by
 refine Spec.qZ Tryz.func99 rfl (by simp [Tryz.ntmps99]) bL ?_
 rw [Tryz.ntmps99,TT.UI]
 refine QW.view (s':=⟨aG [(0,pB NO),(1,pI e1)],aj [],0,[]⟩) (View.mT zL (by rfl)) zL ?_
 unfold iQ at h
 refine sR ?_
 refine xm 4 (pB NO) ?_
 refine xs 5 rfl (ou rfl rfl ?_)
 refine XK.nz ?_
 refine QW.cond (t:=(!NO)) rfl zL (fun dh=>?_) (fun dh=>?_)
 ·replace h:=bT h dh
  refine rG ?_
  refine xm 6 (pI e1) ?_
  refine xs 7 rfl (eT (v:= .agg [pI e1]) rfl TT.Qg (dG rfl (cw (cells':=[pI e1]) rfl rfl rfl bL rfl dF)) ?_)
  refine xs 8 rfl (AY (y:= .agg [.val (.int .i64 e1)]) rfl rfl TT.De ?_)
  refine XK.panic rfl rfl rfl ?_
  obtain rfl:=sO h
  exact gh.m7 (s':=⟨aG [],aj [],0,[]⟩) (View.mk 0 [] _ _ _ rfl rfl (by decide) trivial trivial rfl zL rfl) rfl bL (fun i hi=>dX [] [] i hi) rfl (by simp [HO.bz,HO.bP,PV.bz,PV.bP,cD,bq])
 ·replace h:=bF h dh
  refine QW.skip zL ?_
  obtain rfl:=sO h
  exact gh.none (s':=⟨aG [],aj [],0,[]⟩) (.inl rfl) (View.mk 0 [] _ _ _ rfl rfl (by decide) trivial trivial rfl zL rfl) rfl bL (fun i hi=>dX [] [] i hi) rfl (by simp [HO.bz,HO.bP,PV.bz,PV.bP,cD,bq])
noncomputable def j7 (uW:Int) (c0:counter):Option ((Unit⊕Int)×counter):=
  gO (bw ((c0.fn)+(1:Int))) (
  ((iQ (decide (uW≤(64:Int))) (17)).bind fun xx=>match xx with
  | .inl m8=>
    ((iQ (decide (((c0.fn)+(1:Int))≤(4096:Int))) (4)).bind fun xx=>match xx with
    | .inl LQ=>
      some ((.inl ()),(⟨((c0.fn)+(1:Int))⟩:counter))
    | .inr Ag=>
      some (.inr Ag,(⟨((c0.fn)+(1:Int))⟩:counter)))
  | .inr e_5=>
    some (.inr e_5,(⟨((c0.fn)+(1:Int))⟩:counter))))
theorem mI (uW:Int) (c0:counter) (r:((Unit⊕Int)×counter)) (h:j7 uW c0=some r):Spec Tryz.prog 98 [.aF 0 0,pI uW] (aj [.var [pI (c0.fn)]]) 1 (lM (match r.1 with | .inl x=>Out.ret (.tuple []) | .inr e=>Out.m7 (.d (.iface 145 (.agg [.val (.int .i64 e)])))) (aj [.var [pI ((r.2).fn)]]) 1):=by
 refine Spec.qZ Tryz.func98 rfl (by simp [Tryz.ntmps98]) bL ?_
 rw [Tryz.ntmps98,TT.UH]
 refine QW.view (s':=⟨aG [(0, .aF 0 0),(1,pI uW)],aj [.var [pI (c0.fn)]],1,[]⟩) (View.mT bL (by rfl)) bL ?_
 unfold j7 at h
 refine lN ?_
 refine xm 4 (.aF 0 0) ?_
 refine xs 5 rfl (mD (v:= .aF 0 0) rfl rfl rfl ?_)
 refine xs 6 rfl (gF rfl TT.Ab (by decide) rfl ?_)
 refine xs 7 rfl (bD (v:=pI (c0.fn)) rfl TT.mW rfl rfl ⟨⟨by simp,by simp⟩,rfl⟩ ?_)
 obtain ⟨nV,h⟩:=bk h
 refine xs 8 rfl (bX (a:=(c0.fn)) (b:=(1:Int)) rfl rfl rfl nV ?_)
 refine xs 9 rfl (mD (v:= .aF 0 0) rfl rfl rfl ?_)
 refine xs 10 rfl (gF rfl TT.Ab (by decide) rfl ?_)
 refine XK.st none rfl rfl (bh (l':=[pI ((c0.fn)+(1:Int))]) rfl TT.mW rfl rfl rfl rfl rfl rfl (by simp) rfl ?_)
 refine XK.nz ?_
 refine lN ?_
 refine xm 11 (pI uW) ?_
 refine xs 12 rfl (yN (a:=uW) (b:=(64:Int)) rfl rfl rfl ?_)
 obtain ⟨m8 | e_5,nI,h⟩:=bO h
 ·refine XK.fr (p:= .tuple []) (H2:=_) (mG:=1) (some 13) rfl rfl (b8 [] rfl rfl TT.fD (dM (decide (uW≤(64:Int))) (17) _ nI) rfl rfl (by decide) trivial bL) rfl rfl rfl ?_
  refine XK.nz ?_
  refine Fq ?_
  refine xm 14 (.aF 0 0) ?_
  refine xs 15 rfl (mD (v:= .aF 0 0) rfl rfl rfl ?_)
  refine xs 16 rfl (gF rfl TT.Ab (by decide) rfl ?_)
  refine xs 17 rfl (bD (v:=pI ((c0.fn)+(1:Int))) rfl TT.mW rfl rfl ⟨⟨by simp,by simp⟩,rfl⟩ ?_)
  refine xs 18 rfl (yN (a:=((c0.fn)+(1:Int))) (b:=(4096:Int)) rfl rfl rfl ?_)
  obtain ⟨LQ | Ag,pR,h⟩:=bO h
  ·refine XK.fr (p:= .tuple []) (H2:=_) (mG:=1) (some 19) rfl rfl (b8 [] rfl rfl TT.fD (dM (decide (((c0.fn)+(1:Int))≤(4096:Int))) (4) _ pR) rfl rfl (by decide) trivial bL) rfl rfl rfl ?_
   refine XK.nil ?_
   obtain rfl:=sO h
   exact gh.none (s':=⟨aG [],aj [.var [pI ((c0.fn)+(1:Int))]],1,[]⟩) (.inl rfl) (View.mk 1 [0] _ _ _ rfl rfl (by decide) trivial (And.intro rfl trivial) rfl bL rfl) rfl bL (fun i hi=>dX [.var [pI ((c0.fn)+(1:Int))]] [] i hi) rfl (by simp [HO.bz,HO.bP,PV.bz,PV.bP,cD,bq])
  ·refine XK.fp (p:= .d (.iface 145 (.agg [.val (.int .i64 Ag)]))) (H2:=_) (mG:=1) rfl (b8 [] rfl rfl TT.fD (dM (decide (((c0.fn)+(1:Int))≤(4096:Int))) (4) _ pR) rfl rfl (by decide) trivial bL) rfl rfl rfl ?_
   obtain rfl:=sO h
   exact gh.m7 (s':=⟨aG [],aj [.var [pI ((c0.fn)+(1:Int))]],1,[]⟩) (View.mk 1 [0] _ _ _ rfl rfl (by decide) trivial (And.intro rfl trivial) rfl bL rfl) rfl bL (fun i hi=>dX [.var [pI ((c0.fn)+(1:Int))]] [] i hi) rfl (by simp [HO.bz,HO.bP,PV.bz,PV.bP,cD,bq])
 ·refine XK.fp (p:= .d (.iface 145 (.agg [.val (.int .i64 e_5)]))) (H2:=_) (mG:=1) rfl (b8 [] rfl rfl TT.fD (dM (decide (uW≤(64:Int))) (17) _ nI) rfl rfl (by decide) trivial bL) rfl rfl rfl (sD ?_)
  obtain rfl:=sO h
  exact gh.m7 (s':=⟨aG [],aj [.var [pI ((c0.fn)+(1:Int))]],1,[]⟩) (View.mk 1 [0] _ _ _ rfl rfl (by decide) trivial (And.intro rfl trivial) rfl bL rfl) rfl bL (fun i hi=>dX [.var [pI ((c0.fn)+(1:Int))]] [] i hi) rfl (by simp [HO.bz,HO.bP,PV.bz,PV.bP,cD,bq])
noncomputable def iR (s0:(List UInt8)):Option Item:=
  some (⟨false,s0,([]:(List Item))⟩:Item)
theorem mX (s0:(List UInt8)) (r:Item) (h:iR s0=some r):bI Tryz.prog 54 [.val (sV s0)] (.agg (dA r)):=by
 refine bI.aU Tryz.func54 rfl (by simp [Tryz.ntmps54]) ?_
 rw [Tryz.ntmps54,TT.Uz]
 refine QW.view (s':=⟨aG [(0,pS s0)],aj [],0,[]⟩) (View.init (by rfl)) zL ?_
 unfold iR at h
 refine sR ?_
 refine xs 2 rfl (bB (l:=[pB false,pS ([]:List UInt8), .full (([]:(List Item)).map bu)]) rfl TT.mj rfl rfl ?_)
 refine XK.nz ?_
 refine sR ?_
 refine xm 3 (pS s0) ?_
 refine xs 4 rfl (eT (v:= .agg [pB false,pS s0, .full (([]:(List Item)).map bu)]) rfl TT.x9 (dG rfl (cw (cells':=[pB false,pS s0, .full (([]:(List Item)).map bu)]) rfl rfl rfl bL rfl dF)) ?_)
 refine XK.st none rfl rfl (bh (l':=[pB false,pS s0, .full (([]:(List Item)).map bu)]) rfl TT.eC rfl rfl rfl rfl rfl rfl (by simp) rfl ?_)
 refine XK.nz ?_
 refine QW.ret zL ?_
 obtain rfl:=sO h
 exact Ends.one (.inr rfl) rfl (aI.cell rfl rfl TT.eC ⟨⟨by simp,by simp⟩,rfl⟩) rfl rfl
inductive BJ where
 | S
 | L1 (v6:Int) (sE:Int)
noncomputable def iD (s0:(List UInt8)) (eg:Int):BJ→Option (BJ⊕((Int×Int)⊕Int))
 | .S=>
  gO (0≤(0:Int)∧(0:Int)<(s0.length:Int)) (
  gO (bw (((idx s0 (0:Int)).toNat:Int)-eg)) (
  (bif (decide ((((idx s0 (0:Int)).toNat:Int)-eg)≤(55:Int))) then
  some (.inr (.inl ((((idx s0 (0:Int)).toNat:Int)-eg),1)))
  else
  gO (bw ((((idx s0 (0:Int)).toNat:Int)-eg)-(55:Int))) (
  ((iQ (decide (((((idx s0 (0:Int)).toNat:Int)-eg)-(55:Int))<(s0.length:Int))) (5)).bind fun xx=>match xx with
  | .inl v_9=>
    gO (0≤(1:Int)∧(1:Int)<(s0.length:Int)) (
    ((iQ (!decide (((idx s0 (1:Int)).toNat:Int)=(0:Int))) (6)).bind fun xx=>match xx with
    | .inl YM=>
      some (.inl (.L1 (0) (0)))
    | .inr Ss=>
      some (.inr (.inr Ss))))
  | .inr e_8=>
    some (.inr (.inr e_8)))))))
 | .L1 v6 sE=>
  (bif (decide (sE<((((idx s0 (0:Int)).toNat:Int)-eg)-(55:Int)))) then
  ((iQ (decide (v6<(4294967296:Int))) (5)).bind fun xx=>match xx with
  | .inl YN=>
    gO (0≤(8:Int)∧bw (wU v6 (8:Int))) (
    gO (bw ((1:Int)+sE)) (
    gO (0≤((1:Int)+sE)∧((1:Int)+sE)<(s0.length:Int)) (
    gO (bw (sE+(1:Int))) (
    some (.inl (.L1 (Nz (wU v6 (8:Int)) ((idx s0 ((1:Int)+sE)).toNat:Int)) (sE+(1:Int))))))))
  | .inr Su=>
    some (.inr (.inr Su)))
  else
  ((iQ (decide ((55:Int)<v6)) (6)).bind fun xx=>match xx with
  | .inl YO=>
    gO (bw ((1:Int)+((((idx s0 (0:Int)).toNat:Int)-eg)-(55:Int)))) (
    some (.inr (.inl (v6,((1:Int)+((((idx s0 (0:Int)).toNat:Int)-eg)-(55:Int)))))))
  | .inr Sv=>
    some (.inr (.inr Sv))))
noncomputable def qb (s0:(List UInt8)) (eg:Int):Option ((Int×Int)⊕Int):=g9 (iD s0 eg) .S
theorem zD (s0:(List UInt8)) (eg:Int) (r:((Int×Int)⊕Int)) (h:qb s0 eg=some r):Spec Tryz.prog 117 [pS s0,pI eg] (aj []) 0 (lM (match r with | .inl x=>Out.ret (.tuple [pI (x.1),pI (x.2)]) | .inr e=>Out.m7 (.d (.iface 145 (.agg [.val (.int .i64 e)])))) (aj []) 0):=by
 refine Spec.qZ Tryz.func117 rfl (by simp [Tryz.ntmps117]) bL ?_
 rw [Tryz.ntmps117,TT.So]
 refine QW.view (s':=⟨aG [(0,pS s0),(1,pI eg)],aj [],0,[]⟩) (View.mT zL (by rfl)) zL ?_
 replace h:=cL h
 obtain ⟨_,h⟩:=h
 obtain ⟨dm,rfl,h9⟩:=aQ h;replace h:=h9;clear h9;rw [iD] at h
 refine sR ?_
 refine xa 4 (pI (0)) ?_
 refine xz 5 (pI (0)) ?_
 refine sR ?_
 refine xm 9 (pS s0) ?_
 obtain ⟨nV,h⟩:=gG h
 refine xs 10 rfl (lK (l:=s0) (i:=(0:Int)) rfl TT.bY TT.nT rfl rfl nV ?_)
 refine xs 11 rfl (AU (n:=((idx s0 (0:Int)).toNat:Int)) rfl TT.dR TT.kC rfl (AW _) ?_)
 refine xm 12 (pI eg) ?_
 obtain ⟨xE,h⟩:=gG h
 refine xs 13 rfl (mE (a:=((idx s0 (0:Int)).toNat:Int)) (b:=eg) rfl rfl rfl xE ?_)
 refine xz 6 (pI (((idx s0 (0:Int)).toNat:Int)-eg)) ?_
 refine QW.seq ?_
 refine sR ?_
 refine xm 14 (pI (((idx s0 (0:Int)).toNat:Int)-eg)) ?_
 refine xs 15 rfl (yN (a:=(((idx s0 (0:Int)).toNat:Int)-eg)) (b:=(55:Int)) rfl rfl rfl ?_)
 refine XK.nz ?_
 refine QW.cond (t:=(decide ((((idx s0 (0:Int)).toNat:Int)-eg)≤(55:Int)))) rfl zL (fun dU=>?_) (fun dU=>?_)
 ·replace h:=fF h dU
  refine sR ?_
  refine xm 16 (pI (((idx s0 (0:Int)).toNat:Int)-eg)) ?_
  refine xa 4 (pI (((idx s0 (0:Int)).toNat:Int)-eg)) ?_
  refine xz 5 (pI (1)) ?_
  refine QW.ret zL (gm ?_)
  obtain rfl:=sG h
  exact gh.more (s':=⟨aG [(4,pI (((idx s0 (0:Int)).toNat:Int)-eg)),(5,pI (1))],aj [],0,[]⟩) (ps:=[pI (((idx s0 (0:Int)).toNat:Int)-eg),pI (1)]) (.inr rfl) (View.mk 0 [] _ _ _ rfl rfl (by decide) (iC (iC trivial)) trivial rfl zL rfl) rfl bL (fun i hi=>dX [] [] i hi) rfl (by simp [HO.bz,HO.bP,PV.bz,PV.bP,cD,bq]) (And.intro (aI.tmp rfl) (And.intro (aI.tmp rfl) trivial)) (by simp [PV.bz,PV.bP,cD])
 ·replace h:=fG h dU
  refine QW.skip zL (aX ?_)
  refine sR ?_
  refine xm 17 (pI (((idx s0 (0:Int)).toNat:Int)-eg)) ?_
  obtain ⟨mH,h⟩:=gG h
  refine xs 18 rfl (mE (a:=(((idx s0 (0:Int)).toNat:Int)-eg)) (b:=(55:Int)) rfl rfl rfl mH ?_)
  refine xz 7 (pI ((((idx s0 (0:Int)).toNat:Int)-eg)-(55:Int))) ?_
  refine sR ?_
  refine xm 19 (pS s0) ?_
  refine xs 20 rfl (gE (l:=s0) rfl TT.bY rfl ?_)
  refine xm 21 (pI ((((idx s0 (0:Int)).toNat:Int)-eg)-(55:Int))) ?_
  refine xs 22 rfl (nQ (a:=(s0.length:Int)) (b:=((((idx s0 (0:Int)).toNat:Int)-eg)-(55:Int))) rfl rfl rfl ?_)
  obtain ⟨v_9 | e_8,sJ,h⟩:=bG h
  ·refine XK.fr (p:= .tuple []) (H2:=_) (mG:=0) (some 23) rfl rfl (b8 [] rfl rfl TT.fD (dM (decide (((((idx s0 (0:Int)).toNat:Int)-eg)-(55:Int))<(s0.length:Int))) (5) _ sJ) rfl rfl (by decide) trivial bL) rfl rfl rfl ?_
   refine XK.nz ?_
   refine sR ?_
   refine xm 24 (pS s0) ?_
   obtain ⟨ow,h⟩:=gG h
   refine xs 25 rfl (lK (l:=s0) (i:=(1:Int)) rfl TT.bY TT.nT rfl rfl ow ?_)
   refine xs 26 rfl (qA (a:=((idx s0 (1:Int)).toNat:Int)) (b:=(0:Int)) rfl rfl rfl ?_)
   obtain ⟨YM | Ss,pY,h⟩:=bG h
   ·refine XK.fr (p:= .tuple []) (H2:=_) (mG:=0) (some 27) rfl rfl (b8 [] rfl rfl TT.fD (dM (!decide (((idx s0 (1:Int)).toNat:Int)=(0:Int))) (6) _ pY) rfl rfl (by decide) trivial bL) rfl rfl rfl ?_
    refine XK.nz ?_
    refine sR ?_
    refine xz 6 (pI (0)) ?_
    refine QW.seq ?_
    refine sR ?_
    refine xm 28 (pI ((((idx s0 (0:Int)).toNat:Int)-eg)-(55:Int))) ?_
    refine xm 29 (pI (0)) ?_
    refine XK.nz ?_
    refine QW.block ?_
    refine QW.loop (fun k σ=>∃ v6:Int,∃ sE:Int,k≤dm∧run (iD s0 eg) k (.L1 v6 sE)=some r∧σ=⟨aG [(0,pS s0),(6,pI v6),(7,pI ((((idx s0 (0:Int)).toNat:Int)-eg)-(55:Int))),(28,pI ((((idx s0 (0:Int)).toNat:Int)-eg)-(55:Int))),(29,pI sE)],aj [],0,[]⟩) dm zL ⟨⟨aG [(0,pS s0),(6,pI (0)),(7,pI ((((idx s0 (0:Int)).toNat:Int)-eg)-(55:Int))),(28,pI ((((idx s0 (0:Int)).toNat:Int)-eg)-(55:Int))),(29,pI (0))],aj [],0,[]⟩,View.mk 0 [] _ _ _ rfl rfl (by decide) (iC (iC (iC (iC (iC trivial))))) trivial rfl zL rfl,0,0,Nat.le_refl _,jG h,rfl⟩ ?_
    rintro Xf _ ⟨v6,sE,Xg,h,rfl⟩
    obtain ⟨Sw,rfl,h9⟩:=aQ h;replace h:=h9;clear h9;rw [iD] at h
    refine sR ?_
    refine xs 30 rfl (cJ (a:=sE) (b:=((((idx s0 (0:Int)).toNat:Int)-eg)-(55:Int))) rfl rfl rfl ?_)
    refine XK.nz ?_
    refine QW.seq ?_
    refine QW.cond (t:=(decide (sE<((((idx s0 (0:Int)).toNat:Int)-eg)-(55:Int))))) rfl zL (fun qE=>?_) (fun qE=>?_)
    ·replace h:=fF h qE
     refine QW.skip zL (aX ?_)
     refine QW.seq ?_
     refine QW.block ?_
     refine sR ?_
     refine xm 31 (pI sE) ?_
     refine xz 8 (pI sE) ?_
     refine sR ?_
     refine xm 32 (pI v6) ?_
     refine xs 33 rfl (cJ (a:=v6) (b:=(4294967296:Int)) rfl rfl rfl ?_)
     obtain ⟨YN | Su,xF,h⟩:=bG h
     ·refine XK.fr (p:= .tuple []) (H2:=_) (mG:=0) (some 34) rfl rfl (b8 [] rfl rfl TT.fD (dM (decide (v6<(4294967296:Int))) (5) _ xF) rfl rfl (by decide) trivial bL) rfl rfl rfl ?_
      refine XK.nz ?_
      refine rG ?_
      refine xm 35 (pI v6) ?_
      obtain ⟨Dh,h⟩:=gG h
      refine xs 36 rfl (Ua (a:=v6) (b:=(8:Int)) rfl rfl rfl Dh ?_)
      refine xm 37 (pS s0) ?_
      refine xm 38 (pI sE) ?_
      obtain ⟨w5,h⟩:=gG h
      refine xs 39 rfl (bX (a:=(1:Int)) (b:=sE) rfl rfl rfl w5 ?_)
      obtain ⟨Di,h⟩:=gG h
      refine xs 40 rfl (lK (l:=s0) (i:=((1:Int)+sE)) rfl TT.bY TT.nT rfl rfl Di ?_)
      refine xs 41 rfl (AU (n:=((idx s0 ((1:Int)+sE)).toNat:Int)) rfl TT.dR TT.kC rfl (AW _) ?_)
      refine xs 42 rfl (WW (a:=(wU v6 (8:Int))) (b:=((idx s0 ((1:Int)+sE)).toNat:Int)) rfl rfl rfl ?_)
      refine xa 6 (pI (Nz (wU v6 (8:Int)) ((idx s0 ((1:Int)+sE)).toNat:Int))) ?_
      refine XK.nil (g6 (aX ?_))
      refine rG ?_
      obtain ⟨ye,h⟩:=gG h
      refine xs 43 rfl (bX (a:=sE) (b:=(1:Int)) rfl rfl rfl ye ?_)
      refine xm 29 (pI (sE+(1:Int))) ?_
      refine XK.nz ?_
      exact ⟨Sw,by omega,⟨aG [(0,pS s0),(6,pI (Nz (wU v6 (8:Int)) ((idx s0 ((1:Int)+sE)).toNat:Int))),(7,pI ((((idx s0 (0:Int)).toNat:Int)-eg)-(55:Int))),(28,pI ((((idx s0 (0:Int)).toNat:Int)-eg)-(55:Int))),(29,pI (sE+(1:Int)))],aj [],0,[]⟩,View.mk 0 [] _ _ _ rfl rfl (by decide) (iC (iC (iC (iC (iC trivial))))) trivial rfl zL rfl,(Nz (wU v6 (8:Int)) ((idx s0 ((1:Int)+sE)).toNat:Int)),(sE+(1:Int)),by omega,jG h,rfl⟩
     ·refine XK.fp (p:= .d (.iface 145 (.agg [.val (.int .i64 Su)]))) (H2:=_) (mG:=0) rfl (b8 [] rfl rfl TT.fD (dM (decide (v6<(4294967296:Int))) (5) _ xF) rfl rfl (by decide) trivial bL) rfl rfl rfl (sD (Kh (sD (sD (Kh (sD ?_))))))
      obtain rfl:=sG h
      exact gh.m7 (s':=⟨aG [],aj [],0,[]⟩) (View.mk 0 [] _ _ _ rfl rfl (by decide) trivial trivial rfl zL rfl) rfl bL (fun i hi=>dX [] [] i hi) rfl (by simp [HO.bz,HO.bP,PV.bz,PV.bP,cD,bq])
    ·replace h:=fG h qE
     refine QW.exit zL (eD (eD (j3 (aX ?_))))
     refine sR ?_
     refine xm 44 (pI v6) ?_
     refine xs 45 rfl (nQ (a:=v6) (b:=(55:Int)) rfl rfl rfl ?_)
     obtain ⟨YO | Sv,yU,h⟩:=bG h
     ·refine XK.fr (p:= .tuple []) (H2:=_) (mG:=0) (some 46) rfl rfl (b8 [] rfl rfl TT.fD (dM (decide ((55:Int)<v6)) (6) _ yU) rfl rfl (by decide) trivial bL) rfl rfl rfl ?_
      refine XK.nz ?_
      refine sR ?_
      refine xm 47 (pI v6) ?_
      refine xm 48 (pI ((((idx s0 (0:Int)).toNat:Int)-eg)-(55:Int))) ?_
      obtain ⟨Sx,h⟩:=gG h
      refine xs 49 rfl (bX (a:=(1:Int)) (b:=((((idx s0 (0:Int)).toNat:Int)-eg)-(55:Int))) rfl rfl rfl Sx ?_)
      refine xa 4 (pI v6) ?_
      refine xz 5 (pI ((1:Int)+((((idx s0 (0:Int)).toNat:Int)-eg)-(55:Int)))) ?_
      refine QW.ret zL ?_
      obtain rfl:=sG h
      exact gh.more (s':=⟨aG [(4,pI v6),(5,pI ((1:Int)+((((idx s0 (0:Int)).toNat:Int)-eg)-(55:Int))))],aj [],0,[]⟩) (ps:=[pI v6,pI ((1:Int)+((((idx s0 (0:Int)).toNat:Int)-eg)-(55:Int)))]) (.inr rfl) (View.mk 0 [] _ _ _ rfl rfl (by decide) (iC (iC trivial)) trivial rfl zL rfl) rfl bL (fun i hi=>dX [] [] i hi) rfl (by simp [HO.bz,HO.bP,PV.bz,PV.bP,cD,bq]) (And.intro (aI.tmp rfl) (And.intro (aI.tmp rfl) trivial)) (by simp [PV.bz,PV.bP,cD])
     ·refine XK.fp (p:= .d (.iface 145 (.agg [.val (.int .i64 Sv)]))) (H2:=_) (mG:=0) rfl (b8 [] rfl rfl TT.fD (dM (decide ((55:Int)<v6)) (6) _ yU) rfl rfl (by decide) trivial bL) rfl rfl rfl (sD ?_)
      obtain rfl:=sG h
      exact gh.m7 (s':=⟨aG [],aj [],0,[]⟩) (View.mk 0 [] _ _ _ rfl rfl (by decide) trivial trivial rfl zL rfl) rfl bL (fun i hi=>dX [] [] i hi) rfl (by simp [HO.bz,HO.bP,PV.bz,PV.bP,cD,bq])
   ·refine XK.fp (p:= .d (.iface 145 (.agg [.val (.int .i64 Ss)]))) (H2:=_) (mG:=0) rfl (b8 [] rfl rfl TT.fD (dM (!decide (((idx s0 (1:Int)).toNat:Int)=(0:Int))) (6) _ pY) rfl rfl (by decide) trivial bL) rfl rfl rfl (sD ?_)
    obtain rfl:=sG h
    exact gh.m7 (s':=⟨aG [],aj [],0,[]⟩) (View.mk 0 [] _ _ _ rfl rfl (by decide) trivial trivial rfl zL rfl) rfl bL (fun i hi=>dX [] [] i hi) rfl (by simp [HO.bz,HO.bP,PV.bz,PV.bP,cD,bq])
  ·refine XK.fp (p:= .d (.iface 145 (.agg [.val (.int .i64 e_8)]))) (H2:=_) (mG:=0) rfl (b8 [] rfl rfl TT.fD (dM (decide (((((idx s0 (0:Int)).toNat:Int)-eg)-(55:Int))<(s0.length:Int))) (5) _ sJ) rfl rfl (by decide) trivial bL) rfl rfl rfl (sD ?_)
   obtain rfl:=sG h
   exact gh.m7 (s':=⟨aG [],aj [],0,[]⟩) (View.mk 0 [] _ _ _ rfl rfl (by decide) trivial trivial rfl zL rfl) rfl bL (fun i hi=>dX [] [] i hi) rfl (by simp [HO.bz,HO.bP,PV.bz,PV.bP,cD,bq])
inductive vD where
 | S
 | L2 (pZ:Int) (p4:Int) (jZ:(List UInt8)) (jF:Int) (mc:(List Item))
noncomputable def eA (self:(List UInt8)→Int→counter→Option (((Item×Int)⊕Int)×counter)) (s1:(List UInt8)) (dV:Int) (c0:counter):vD→Option (vD⊕(((Item×Int)⊕Int)×counter))
 | .S=>
  ((j7 dV c0).bind fun xx=>match xx with
  | (.inl m8,dS)=>
    ((iQ (!(s1==([]:List UInt8))) (5)).bind fun xx=>match xx with
    | .inl LQ=>
      gO (0≤(0:Int)∧(0:Int)<(s1.length:Int)) (
      (bif (decide (((idx s1 (0:Int)).toNat:Int)<(128:Int))) then
      gO (0≤(0:Int)∧(0:Int)≤(1:Int)∧(1:Int)≤(s1.length:Int)) (
      ((iR (sub s1 (0:Int) (1:Int))).bind fun (x_15:Item)=>
      some (.inr ((.inl (x_15,1)),dS))))
      else
      gO (0≤(0:Int)∧(0:Int)<(s1.length:Int)) (
      (((bif (decide ((192:Int)≤((idx s1 (0:Int)).toNat:Int))) then
      some (192)
      else
      some (128)):Option Int).bind fun (v9:Int)=>
      ((qb s1 v9).bind fun xx=>match xx with
      | .inl cu=>
        gO (bw ((s1.length:Int)-(cu.2))) (
        ((iQ (decide ((cu.1)≤((s1.length:Int)-(cu.2)))) (5)).bind fun xx=>match xx with
        | .inl YP=>
          gO (bw ((cu.2)+(cu.1))) (
          gO (0≤(cu.2)∧(cu.2)≤((cu.2)+(cu.1))∧((cu.2)+(cu.1))≤(s1.length:Int)) (
          (bif (!(decide ((192:Int)≤((idx s1 (0:Int)).toNat:Int)))) then
          gO ((!decide ((cu.1)=(1:Int)))=false→0≤(0:Int)∧(0:Int)<((sub s1 (cu.2) ((cu.2)+(cu.1))).length:Int)) (
          ((iQ ((!decide ((cu.1)=(1:Int)))||(decide ((128:Int)≤((idx (sub s1 (cu.2) ((cu.2)+(cu.1))) (0:Int)).toNat:Int)))) (6)).bind fun xx=>match xx with
          | .inl YQ=>
            ((iR (sub s1 (cu.2) ((cu.2)+(cu.1)))).bind fun (n8:Item)=>
            gO (bw ((cu.2)+(cu.1))) (
            some (.inr ((.inl (n8,((cu.2)+(cu.1)))),dS))))
          | .inr Sy=>
            some (.inr (.inr Sy,dS))))
          else
          some (.inl (.L2 (cu.1) (cu.2) (sub s1 (cu.2) ((cu.2)+(cu.1))) (dS.fn) ([]:(List Item)))))))
        | .inr Sz=>
          some (.inr (.inr Sz,dS))))
      | .inr SA=>
        some (.inr (.inr SA,dS)))))))
    | .inr Ag=>
      some (.inr (.inr Ag,dS)))
  | (.inr e_5,dS)=>
    some (.inr (.inr e_5,dS)))
 | .L2 pZ p4 jZ jF mc=>
  (bif (!(jZ==([]:List UInt8))) then
  gO (bw (dV+(1:Int))) (
  ((self jZ (dV+(1:Int)) (⟨jF⟩:counter)).bind fun xx=>match xx with
  | (.inl ko,yf)=>
    gO ((mc.length+([ko.1]:List Item).length)*48≤140737488355328) (
    gO (0≤(ko.2)∧(ko.2)≤(jZ.length:Int)∧(jZ.length:Int)≤(jZ.length:Int)) (
    some (.inl (.L2 pZ p4 (sub jZ (ko.2) (jZ.length:Int)) (yf.fn) (mc++([ko.1]:List Item))))))
  | (.inr SB,yf)=>
    some (.inr (.inr SB,yf))))
  else
  gO (bw (p4+pZ)) (
  some (.inr ((.inl ((⟨true,([]:List UInt8),mc⟩:Item),(p4+pZ))),(⟨jF⟩:counter)))))
noncomputable def uE (self:(List UInt8)→Int→counter→Option (((Item×Int)⊕Int)×counter)) (s1:(List UInt8)) (dV:Int) (c0:counter):Option (((Item×Int)⊕Int)×counter):=g9 (eA self s1 dV c0) .S
theorem zP (self:(List UInt8)→Int→counter→Option (((Item×Int)⊕Int)×counter)) (fQ:∀ (y0:(List UInt8)) (y1:Int) (y2:counter) (rr:(((Item×Int)⊕Int)×counter)),self y0 y1 y2=some rr→Spec Tryz.prog 110 [.aF 0 0,pS y0,pI y1] (aj [.var [pI (y2.fn)]]) 1 (lM (match rr.1 with | .inl x=>Out.ret (.tuple [.agg [pB ((x.1).cF),pS ((x.1).fS), .d (.slice (((x.1).fL).map bu))],pI (x.2)]) | .inr e=>Out.m7 (.d (.iface 145 (.agg [.val (.int .i64 e)])))) (aj [.var [pI ((rr.2).fn)]]) 1)) (s1:(List UInt8)) (dV:Int) (c0:counter) (r:(((Item×Int)⊕Int)×counter)) (h:uE self s1 dV c0=some r):Spec Tryz.prog 110 [.aF 0 0,pS s1,pI dV] (aj [.var [pI (c0.fn)]]) 1 (lM (match r.1 with | .inl x=>Out.ret (.tuple [.agg [pB ((x.1).cF),pS ((x.1).fS), .d (.slice (((x.1).fL).map bu))],pI (x.2)]) | .inr e=>Out.m7 (.d (.iface 145 (.agg [.val (.int .i64 e)])))) (aj [.var [pI ((r.2).fn)]]) 1):=by
 refine Spec.qZ Tryz.func110 rfl (by simp [Tryz.ntmps110]) bL ?_
 rw [Tryz.ntmps110,TT.Sm]
 refine QW.view (s':=⟨aG [(0, .aF 0 0),(1,pS s1),(2,pI dV)],aj [.var [pI (c0.fn)]],1,[]⟩) (View.mT bL (by rfl)) bL ?_
 replace h:=cL h
 obtain ⟨_,h⟩:=h
 obtain ⟨dm,rfl,h9⟩:=aQ h;replace h:=h9;clear h9;rw [eA] at h
 refine lN ?_
 refine xs 6 rfl (bB (l:=[pB false,pS ([]:List UInt8), .full (([]:(List Item)).map bu)]) rfl TT.mj rfl rfl ?_)
 refine xz 7 (pI (0)) ?_
 refine lN ?_
 refine xm 16 (.aF 0 0) ?_
 refine xm 17 (pI dV) ?_
 obtain ⟨⟨m8 | e_5,dS⟩,fB,h⟩:=bG h
 ·refine XK.fr (p:= .tuple []) (H2:=cG _ 0 (some (.var [pI (dS.fn)]))) (mG:=2) (some 18) rfl rfl (b8 [0] rfl rfl TT.yT (mI dV c0 _ fB) rfl rfl (by decide) (And.intro rfl trivial) bL) rfl rfl rfl ?_
  refine XK.nz ?_
  refine lN ?_
  refine xm 19 (pS s1) ?_
  refine xs 20 rfl (yO (a:=s1) (b:=([]:List UInt8)) rfl rfl rfl ?_)
  obtain ⟨LQ | Ag,pR,h⟩:=bG h
  ·refine XK.fr (p:= .tuple []) (H2:=_) (mG:=2) (some 21) rfl rfl (b8 [] rfl rfl TT.fD (dM (!(s1==([]:List UInt8))) (5) _ pR) rfl rfl (by decide) trivial bL) rfl rfl rfl ?_
   refine XK.nz ?_
   refine QW.seq ?_
   refine lN ?_
   refine xm 22 (pS s1) ?_
   obtain ⟨m5,h⟩:=gG h
   refine xs 23 rfl (lK (l:=s1) (i:=(0:Int)) rfl TT.bY TT.nT rfl rfl m5 ?_)
   refine xs 24 rfl (cJ (a:=((idx s1 (0:Int)).toNat:Int)) (b:=(128:Int)) rfl rfl rfl ?_)
   refine XK.nz ?_
   refine QW.cond (t:=(decide (((idx s1 (0:Int)).toNat:Int)<(128:Int)))) rfl bL (fun NP=>?_) (fun NP=>?_)
   ·replace h:=fF h NP
    refine lN ?_
    refine xm 25 (pS s1) ?_
    obtain ⟨rQ,h⟩:=gG h
    refine xs 26 rfl (tN (l:=s1) (a:=(0:Int)) (b:=(1:Int)) rfl TT.bY rfl rfl rfl rQ ?_)
    obtain ⟨x_15,vF,h⟩:=bG h
    refine xs 27 rfl (aA rfl rfl TT.qD rfl (mX (sub s1 (0:Int) (1:Int)) _ vF) ?_)
    refine XK.st none rfl rfl (bh (l':=[pB (x_15.cF),pS (x_15.fS), .d (.slice ((x_15.fL).map bu))]) rfl TT.eC rfl rfl rfl rfl rfl rfl (by simp) rfl ?_)
    refine xz 7 (pI (1)) ?_
    refine QW.ret bL (gm ?_)
    obtain rfl:=sG h
    exact gh.more (s':=⟨aG [(6, .aF 1 0),(7,pI (1))],aj [.var [pI (dS.fn)], .var [pB (x_15.cF),pS (x_15.fS), .d (.slice ((x_15.fL).map bu))]],2,[]⟩) (ps:=[.agg [pB (x_15.cF),pS (x_15.fS), .d (.slice ((x_15.fL).map bu))],pI (1)]) (.inr rfl) (View.mk 2 [0,1] _ _ _ rfl rfl (by decide) (iC (iC trivial)) (And.intro rfl (And.intro rfl trivial)) rfl bL rfl) rfl bL (fun i hi=>dX [.var [pI (dS.fn)]] [.var [pB (x_15.cF),pS (x_15.fS), .d (.slice ((x_15.fL).map bu))]] i hi) rfl (by simp [HO.bz,HO.bP,PV.bz,PV.bP,cD,bq]) (And.intro (aI.cell rfl rfl TT.eC ⟨⟨by simp,by simp⟩,rfl⟩) (And.intro (aI.tmp rfl) trivial)) (by simp [PV.bz,PV.bP,cD])
   ·replace h:=fG h NP
    refine QW.skip bL (aX ?_)
    refine lN ?_
    refine xm 28 (pS s1) ?_
    obtain ⟨pT,h⟩:=gG h
    refine xs 29 rfl (lK (l:=s1) (i:=(0:Int)) rfl TT.bY TT.nT rfl rfl pT ?_)
    refine xs 30 rfl (uU (a:=((idx s1 (0:Int)).toNat:Int)) (b:=(192:Int)) rfl rfl rfl ?_)
    refine xz 8 (pB (decide ((192:Int)≤((idx s1 (0:Int)).toNat:Int)))) ?_
    refine lN ?_
    refine xz 9 (pI (128)) ?_
    obtain ⟨v9,hq,h⟩:=bG h
    refine QW.qY (fun s'=>s'=⟨aG [(0, .aF 0 0),(1,pS s1),(2,pI dV),(6, .aF 1 0),(8,pB (decide ((192:Int)≤((idx s1 (0:Int)).toNat:Int)))),(9,pI v9)],aj [.var [pI (dS.fn)], .var [pB false,pS ([]:List UInt8), .full (([]:(List Item)).map bu)]],2,[]⟩) ?_ ?_
    ·replace h:=hq;clear hq
     refine lN ?_
     refine xm 31 (pB (decide ((192:Int)≤((idx s1 (0:Int)).toNat:Int)))) ?_
     refine XK.nz ?_
     refine QW.cond (t:=(decide ((192:Int)≤((idx s1 (0:Int)).toNat:Int)))) rfl bL (fun Cd=>?_) (fun Cd=>?_)
     ·replace h:=bT h Cd
      refine Fq ?_
      refine xz 9 (pI (192)) ?_
      obtain rfl:=sO h
      exact ⟨⟨aG [(0, .aF 0 0),(1,pS s1),(2,pI dV),(6, .aF 1 0),(8,pB (decide ((192:Int)≤((idx s1 (0:Int)).toNat:Int)))),(9,pI (192))],aj [.var [pI (dS.fn)], .var [pB false,pS ([]:List UInt8), .full (([]:(List Item)).map bu)]],2,[]⟩,View.mk 2 [0,1] _ _ _ rfl rfl (by decide) (iC (iC (iC (iC (iC (iC trivial)))))) (And.intro rfl (And.intro rfl trivial)) rfl bL rfl,rfl⟩
     ·replace h:=bF h Cd
      refine QW.skip bL (aX ?_)
      obtain rfl:=sO h
      exact ⟨⟨aG [(0, .aF 0 0),(1,pS s1),(2,pI dV),(6, .aF 1 0),(8,pB (decide ((192:Int)≤((idx s1 (0:Int)).toNat:Int)))),(9,pI (128))],aj [.var [pI (dS.fn)], .var [pB false,pS ([]:List UInt8), .full (([]:(List Item)).map bu)]],2,[]⟩,View.mk 2 [0,1] _ _ _ rfl rfl (by decide) (iC (iC (iC (iC (iC (iC trivial)))))) (And.intro rfl (And.intro rfl trivial)) rfl bL rfl,rfl⟩
    ·rintro _ rfl
     refine lN ?_
     refine xm 33 (pS s1) ?_
     refine xm 34 (pI v9) ?_
     obtain ⟨cu | SA,SC,h⟩:=bG h
     ·refine XK.fr (p:= .tuple [pI (cu.1),pI (cu.2)]) (H2:=_) (mG:=2) (some 35) rfl rfl (b8 [] rfl rfl TT.EV (zD s1 v9 _ SC) rfl rfl (by decide) trivial bL) rfl rfl rfl ?_
      refine xm 32 (.tuple [pI (cu.1),pI (cu.2)]) ?_
      refine xs 36 rfl (pE rfl rfl rfl ?_)
      refine xs 37 rfl (pE rfl rfl rfl ?_)
      refine xa 10 (pI (cu.1)) ?_
      refine xz 11 (pI (cu.2)) ?_
      refine lN ?_
      refine xm 38 (pI (cu.1)) ?_
      refine xm 39 (pS s1) ?_
      refine xs 40 rfl (gE (l:=s1) rfl TT.bY rfl ?_)
      refine xm 41 (pI (cu.2)) ?_
      obtain ⟨w5,h⟩:=gG h
      refine xs 42 rfl (mE (a:=(s1.length:Int)) (b:=(cu.2)) rfl rfl rfl w5 ?_)
      refine xs 43 rfl (yN (a:=(cu.1)) (b:=((s1.length:Int)-(cu.2))) rfl rfl rfl ?_)
      obtain ⟨YP | Sz,SD,h⟩:=bG h
      ·refine XK.fr (p:= .tuple []) (H2:=_) (mG:=2) (some 44) rfl rfl (b8 [] rfl rfl TT.fD (dM (decide ((cu.1)≤((s1.length:Int)-(cu.2)))) (5) _ SD) rfl rfl (by decide) trivial bL) rfl rfl rfl ?_
       refine XK.nz ?_
       refine QW.seq ?_
       refine QW.view (s':=⟨aG [(0, .aF 0 0),(1,pS s1),(2,pI dV),(6, .aF 1 0),(8,pB (decide ((192:Int)≤((idx s1 (0:Int)).toNat:Int)))),(10,pI (cu.1)),(11,pI (cu.2))],aj [.var [pI (dS.fn)], .var [pB false,pS ([]:List UInt8), .full (([]:(List Item)).map bu)]],2,[]⟩) (View.mk 2 [0,1] _ _ _ rfl rfl (by decide) (iC (iC (iC (iC (iC (iC (iC trivial))))))) (And.intro rfl (And.intro rfl trivial)) rfl bL rfl) bL ?_
       refine Fq ?_
       refine xm 45 (pS s1) ?_
       refine xm 46 (pI (cu.2)) ?_
       refine xm 47 (pI (cu.2)) ?_
       refine xm 48 (pI (cu.1)) ?_
       obtain ⟨zE,h⟩:=gG h
       refine xs 49 rfl (bX (a:=(cu.2)) (b:=(cu.1)) rfl rfl rfl zE ?_)
       obtain ⟨GL,h⟩:=gG h
       refine xs 50 rfl (tN (l:=s1) (a:=(cu.2)) (b:=((cu.2)+(cu.1))) rfl TT.bY rfl rfl rfl GL ?_)
       refine xz 12 (pS (sub s1 (cu.2) ((cu.2)+(cu.1)))) ?_
       refine QW.seq ?_
       refine lN ?_
       refine xm 51 (pB (decide ((192:Int)≤((idx s1 (0:Int)).toNat:Int)))) ?_
       refine xs 52 rfl (ou rfl rfl ?_)
       refine XK.nz ?_
       refine QW.cond (t:=(!(decide ((192:Int)≤((idx s1 (0:Int)).toNat:Int))))) rfl bL (fun NQ=>?_) (fun NQ=>?_)
       ·replace h:=fF h NQ
        refine lN ?_
        refine xm 53 (pI (cu.1)) ?_
        refine xs 54 rfl (qA (a:=(cu.1)) (b:=(1:Int)) rfl rfl rfl ?_)
        refine xm 55 (pB (!decide ((cu.1)=(1:Int)))) ?_
        refine xg 56 (pS (sub s1 (cu.2) ((cu.2)+(cu.1)))) rfl rfl (fun hg=>au (v:=pS (sub s1 (cu.2) ((cu.2)+(cu.1)))) rfl rfl g3) ?_
        obtain ⟨LR,h⟩:=gG h
        refine xg 57 (.d (.val (.int .u8 ((idx (sub s1 (cu.2) ((cu.2)+(cu.1))) (0:Int)).toNat:Int)))) rfl rfl (fun hg=>lK (l:=(sub s1 (cu.2) ((cu.2)+(cu.1)))) (i:=(0:Int)) rfl TT.bY TT.nT rfl rfl (LR (Fp hg)) g3) ?_
        refine xg 58 (pB (decide ((128:Int)≤((idx (sub s1 (cu.2) ((cu.2)+(cu.1))) (0:Int)).toNat:Int)))) rfl rfl (fun hg=>uU (a:=((idx (sub s1 (cu.2) ((cu.2)+(cu.1))) (0:Int)).toNat:Int)) (b:=(128:Int)) rfl rfl rfl g3) ?_
        refine xs 59 rfl (jt rfl rfl rfl rfl (fun _=>rfl) (fun hb=>by rw [hb];rfl) ?_)
        obtain ⟨YQ | Sy,Kp,h⟩:=bG h
        ·refine XK.fr (p:= .tuple []) (H2:=_) (mG:=2) (some 60) rfl rfl (b8 [] rfl rfl TT.fD (dM ((!decide ((cu.1)=(1:Int)))||(decide ((128:Int)≤((idx (sub s1 (cu.2) ((cu.2)+(cu.1))) (0:Int)).toNat:Int)))) (6) _ Kp) rfl rfl (by decide) trivial bL) rfl rfl rfl ?_
         refine XK.nz ?_
         refine lN ?_
         refine xm 61 (pS (sub s1 (cu.2) ((cu.2)+(cu.1)))) ?_
         obtain ⟨n8,NR,h⟩:=bG h
         refine xs 62 rfl (aA rfl rfl TT.qD rfl (mX (sub s1 (cu.2) ((cu.2)+(cu.1))) _ NR) ?_)
         refine xm 63 (pI (cu.2)) ?_
         refine xm 64 (pI (cu.1)) ?_
         obtain ⟨SE,h⟩:=gG h
         refine xs 65 rfl (bX (a:=(cu.2)) (b:=(cu.1)) rfl rfl rfl SE ?_)
         refine XK.st none rfl rfl (bh (l':=[pB (n8.cF),pS (n8.fS), .d (.slice ((n8.fL).map bu))]) rfl TT.eC rfl rfl rfl rfl rfl rfl (by simp) rfl ?_)
         refine xz 7 (pI ((cu.2)+(cu.1))) ?_
         refine QW.ret bL (gm ?_)
         obtain rfl:=sG h
         exact gh.more (s':=⟨aG [(6, .aF 1 0),(7,pI ((cu.2)+(cu.1)))],aj [.var [pI (dS.fn)], .var [pB (n8.cF),pS (n8.fS), .d (.slice ((n8.fL).map bu))]],2,[]⟩) (ps:=[.agg [pB (n8.cF),pS (n8.fS), .d (.slice ((n8.fL).map bu))],pI ((cu.2)+(cu.1))]) (.inr rfl) (View.mk 2 [0,1] _ _ _ rfl rfl (by decide) (iC (iC trivial)) (And.intro rfl (And.intro rfl trivial)) rfl bL rfl) rfl bL (fun i hi=>dX [.var [pI (dS.fn)]] [.var [pB (n8.cF),pS (n8.fS), .d (.slice ((n8.fL).map bu))]] i hi) rfl (by simp [HO.bz,HO.bP,PV.bz,PV.bP,cD,bq]) (And.intro (aI.cell rfl rfl TT.eC ⟨⟨by simp,by simp⟩,rfl⟩) (And.intro (aI.tmp rfl) trivial)) (by simp [PV.bz,PV.bP,cD])
        ·refine XK.fp (p:= .d (.iface 145 (.agg [.val (.int .i64 Sy)]))) (H2:=_) (mG:=2) rfl (b8 [] rfl rfl TT.fD (dM ((!decide ((cu.1)=(1:Int)))||(decide ((128:Int)≤((idx (sub s1 (cu.2) ((cu.2)+(cu.1))) (0:Int)).toNat:Int)))) (6) _ Kp) rfl rfl (by decide) trivial bL) rfl rfl rfl (sD (sD ?_))
         obtain rfl:=sG h
         exact gh.m7 (s':=⟨aG [],aj [.var [pI (dS.fn)]],1,[]⟩) (View.mk 1 [0] _ _ _ rfl rfl (by decide) trivial (And.intro rfl trivial) rfl bL rfl) rfl bL (fun i hi=>dX [.var [pI (dS.fn)]] [] i hi) rfl (by simp [HO.bz,HO.bP,PV.bz,PV.bP,cD,bq])
       ·replace h:=fG h NQ
        refine QW.skip bL (aX ?_)
        refine lN ?_
        refine xs 66 rfl (eT (v:= .agg [pB true,pS ([]:List UInt8), .full (([]:(List Item)).map bu)]) rfl TT.x9 (dG rfl (cw (cells':=[pB true,pS ([]:List UInt8), .full (([]:(List Item)).map bu)]) rfl rfl rfl bL rfl dF)) ?_)
        refine xs 13 rfl (bB (l:=[pB false,pS ([]:List UInt8), .full (([]:(List Item)).map bu)]) rfl TT.mj rfl rfl ?_)
        refine XK.st none rfl rfl (bh (l':=[pB true,pS ([]:List UInt8), .full (([]:(List Item)).map bu)]) rfl TT.eC rfl rfl rfl rfl rfl rfl (by simp) rfl ?_)
        refine XK.nz ?_
        refine QW.seq ?_
        refine QW.block ?_
        refine QW.loop (fun k σ=>∃ pZ:Int,∃ p4:Int,∃ jZ:(List UInt8),∃ jF:Int,∃ mc:(List Item),k≤dm∧run (eA self s1 dV c0) k (.L2 pZ p4 jZ jF mc)=some r∧σ=⟨aG [(0, .aF 0 0),(2,pI dV),(6, .aF 1 0),(10,pI pZ),(11,pI p4),(12,pS jZ),(13, .aF 2 0)],aj [.var [pI jF], .var [pB false,pS ([]:List UInt8), .full (([]:(List Item)).map bu)], .var [pB true,pS ([]:List UInt8), .own 3 (mc.map bu)], .spare 3 mc.length],4,[]⟩) dm bL ⟨⟨aG [(0, .aF 0 0),(2,pI dV),(6, .aF 1 0),(10,pI (cu.1)),(11,pI (cu.2)),(12,pS (sub s1 (cu.2) ((cu.2)+(cu.1)))),(13, .aF 2 0)],aj [.var [pI (dS.fn)], .var [pB false,pS ([]:List UInt8), .full (([]:(List Item)).map bu)], .var [pB true,pS ([]:List UInt8), .own 3 (([]:(List Item)).map bu)], .spare 3 ([]:(List Item)).length],4,[]⟩,View.trans (View.Wn 2 2 3 rfl rfl bL) (View.mk 4 [0,1,2,3] _ _ _ rfl rfl (by decide) (iC (iC (iC (iC (iC (iC (iC trivial))))))) (And.intro rfl (And.intro rfl (And.intro rfl (And.intro rfl trivial)))) rfl bL rfl),cu.1,cu.2,(sub s1 (cu.2) ((cu.2)+(cu.1))),dS.fn,([]:(List Item)),Nat.le_refl _,jG h,rfl⟩ ?_
        rintro aat _ ⟨pZ,p4,jZ,jF,mc,aau,h,rfl⟩
        obtain ⟨YR,rfl,h9⟩:=aQ h;replace h:=h9;clear h9;rw [eA] at h
        refine QW.seq ?_
        refine lN ?_
        refine xm 67 (pS jZ) ?_
        refine xs 68 rfl (yO (a:=jZ) (b:=([]:List UInt8)) rfl rfl rfl ?_)
        refine XK.nz ?_
        refine QW.cond (t:=(!(jZ==([]:List UInt8)))) rfl bL (fun NS=>?_) (fun NS=>?_)
        ·replace h:=fF h NS
         refine QW.skip bL (aX ?_)
         refine QW.block ?_
         refine lN ?_
         refine xm 70 (.aF 0 0) ?_
         refine xm 71 (pS jZ) ?_
         refine xm 72 (pI dV) ?_
         obtain ⟨SF,h⟩:=gG h
         refine xs 73 rfl (bX (a:=dV) (b:=(1:Int)) rfl rfl rfl SF ?_)
         obtain ⟨⟨ko | SB,yf⟩,Kq,h⟩:=bG h
         ·refine XK.fr (p:= .tuple [.agg [pB ((ko.1).cF),pS ((ko.1).fS), .d (.slice (((ko.1).fL).map bu))],pI (ko.2)]) (H2:=cG _ 0 (some (.var [pI (yf.fn)]))) (mG:=4) (some 74) rfl rfl (b8 [0] rfl rfl TT.wZ (fQ jZ (dV+(1:Int)) (⟨jF⟩:counter) _ Kq) rfl rfl (by decide) (And.intro rfl trivial) bL) rfl rfl rfl ?_
          refine xm 69 (.tuple [.agg [pB ((ko.1).cF),pS ((ko.1).fS), .d (.slice (((ko.1).fL).map bu))],pI (ko.2)]) ?_
          refine xs 75 rfl (pE rfl rfl rfl ?_)
          refine xs 76 rfl (pE rfl rfl rfl ?_)
          refine xs 14 rfl (bB (l:=[pB false,pS ([]:List UInt8), .full (([]:(List Item)).map bu)]) rfl TT.mj rfl rfl ?_)
          refine XK.st none rfl rfl (bh (l':=[pB ((ko.1).cF),pS ((ko.1).fS), .d (.slice (((ko.1).fL).map bu))]) rfl TT.eC rfl rfl rfl rfl rfl rfl (by simp) rfl ?_)
          refine xz 15 (pI (ko.2)) ?_
          refine lN ?_
          refine xs 77 rfl (gF rfl TT.mV (by decide) rfl ?_)
          refine xs 78 rfl (bD (v:= .own 3 (mc.map bu)) rfl TT.tv rfl rfl ⟨⟨by simp,by simp⟩,rfl⟩ ?_)
          refine XK.as (some 79) rfl rfl (bD (v:= .agg [pB ((ko.1).cF),pS ((ko.1).fS), .d (.slice (((ko.1).fL).map bu))]) rfl TT.eC rfl rfl ⟨⟨by simp,by simp⟩,rfl⟩ ⟨.d (.agg (dA (ko.1))),(iH.dj rfl),?_⟩)
          refine xs 80 rfl (ef (en:=bu) (l:=([ko.1]:List Item)) rfl TT.rN kQ (by first | rfl | (simp only [List.map_cons,List.map_nil,vf];rfl)) rfl (by decide) (by simp [dw,cU,aB,dQ,PV.cz,cx,aG,jA,iU,jX,bU,Value.oneCell']) ?_)
          obtain ⟨YS,h⟩:=gG h
          refine xs 81 rfl (iY (en:=bu) (l:=mc) (l2:=([ko.1]:List Item)) rfl TT.rN TT.q7 rfl kQ rfl rfl rfl YS (by decide) ?_)
          refine xs 82 rfl (gF rfl TT.mV (by decide) rfl ?_)
          refine XK.st none rfl rfl (bh (l':=[pB true,pS ([]:List UInt8), .own 5 ((mc++([ko.1]:List Item)).map bu)]) rfl TT.tv rfl rfl rfl rfl rfl rfl (by simp) rfl ?_)
          refine XK.nz ?_
          refine QW.view (s':=⟨aG [(0, .aF 0 0),(2,pI dV),(6, .aF 1 0),(10,pI pZ),(11,pI p4),(12,pS jZ),(13, .aF 2 0),(15,pI (ko.2))],aj [.var [pI (yf.fn)], .var [pB false,pS ([]:List UInt8), .full (([]:(List Item)).map bu)], .var [pB true,pS ([]:List UInt8), .own 3 ((mc++([ko.1]:List Item)).map bu)], .spare 3 (mc++([ko.1]:List Item)).length],4,[]⟩) (View.mk 4 [0,1,2,5] _ _ _ rfl rfl (by decide) (iC (iC (iC (iC (iC (iC (iC (iC trivial)))))))) (And.intro rfl (And.intro rfl (And.intro rfl (And.intro rfl trivial)))) rfl bL rfl) bL ?_
          refine Fq ?_
          refine xm 83 (pS jZ) ?_
          refine xm 84 (pI (ko.2)) ?_
          obtain ⟨YT,h⟩:=gG h
          refine xs 85 rfl (tN (l:=jZ) (a:=(ko.2)) (b:=(jZ.length:Int)) rfl TT.bY rfl rfl rfl YT ?_)
          refine xa 12 (pS (sub jZ (ko.2) (jZ.length:Int))) ?_
          refine XK.nil (g6 (aX ?_))
          exact ⟨YR,by omega,⟨aG [(0, .aF 0 0),(2,pI dV),(6, .aF 1 0),(10,pI pZ),(11,pI p4),(12,pS (sub jZ (ko.2) (jZ.length:Int))),(13, .aF 2 0)],aj [.var [pI (yf.fn)], .var [pB false,pS ([]:List UInt8), .full (([]:(List Item)).map bu)], .var [pB true,pS ([]:List UInt8), .own 3 ((mc++([ko.1]:List Item)).map bu)], .spare 3 (mc++([ko.1]:List Item)).length],4,[]⟩,View.mk 4 [0,1,2,3] _ _ _ rfl rfl (by decide) (iC (iC (iC (iC (iC (iC (iC trivial))))))) (And.intro rfl (And.intro rfl (And.intro rfl (And.intro rfl trivial)))) rfl bL rfl,pZ,p4,(sub jZ (ko.2) (jZ.length:Int)),yf.fn,(mc++([ko.1]:List Item)),by omega,jG h,rfl⟩
         ·refine XK.fp (p:= .d (.iface 145 (.agg [.val (.int .i64 SB)]))) (H2:=cG _ 0 (some (.var [pI (yf.fn)]))) (mG:=4) rfl (b8 [0] rfl rfl TT.wZ (fQ jZ (dV+(1:Int)) (⟨jF⟩:counter) _ Kq) rfl rfl (by decide) (And.intro rfl trivial) bL) rfl rfl rfl (sD (Kh (sD (Kh (sD ?_)))))
          obtain rfl:=sG h
          exact gh.m7 (s':=⟨aG [],aj [.var [pI (yf.fn)]],1,[]⟩) (View.mk 1 [0] _ _ _ rfl rfl (by decide) trivial (And.intro rfl trivial) rfl bL rfl) rfl bL (fun i hi=>dX [.var [pI (yf.fn)]] [] i hi) rfl (by simp [HO.bz,HO.bP,PV.bz,PV.bP,cD,bq])
        ·replace h:=fG h NS
         refine QW.exit bL (eD (eD (j3 (aX ?_))))
         refine lN ?_
         refine xs 86 rfl (bD (v:= .agg [pB true,pS ([]:List UInt8), .own 3 (mc.map bu)]) rfl TT.eC rfl rfl ⟨⟨by simp,by simp⟩,rfl⟩ ?_)
         refine xm 87 (pI p4) ?_
         refine xm 88 (pI pZ) ?_
         obtain ⟨YU,h⟩:=gG h
         refine xs 89 rfl (bX (a:=p4) (b:=pZ) rfl rfl rfl YU ?_)
         refine XK.st none rfl rfl (bh (l':=[pB true,pS ([]:List UInt8), .own 3 (mc.map bu)]) rfl TT.eC rfl rfl rfl rfl rfl rfl (by simp) rfl ?_)
         refine xz 7 (pI (p4+pZ)) ?_
         refine QW.ret bL ?_
         obtain rfl:=sG h
         exact gh.more (s':=⟨aG [(6, .aF 1 0),(7,pI (p4+pZ))],aj [.var [pI jF], .var [pB true,pS ([]:List UInt8), .d (.slice (mc.map bu))]],2,[]⟩) (ps:=[.agg [pB true,pS ([]:List UInt8), .d (.slice (mc.map bu))],pI (p4+pZ)]) (.inr rfl) (View.trans (View.R1 1 2 rfl rfl rfl bL) (View.mk 2 [0,1] _ _ _ rfl rfl (by decide) (iC (iC trivial)) (And.intro rfl (And.intro rfl trivial)) rfl bL rfl)) rfl bL (fun i hi=>dX [.var [pI jF]] [.var [pB true,pS ([]:List UInt8), .d (.slice (mc.map bu))]] i hi) rfl (by simp [HO.bz,HO.bP,PV.bz,PV.bP,cD,bq]) (And.intro (aI.cell rfl rfl TT.eC ⟨⟨by simp,by simp⟩,rfl⟩) (And.intro (aI.tmp rfl) trivial)) (by simp [PV.bz,PV.bP,cD])
      ·refine XK.fp (p:= .d (.iface 145 (.agg [.val (.int .i64 Sz)]))) (H2:=_) (mG:=2) rfl (b8 [] rfl rfl TT.fD (dM (decide ((cu.1)≤((s1.length:Int)-(cu.2)))) (5) _ SD) rfl rfl (by decide) trivial bL) rfl rfl rfl (sD ?_)
       obtain rfl:=sG h
       exact gh.m7 (s':=⟨aG [],aj [.var [pI (dS.fn)]],1,[]⟩) (View.mk 1 [0] _ _ _ rfl rfl (by decide) trivial (And.intro rfl trivial) rfl bL rfl) rfl bL (fun i hi=>dX [.var [pI (dS.fn)]] [] i hi) rfl (by simp [HO.bz,HO.bP,PV.bz,PV.bP,cD,bq])
     ·refine XK.fp (p:= .d (.iface 145 (.agg [.val (.int .i64 SA)]))) (H2:=_) (mG:=2) rfl (b8 [] rfl rfl TT.EV (zD s1 v9 _ SC) rfl rfl (by decide) trivial bL) rfl rfl rfl (sD ?_)
      obtain rfl:=sG h
      exact gh.m7 (s':=⟨aG [],aj [.var [pI (dS.fn)]],1,[]⟩) (View.mk 1 [0] _ _ _ rfl rfl (by decide) trivial (And.intro rfl trivial) rfl bL rfl) rfl bL (fun i hi=>dX [.var [pI (dS.fn)]] [] i hi) rfl (by simp [HO.bz,HO.bP,PV.bz,PV.bP,cD,bq])
  ·refine XK.fp (p:= .d (.iface 145 (.agg [.val (.int .i64 Ag)]))) (H2:=_) (mG:=2) rfl (b8 [] rfl rfl TT.fD (dM (!(s1==([]:List UInt8))) (5) _ pR) rfl rfl (by decide) trivial bL) rfl rfl rfl (sD ?_)
   obtain rfl:=sG h
   exact gh.m7 (s':=⟨aG [],aj [.var [pI (dS.fn)]],1,[]⟩) (View.mk 1 [0] _ _ _ rfl rfl (by decide) trivial (And.intro rfl trivial) rfl bL rfl) rfl bL (fun i hi=>dX [.var [pI (dS.fn)]] [] i hi) rfl (by simp [HO.bz,HO.bP,PV.bz,PV.bP,cD,bq])
 ·refine XK.fp (p:= .d (.iface 145 (.agg [.val (.int .i64 e_5)]))) (H2:=cG _ 0 (some (.var [pI (dS.fn)]))) (mG:=2) rfl (b8 [0] rfl rfl TT.yT (mI dV c0 _ fB) rfl rfl (by decide) (And.intro rfl trivial) bL) rfl rfl rfl (sD ?_)
  obtain rfl:=sG h
  exact gh.m7 (s':=⟨aG [],aj [.var [pI (dS.fn)]],1,[]⟩) (View.mk 1 [0] _ _ _ rfl rfl (by decide) trivial (And.intro rfl trivial) rfl bL rfl) rfl bL (fun i hi=>dX [.var [pI (dS.fn)]] [] i hi) rfl (by simp [HO.bz,HO.bP,PV.bz,PV.bP,cD,bq])
noncomputable def ij:Nat→(List UInt8)→Int→counter→Option (((Item×Int)⊕Int)×counter)
 | 0=>fun _ _ _=>none
 | n+1=>fun y0 y1 y2=>uE (ij n) y0 y1 y2
theorem sK:∀ (n:Nat) (y0:(List UInt8)) (y1:Int) (y2:counter) (rr:(((Item×Int)⊕Int)×counter)),ij n y0 y1 y2=some rr→Spec Tryz.prog 110 [.aF 0 0,pS y0,pI y1] (aj [.var [pI (y2.fn)]]) 1 (lM (match rr.1 with | .inl x=>Out.ret (.tuple [.agg [pB ((x.1).cF),pS ((x.1).fS), .d (.slice (((x.1).fL).map bu))],pI (x.2)]) | .inr e=>Out.m7 (.d (.iface 145 (.agg [.val (.int .i64 e)])))) (aj [.var [pI ((rr.2).fn)]]) 1)
 | 0,_,_,_,_,h=>by cases h
 | n+1,y0,y1,y2,rr,h=>zP (ij n) (sK n) y0 y1 y2 rr h
noncomputable def qF (y0:(List UInt8)) (y1:Int) (y2:counter):Option (((Item×Int)⊕Int)×counter):=wX (fun n=>ij n y0 y1 y2)
theorem tQ (y0:(List UInt8)) (y1:Int) (y2:counter) (rr:(((Item×Int)⊕Int)×counter)) (h:qF y0 y1 y2=some rr):Spec Tryz.prog 110 [.aF 0 0,pS y0,pI y1] (aj [.var [pI (y2.fn)]]) 1 (lM (match rr.1 with | .inl x=>Out.ret (.tuple [.agg [pB ((x.1).cF),pS ((x.1).fS), .d (.slice (((x.1).fL).map bu))],pI (x.2)]) | .inr e=>Out.m7 (.d (.iface 145 (.agg [.val (.int .i64 e)])))) (aj [.var [pI ((rr.2).fn)]]) 1):=by
 obtain ⟨n,hn⟩:=oe h
 exact sK n y0 y1 y2 rr hn
noncomputable def vG (s0:(List UInt8)):Option (Item×Int×Int):=
  ((qF s0 (0) (⟨0⟩:counter)).bind fun xx=>match xx with
  | (.inl m8,dS)=>
    some (m8.1,m8.2,0)
  | (.inr e_5,dS)=>
    some ((⟨false,([]:List UInt8),([]:(List Item))⟩:Item),0,e_5))
theorem Kr (s0:(List UInt8)) (r:(Item×Int×Int)) (h:vG s0=some r):bI Tryz.prog 101 [.val (sV s0)] (.tuple [.agg (dA (r.1)), .val (.int .i64 (r.2.1)), .val (.int .i64 (r.2.2))]):=by
 refine bI.x8 Tryz.func101 rfl (by simp [Tryz.ntmps101]) TT.GF ?_
 rw [Tryz.ntmps101,TT.Sk]
 refine QW.view (s':=⟨aG [(0,pS s0)],aj [],0,[]⟩) (View.init (by rfl)) zL ?_
 unfold vG at h
 refine sR ?_
 refine xs 2 rfl (bB (l:=[pB false,pS ([]:List UInt8), .full (([]:(List Item)).map bu)]) rfl TT.mj rfl rfl ?_)
 refine xa 3 (pI (0)) ?_
 refine xs 4 rfl (bB (l:=[pI (0)]) rfl TT.ya rfl rfl ?_)
 refine XK.nz ?_
 refine sR ?_
 refine XK.df (L:=[.aF 1 0]) none rfl rfl rfl rfl rfl ?_
 refine XK.nz ?_
 refine sR ?_
 refine xs 6 rfl (bB (l:=[pI (0)]) rfl TT.GH rfl rfl ?_)
 refine xm 7 (pS s0) ?_
 obtain ⟨⟨m8 | e_5,dS⟩,fB,h⟩:=bO h
 ·refine XK.fr (p:= .tuple [.agg [pB ((m8.1).cF),pS ((m8.1).fS), .d (.slice (((m8.1).fL).map bu))],pI (m8.2)]) (H2:=cG _ 2 (some (.var [pI (dS.fn)]))) (mG:=3) (some 8) rfl rfl (b8 [2] rfl rfl TT.wZ (tQ s0 (0) (⟨0⟩:counter) _ fB) rfl rfl (by decide) (And.intro rfl trivial) bL) rfl rfl rfl ?_
  refine xm 5 (.tuple [.agg [pB ((m8.1).cF),pS ((m8.1).fS), .d (.slice (((m8.1).fL).map bu))],pI (m8.2)]) ?_
  refine xs 9 rfl (pE rfl rfl rfl ?_)
  refine xs 10 rfl (pE rfl rfl rfl ?_)
  refine XK.st none rfl rfl (bh (l':=[pB ((m8.1).cF),pS ((m8.1).fS), .d (.slice (((m8.1).fL).map bu))]) rfl TT.eC rfl rfl rfl rfl rfl rfl (by simp) rfl ?_)
  refine xz 3 (pI (m8.2)) ?_
  refine sR ?_
  refine XK.as (some 11) rfl rfl (bD (v:= .agg [pB ((m8.1).cF),pS ((m8.1).fS), .d (.slice (((m8.1).fL).map bu))]) rfl TT.eC rfl rfl ⟨⟨by simp,by simp⟩,rfl⟩ ⟨.d (.agg (dA (m8.1))),(iH.dj rfl),?_⟩)
  refine xm 12 (pI (m8.2)) ?_
  refine XK.st none rfl rfl (bh (l':=[pB ((m8.1).cF),pS ((m8.1).fS), .d (.slice (((m8.1).fL).map bu))]) rfl TT.eC rfl rfl rfl rfl rfl rfl (by simp) rfl ?_)
  refine xa 3 (pI (m8.2)) ?_
  refine XK.st none rfl rfl (bh (l':=[pI (0)]) rfl TT.kr rfl rfl rfl rfl rfl rfl (by simp) rfl ?_)
  refine XK.nz ?_
  refine QW.ret zL ?_
  obtain rfl:=sO h
  exact .inl (vw.more [.agg [pB ((m8.1).cF),pS ((m8.1).fS), .d (.slice (((m8.1).fL).map bu))],pI (m8.2),pI (0)] 1 (pI (0)) (pI (0)) none rfl rfl (rq 0) rfl rfl rfl (And.intro (aI.cell rfl rfl TT.eC ⟨⟨by simp,by simp⟩,rfl⟩) (And.intro (aI.tmp rfl) (And.intro (aI.cell rfl rfl TT.kr ⟨⟨by simp,by simp⟩,rfl⟩) trivial))) rfl)
 ·refine XK.fp (p:= .d (.iface 145 (.agg [.val (.int .i64 e_5)]))) (H2:=cG _ 2 (some (.var [pI (dS.fn)]))) (mG:=3) rfl (b8 [2] rfl rfl TT.wZ (tQ s0 (0) (⟨0⟩:counter) _ fB) rfl rfl (by decide) (And.intro rfl trivial) bL) rfl rfl rfl (sD ?_)
  obtain rfl:=sO h
  exact .inl (vw.more [.agg [pB false,pS ([]:List UInt8), .full (([]:(List Item)).map bu)],pI (0),pI e_5] 1 (pI (0)) (pI e_5) (some (.iface 145 (.agg [.val (.int .i64 e_5)]))) rfl rfl (ru 0 e_5) rfl rfl (⟨_,rfl,rfl⟩) (And.intro (aI.cell rfl rfl TT.eC ⟨⟨by simp,by simp⟩,rfl⟩) (And.intro (aI.tmp rfl) (And.intro (aI.cell rfl rfl TT.kr ⟨⟨by simp,by simp⟩,rfl⟩) trivial))) rfl)
noncomputable def ku (s0:(List UInt8)):Option (Item×Int):=
  ((vG s0).bind fun (x_1:(Item×Int×Int))=>
  (bif (!decide ((x_1.2.2)=(0:Int))) then
  some ((⟨false,([]:List UInt8),([]:(List Item))⟩:Item),x_1.2.2)
  else
  (bif (!decide ((x_1.2.1)=(s0.length:Int))) then
  some ((⟨false,([]:List UInt8),([]:(List Item))⟩:Item),6)
  else
  some (x_1.1,0))))
theorem Ah (s0:(List UInt8)) (r:(Item×Int)) (h:ku s0=some r):bI Tryz.prog 83 [.val (sV s0)] (.tuple [.agg (dA (r.1)), .val (.int .i64 (r.2))]):=by
 refine bI.aU Tryz.func83 rfl (by simp [Tryz.ntmps83]) ?_
 rw [Tryz.ntmps83,TT.UE]
 refine QW.view (s':=⟨aG [(0,pS s0)],aj [],0,[]⟩) (View.init (by rfl)) zL ?_
 unfold ku at h
 refine sR ?_
 refine xs 2 rfl (bB (l:=[pB false,pS ([]:List UInt8), .full (([]:(List Item)).map bu)]) rfl TT.mj rfl rfl ?_)
 refine xz 3 (pI (0)) ?_
 refine sR ?_
 refine xm 8 (pS s0) ?_
 obtain ⟨x_1,fB,h⟩:=bO h
 refine xs 9 rfl (aA rfl rfl TT.LG rfl (Kr s0 _ fB) ?_)
 refine xm 7 (.d (.tuple [.agg (dA (x_1.1)), .val (.int .i64 (x_1.2.1)), .val (.int .i64 (x_1.2.2))])) ?_
 refine xs 10 rfl (bM rfl rfl rfl ?_)
 refine xs 11 rfl (bM rfl rfl rfl ?_)
 refine xs 12 rfl (bM rfl rfl rfl ?_)
 refine xs 4 rfl (bB (l:=[pB false,pS ([]:List UInt8), .full (([]:(List Item)).map bu)]) rfl TT.mj rfl rfl ?_)
 refine XK.st none rfl rfl (bh (l':=[pB ((x_1.1).cF),pS ((x_1.1).fS), .d (.slice (((x_1.1).fL).map bu))]) rfl TT.eC rfl rfl rfl rfl rfl rfl (by simp) rfl ?_)
 refine xa 5 (pI (x_1.2.1)) ?_
 refine xz 6 (pI (x_1.2.2)) ?_
 refine QW.seq ?_
 refine QW.block ?_
 refine sR ?_
 refine xm 14 (pI (x_1.2.2)) ?_
 refine xs 15 rfl (qA (a:=(x_1.2.2)) (b:=(0:Int)) rfl rfl rfl ?_)
 refine xz 13 (pB (!decide ((x_1.2.2)=(0:Int)))) ?_
 refine QW.cond (t:=(!decide ((x_1.2.2)=(0:Int)))) rfl zL (fun dU=>?_) (fun dU=>?_)
 ·replace h:=bT h dU
  refine sR ?_
  refine xs 16 rfl (eT (v:= .agg [pB false,pS ([]:List UInt8), .full (([]:(List Item)).map bu)]) rfl TT.x9 (dG rfl dF) ?_)
  refine xm 17 (pI (x_1.2.2)) ?_
  refine XK.st none rfl rfl (bh (l':=[pB false,pS ([]:List UInt8), .full (([]:(List Item)).map bu)]) rfl TT.eC rfl rfl rfl rfl rfl rfl (by simp) rfl ?_)
  refine xz 3 (pI (x_1.2.2)) ?_
  refine QW.ret zL (sZ (gm ?_))
  obtain rfl:=sO h
  exact Ends.more (.inr rfl) rfl (ps:=[.agg [pB false,pS ([]:List UInt8), .full (([]:(List Item)).map bu)],pI (x_1.2.2)]) (And.intro (aI.cell rfl rfl TT.eC ⟨⟨by simp,by simp⟩,rfl⟩) (And.intro (aI.tmp rfl) trivial)) rfl rfl
 ·replace h:=bF h dU
  refine sR ?_
  refine xm 19 (pI (x_1.2.1)) ?_
  refine xm 20 (pS s0) ?_
  refine xs 21 rfl (gE (l:=s0) rfl TT.bY rfl ?_)
  refine xs 22 rfl (qA (a:=(x_1.2.1)) (b:=(s0.length:Int)) rfl rfl rfl ?_)
  refine xz 18 (pB (!decide ((x_1.2.1)=(s0.length:Int)))) ?_
  refine QW.cond (t:=(!decide ((x_1.2.1)=(s0.length:Int)))) rfl zL (fun jb=>?_) (fun jb=>?_)
  ·replace h:=bT h jb
   refine sR ?_
   refine xs 23 rfl (eT (v:= .agg [pB false,pS ([]:List UInt8), .full (([]:(List Item)).map bu)]) rfl TT.x9 (dG rfl dF) ?_)
   refine XK.st none rfl rfl (bh (l':=[pB false,pS ([]:List UInt8), .full (([]:(List Item)).map bu)]) rfl TT.eC rfl rfl rfl rfl rfl rfl (by simp) rfl ?_)
   refine xz 3 (pI (6)) ?_
   refine QW.ret zL (sZ (gm ?_))
   obtain rfl:=sO h
   exact Ends.more (.inr rfl) rfl (ps:=[.agg [pB false,pS ([]:List UInt8), .full (([]:(List Item)).map bu)],pI (6)]) (And.intro (aI.cell rfl rfl TT.eC ⟨⟨by simp,by simp⟩,rfl⟩) (And.intro (aI.tmp rfl) trivial)) rfl rfl
  ·replace h:=bF h jb
   refine QW.skip zL (g6 (aX ?_))
   refine sR ?_
   refine XK.as (some 24) rfl rfl (bD (v:= .agg [pB ((x_1.1).cF),pS ((x_1.1).fS), .d (.slice (((x_1.1).fL).map bu))]) rfl TT.eC rfl rfl ⟨⟨by simp,by simp⟩,rfl⟩ ⟨.d (.agg (dA (x_1.1))),(iH.dj rfl),?_⟩)
   refine XK.st none rfl rfl (bh (l':=[pB ((x_1.1).cF),pS ((x_1.1).fS), .d (.slice (((x_1.1).fL).map bu))]) rfl TT.eC rfl rfl rfl rfl rfl rfl (by simp) rfl ?_)
   refine xz 3 (pI (0)) ?_
   refine QW.ret zL ?_
   obtain rfl:=sO h
   exact Ends.more (.inr rfl) rfl (ps:=[.agg [pB ((x_1.1).cF),pS ((x_1.1).fS), .d (.slice (((x_1.1).fL).map bu))],pI (0)]) (And.intro (aI.cell rfl rfl TT.eC ⟨⟨by simp,by simp⟩,rfl⟩) (And.intro (aI.tmp rfl) trivial)) rfl rfl
noncomputable def qp (c0:UInt8) (v1:(List UInt8)):Option (Unit×(List UInt8)):=
  gO ((v1.length+([(mU c0 (4:Int)),(c0&&& (15:UInt8))]:List UInt8).length)*1≤140737488355328) (
  some ((),(v1++([(mU c0 (4:Int)),(c0&&& (15:UInt8))]:List UInt8))))
theorem Dj (c0:UInt8) (v1:(List UInt8)) (r:(Unit×(List UInt8))) (h:qp c0 v1=some r):Spec Tryz.prog 118 [.d (.val (.int .u8 (c0.toNat:Int))), .aF 0 0] (aj [.var [.own 1 (v1.map U)], .spare 1 v1.length]) 2 (lM (.ret (.tuple [])) (aj [.var [.own 2 ((r.2).map U)], .dead, .spare 1 (r.2).length]) 3):=by
 refine Spec.qZ Tryz.func118 rfl (by simp [Tryz.ntmps118]) bL ?_
 rw [Tryz.ntmps118,TT.Sp]
 refine QW.view (s':=⟨aG [(0, .d (.val (.int .u8 (c0.toNat:Int)))),(1, .aF 0 0)],aj [.var [.own 1 (v1.map U)], .spare 1 v1.length],2,[]⟩) (View.mT bL (by rfl)) bL ?_
 unfold qp at h
 refine Fq ?_
 refine xs 3 rfl (bD (v:= .own 1 (v1.map U)) rfl TT.fh rfl rfl ⟨⟨by simp,by simp⟩,rfl⟩ ?_)
 refine xm 4 (.d (.val (.int .u8 (c0.toNat:Int)))) ?_
 refine xs 5 rfl (I0 (p:=c0) (c:=(4:Int)) rfl rfl rfl (by decide) ?_)
 refine xm 6 (.d (.val (.int .u8 (c0.toNat:Int)))) ?_
 refine xs 7 rfl (IZ (p:=c0) (q:=(15:UInt8)) rfl rfl rfl ?_)
 refine xs 8 rfl (ef (en:=U) (l:=([(mU c0 (4:Int)),(c0&&& (15:UInt8))]:List UInt8)) rfl TT.e8 bx rfl rfl (by decide) (by simp [dw,cU,aB,dQ,PV.cz,cx,aG,jA,iU,jX,bU,Value.oneCell']) ?_)
 obtain ⟨nV,h⟩:=bk h
 refine xs 9 rfl (iY (en:=U) (l:=v1) (l2:=([(mU c0 (4:Int)),(c0&&& (15:UInt8))]:List UInt8)) rfl TT.e8 TT.bA rfl bx rfl rfl rfl nV (by decide) ?_)
 refine XK.st none rfl rfl (bh (l':=[.own 2 ((v1++([(mU c0 (4:Int)),(c0&&& (15:UInt8))]:List UInt8)).map U)]) rfl TT.fh rfl rfl rfl rfl rfl rfl (by simp) rfl ?_)
 refine XK.nil ?_
 obtain rfl:=sO h
 exact gh.none (s':=⟨aG [],aj [.var [.own 2 ((v1++([(mU c0 (4:Int)),(c0&&& (15:UInt8))]:List UInt8)).map U)], .dead, .spare 1 (v1++([(mU c0 (4:Int)),(c0&&& (15:UInt8))]:List UInt8)).length],3,[]⟩) (.inl rfl) (View.mk 3 [0,1,2] _ _ _ rfl rfl (by decide) trivial (And.intro rfl (And.intro trivial (And.intro rfl trivial))) rfl bL rfl) rfl bL (fun i hi=>dX [.var [.own 2 ((v1++([(mU c0 (4:Int)),(c0&&& (15:UInt8))]:List UInt8)).map U)], .dead, .spare 1 (v1++([(mU c0 (4:Int)),(c0&&& (15:UInt8))]:List UInt8)).length] [] i hi) rfl (by simp [HO.bz,HO.bP,PV.bz,PV.bP,cD,bq])
inductive BK where
 | S
 | L1 (wJ:Int) (cP:(List UInt8))
noncomputable def j8 (s0:(List UInt8)):BK→Option (BK⊕((List UInt8)×Bool×Int))
 | .S=>
  (bif (s0==([]:List UInt8)) then
  some (.inr (([]:(List UInt8)),false,5))
  else
  some (.inl (.L1 (0) ([]:(List UInt8)))))
 | .L1 wJ cP=>
  (bif (decide (wJ<(eY (s0.length:Int) (64:Int)))) then
  gO (0≤wJ∧wJ<(s0.length:Int)) (
  ((qp (idx s0 wJ) cP).bind fun (NT:(Unit×(List UInt8)))=>
  gO (bw (wJ+(1:Int))) (
  some (.inl (.L1 (wJ+(1:Int)) (NT.2))))))
  else
  gO (0≤(0:Int)∧(0:Int)<(cP.length:Int)) (
  gO (bw ((2:Int)-(((idx cP (0:Int))%(2:UInt8)).toNat:Int))) (
  gO ((((decide ((3:Int)<((idx cP (0:Int)).toNat:Int)))==false)&&((decide ((((idx cP (0:Int))%(2:UInt8)).toNat:Int)=(0:Int)))==true))=true→0≤(1:Int)∧(1:Int)<(cP.length:Int)) (
  gO ((((decide ((3:Int)<((idx cP (0:Int)).toNat:Int)))||((decide ((((idx cP (0:Int))%(2:UInt8)).toNat:Int)=(0:Int)))&&(!decide (((idx cP (1:Int)).toNat:Int)=(0:Int)))))==false)=true→bw ((2:Int)*(s0.length:Int))) (
  gO ((((decide ((3:Int)<((idx cP (0:Int)).toNat:Int)))||((decide ((((idx cP (0:Int))%(2:UInt8)).toNat:Int)=(0:Int)))&&(!decide (((idx cP (1:Int)).toNat:Int)=(0:Int)))))==false)=true→bw (((2:Int)*(s0.length:Int))-((2:Int)-(((idx cP (0:Int))%(2:UInt8)).toNat:Int)))) (
  (bif (((decide ((3:Int)<((idx cP (0:Int)).toNat:Int)))||((decide ((((idx cP (0:Int))%(2:UInt8)).toNat:Int)=(0:Int)))&&(!decide (((idx cP (1:Int)).toNat:Int)=(0:Int)))))||(decide ((64:Int)<(((2:Int)*(s0.length:Int))-((2:Int)-(((idx cP (0:Int))%(2:UInt8)).toNat:Int)))))) then
  some (.inr (([]:(List UInt8)),false,6))
  else
  gO (0≤((2:Int)-(((idx cP (0:Int))%(2:UInt8)).toNat:Int))∧((2:Int)-(((idx cP (0:Int))%(2:UInt8)).toNat:Int))≤(cP.length:Int)∧(cP.length:Int)≤(cP.length:Int)) (
  some (.inr ((sub cP ((2:Int)-(((idx cP (0:Int))%(2:UInt8)).toNat:Int)) (cP.length:Int)),(decide ((2:Int)≤((idx cP (0:Int)).toNat:Int))),0))))))))))
noncomputable def xG (s0:(List UInt8)):Option ((List UInt8)×Bool×Int):=g9 (j8 s0) .S
theorem Fs (s0:(List UInt8)) (r:((List UInt8)×Bool×Int)) (h:xG s0=some r):bI Tryz.prog 114 [.val (sV s0)] (.tuple [.slice ((r.1).map U), .val (.bool (r.2.1)), .val (.int .i64 (r.2.2))]):=by
 refine bI.aU Tryz.func114 rfl (by simp [Tryz.ntmps114]) ?_
 rw [Tryz.ntmps114,TT.Sn]
 refine QW.view (s':=⟨aG [(0,pS s0)],aj [],0,[]⟩) (View.init (by rfl)) zL ?_
 replace h:=cL h
 obtain ⟨_,h⟩:=h
 obtain ⟨dm,rfl,h9⟩:=aQ h;replace h:=h9;clear h9;rw [j8] at h
 refine sR ?_
 refine xa 2 (.full (([]:(List UInt8)).map U)) ?_
 refine xa 3 (pB false) ?_
 refine xz 4 (pI (0)) ?_
 refine QW.seq ?_
 refine sR ?_
 refine xm 10 (pS s0) ?_
 refine xs 11 rfl (nR (a:=s0) (b:=([]:List UInt8)) rfl rfl rfl ?_)
 refine XK.nz ?_
 refine QW.cond (t:=(s0==([]:List UInt8))) rfl zL (fun dh=>?_) (fun dh=>?_)
 ·replace h:=fF h dh
  refine sR ?_
  refine xa 2 (.full (([]:(List UInt8)).map U)) ?_
  refine xa 3 (pB false) ?_
  refine xz 4 (pI (5)) ?_
  refine QW.ret zL (gm ?_)
  obtain rfl:=sG h
  exact Ends.more (.inr rfl) rfl (ps:=[.full (([]:(List UInt8)).map U),pB false,pI (5)]) (And.intro (aI.tmp rfl) (And.intro (aI.tmp rfl) (And.intro (aI.tmp rfl) trivial))) rfl rfl
 ·replace h:=fG h dh
  refine QW.skip zL (aX ?_)
  refine sR ?_
  refine xs 5 rfl (bB (l:=[.full (([]:(List UInt8)).map U)]) rfl TT.Qi rfl rfl ?_)
  refine XK.nz ?_
  refine QW.seq ?_
  refine QW.view (View.Wn 0 0 1 rfl rfl zL) zL ?_
  refine rG ?_
  refine xs 12 rfl (Lo rfl rfl ?_)
  refine xz 6 (.gT 118 [.aF 0 0]) ?_
  refine QW.seq ?_
  refine sR ?_
  refine xm 13 (pS s0) ?_
  refine xs 14 rfl (gE (l:=s0) rfl TT.bY rfl ?_)
  refine xs 15 rfl (FI (a:=(s0.length:Int)) (b:=(64:Int)) rfl rfl rfl ?_)
  refine xm 16 (pI (0)) ?_
  refine XK.nz ?_
  refine QW.block ?_
  refine QW.loop (fun k σ=>∃ wJ:Int,∃ cP:(List UInt8),k≤dm∧run (j8 s0) k (.L1 wJ cP)=some r∧σ=⟨aG [(0,pS s0),(5, .aF 0 0),(6, .gT 118 [.aF 0 0]),(15,pI (eY (s0.length:Int) (64:Int))),(16,pI wJ)],aj [.var [.own 1 (cP.map U)], .spare 1 cP.length],2,[]⟩) dm zL ⟨⟨aG [(0,pS s0),(5, .aF 0 0),(6, .gT 118 [.aF 0 0]),(15,pI (eY (s0.length:Int) (64:Int))),(16,pI (0))],aj [.var [.own 1 (([]:(List UInt8)).map U)], .spare 1 ([]:(List UInt8)).length],2,[]⟩,View.mk 2 [0,1] _ _ _ rfl rfl (by decide) (iC (iC (iC (iC (iC trivial))))) (And.intro rfl (And.intro rfl trivial)) rfl zL rfl,0,([]:(List UInt8)),Nat.le_refl _,jG h,rfl⟩ ?_
  rintro SG _ ⟨wJ,cP,SH,h,rfl⟩
  obtain ⟨k_2,rfl,h9⟩:=aQ h;replace h:=h9;clear h9;rw [j8] at h
  refine sR ?_
  refine xs 17 rfl (cJ (a:=wJ) (b:=(eY (s0.length:Int) (64:Int))) rfl rfl rfl ?_)
  refine XK.nz ?_
  refine QW.seq ?_
  refine QW.cond (t:=(decide (wJ<(eY (s0.length:Int) (64:Int))))) rfl zL (fun dU=>?_) (fun dU=>?_)
  ·replace h:=fF h dU
   refine QW.skip zL (aX ?_)
   refine QW.seq ?_
   refine QW.block ?_
   refine sR ?_
   refine xm 18 (pI wJ) ?_
   refine xz 7 (pI wJ) ?_
   refine rG ?_
   refine xm 19 (.gT 118 [.aF 0 0]) ?_
   refine xm 20 (pS s0) ?_
   refine xm 21 (pI wJ) ?_
   obtain ⟨mH,h⟩:=gG h
   refine xs 22 rfl (lK (l:=s0) (i:=wJ) rfl TT.bY TT.nT rfl rfl mH ?_)
   obtain ⟨NT,sJ,h⟩:=bG h
   refine XK.fr (p:= .tuple []) (H2:=cG (cG (cG _ 2 (some (.spare 1 (NT.2).length))) 1 none) 0 (some (.var [.own 2 ((NT.2).map U)]))) (mG:=3) (some 23) rfl rfl (Lv [0,1] rfl rfl rfl TT.LI (Dj (idx s0 wJ) cP _ sJ) rfl rfl (by decide) (And.intro rfl (And.intro rfl trivial)) bL) rfl rfl rfl ?_
   refine XK.nil (g6 (aX ?_))
   refine rG ?_
   obtain ⟨p5,h⟩:=gG h
   refine xs 24 rfl (bX (a:=wJ) (b:=(1:Int)) rfl rfl rfl p5 ?_)
   refine xm 16 (pI (wJ+(1:Int))) ?_
   refine XK.nz ?_
   exact ⟨k_2,by omega,⟨aG [(0,pS s0),(5, .aF 0 0),(6, .gT 118 [.aF 0 0]),(15,pI (eY (s0.length:Int) (64:Int))),(16,pI (wJ+(1:Int)))],aj [.var [.own 1 ((NT.2).map U)], .spare 1 (NT.2).length],2,[]⟩,View.mk 2 [0,2] _ _ _ rfl rfl (by decide) (iC (iC (iC (iC (iC trivial))))) (And.intro rfl (And.intro rfl trivial)) rfl zL rfl,(wJ+(1:Int)),(NT.2),by omega,jG h,rfl⟩
  ·replace h:=fG h dU
   refine QW.exit zL (eD (eD (j3 (aX ?_))))
   refine sR ?_
   refine xs 25 rfl (bD (v:= .own 1 (cP.map U)) rfl TT.fh rfl rfl ⟨⟨by simp,by simp⟩,rfl⟩ ?_)
   obtain ⟨qG,h⟩:=gG h
   refine xs 26 rfl (bC (l:=cP) (i:=(0:Int)) rfl TT.ek bx rfl rfl qG ?_)
   refine xs 27 rfl (aC (d:= .val (.int .u8 ((idx cP (0:Int)).toNat:Int))) rfl TT.jx rfl (c8.one) ?_)
   refine xz 8 (.d (.val (.int .u8 ((idx cP (0:Int)).toNat:Int)))) ?_
   refine sR ?_
   refine xm 28 (.d (.val (.int .u8 ((idx cP (0:Int)).toNat:Int)))) ?_
   refine xs 29 rfl (D6 (p:=(idx cP (0:Int))) (q:=(2:UInt8)) rfl rfl rfl (by decide) ?_)
   refine xs 30 rfl (AU (n:=(((idx cP (0:Int))%(2:UInt8)).toNat:Int)) rfl TT.dR TT.kC rfl (AW _) ?_)
   obtain ⟨ow,h⟩:=gG h
   refine xs 31 rfl (mE (a:=(2:Int)) (b:=(((idx cP (0:Int))%(2:UInt8)).toNat:Int)) rfl rfl rfl ow ?_)
   refine xz 9 (pI ((2:Int)-(((idx cP (0:Int))%(2:UInt8)).toNat:Int))) ?_
   refine QW.seq ?_
   refine sR ?_
   refine xm 32 (.d (.val (.int .u8 ((idx cP (0:Int)).toNat:Int)))) ?_
   refine xs 33 rfl (nQ (a:=((idx cP (0:Int)).toNat:Int)) (b:=(3:Int)) rfl rfl rfl ?_)
   refine xm 34 (pB (decide ((3:Int)<((idx cP (0:Int)).toNat:Int)))) ?_
   refine xg 35 (.d (.val (.int .u8 ((idx cP (0:Int)).toNat:Int)))) rfl rfl (fun hg=>au (v:= .d (.val (.int .u8 ((idx cP (0:Int)).toNat:Int)))) rfl rfl g3) ?_
   refine xg 36 (.d (.val (.int .u8 (((idx cP (0:Int))%(2:UInt8)).toNat:Int)))) rfl rfl (fun hg=>D6 (p:=(idx cP (0:Int))) (q:=(2:UInt8)) rfl rfl rfl (by decide) g3) ?_
   refine xg 37 (pB (decide ((((idx cP (0:Int))%(2:UInt8)).toNat:Int)=(0:Int)))) rfl rfl (fun hg=>eF (a:=(((idx cP (0:Int))%(2:UInt8)).toNat:Int)) (b:=(0:Int)) rfl rfl rfl g3) ?_
   refine xg 38 (pB (decide ((((idx cP (0:Int))%(2:UInt8)).toNat:Int)=(0:Int)))) rfl rfl (fun hg=>au (v:=pB (decide ((((idx cP (0:Int))%(2:UInt8)).toNat:Int)=(0:Int)))) rfl rfl g3) ?_
   refine XK.gd (v:= .own 1 (cP.map U)) (T:=[0]) (some 39) rfl rfl (by repeat (first | exact trivial | refine ⟨fun q=>by first | rfl | exact q | exact jC q | exact jY q,?_⟩)) (fun hg=>bD (v:= .own 1 (cP.map U)) rfl TT.fh rfl rfl ⟨⟨by simp,by simp⟩,rfl⟩ g3) (fun _ i hi=>by simp only [List.mem_singleton] at hi;subst hi;decide) ?_
   obtain ⟨vH,h⟩:=gG h
   refine xg 40 (.d (.cA ([.val (.int .u8 ((idx cP (1:Int)).toNat:Int))]))) rfl rfl (fun hg=>bC (l:=cP) (i:=(1:Int)) rfl TT.ek bx rfl rfl (vH hg) g3) ?_
   refine xg 41 (.d (.val (.int .u8 ((idx cP (1:Int)).toNat:Int)))) rfl rfl (fun hg=>aC (d:= .val (.int .u8 ((idx cP (1:Int)).toNat:Int))) rfl TT.jx rfl (c8.one) g3) ?_
   refine xg 42 (pB (!decide (((idx cP (1:Int)).toNat:Int)=(0:Int)))) rfl rfl (fun hg=>qA (a:=((idx cP (1:Int)).toNat:Int)) (b:=(0:Int)) rfl rfl rfl g3) ?_
   refine XK.gp (some 43) rfl rfl rfl rfl rfl rfl (fun h=>h) (fun hg hb=>by first | (rw [hg,hb];rfl) | (simp only [hg,hb];rfl) | simp_all) (fun _ _=>rfl) ((decide ((((idx cP (0:Int))%(2:UInt8)).toNat:Int)=(0:Int)))&&(!decide (((idx cP (1:Int)).toNat:Int)=(0:Int)))) (R7 _ _) ?_
   refine xs 44 rfl (jt rfl rfl rfl rfl (fun _=>rfl) (fun hb=>by rw [hb];rfl) ?_)
   refine xm 45 (pB ((decide ((3:Int)<((idx cP (0:Int)).toNat:Int)))||((decide ((((idx cP (0:Int))%(2:UInt8)).toNat:Int)=(0:Int)))&&(!decide (((idx cP (1:Int)).toNat:Int)=(0:Int)))))) ?_
   refine xg 46 (pS s0) rfl rfl (fun hg=>au (v:=pS s0) rfl rfl g3) ?_
   refine xg 47 (pI (s0.length:Int)) rfl rfl (fun hg=>gE (l:=s0) rfl TT.bY rfl g3) ?_
   obtain ⟨m5,h⟩:=gG h
   refine xg 48 (pI ((2:Int)*(s0.length:Int))) rfl rfl (fun hg=>wT (a:=(2:Int)) (b:=(s0.length:Int)) rfl rfl rfl (m5 hg) g3) ?_
   refine xg 49 (pI ((2:Int)-(((idx cP (0:Int))%(2:UInt8)).toNat:Int))) rfl rfl (fun hg=>au (v:=pI ((2:Int)-(((idx cP (0:Int))%(2:UInt8)).toNat:Int))) rfl rfl g3) ?_
   obtain ⟨nJ,h⟩:=gG h
   refine xg 50 (pI (((2:Int)*(s0.length:Int))-((2:Int)-(((idx cP (0:Int))%(2:UInt8)).toNat:Int)))) rfl rfl (fun hg=>mE (a:=((2:Int)*(s0.length:Int))) (b:=((2:Int)-(((idx cP (0:Int))%(2:UInt8)).toNat:Int))) rfl rfl rfl (nJ hg) g3) ?_
   refine xg 51 (pB (decide ((64:Int)<(((2:Int)*(s0.length:Int))-((2:Int)-(((idx cP (0:Int))%(2:UInt8)).toNat:Int)))))) rfl rfl (fun hg=>nQ (a:=(((2:Int)*(s0.length:Int))-((2:Int)-(((idx cP (0:Int))%(2:UInt8)).toNat:Int)))) (b:=(64:Int)) rfl rfl rfl g3) ?_
   refine xs 52 rfl (jt rfl rfl rfl rfl (fun _=>rfl) (fun hb=>by rw [hb];rfl) ?_)
   refine XK.nz ?_
   refine QW.cond (t:=(((decide ((3:Int)<((idx cP (0:Int)).toNat:Int)))||((decide ((((idx cP (0:Int))%(2:UInt8)).toNat:Int)=(0:Int)))&&(!decide (((idx cP (1:Int)).toNat:Int)=(0:Int)))))||(decide ((64:Int)<(((2:Int)*(s0.length:Int))-((2:Int)-(((idx cP (0:Int))%(2:UInt8)).toNat:Int))))))) rfl zL (fun vI=>?_) (fun vI=>?_)
   ·replace h:=fF h vI
    refine sR ?_
    refine xa 2 (.full (([]:(List UInt8)).map U)) ?_
    refine xa 3 (pB false) ?_
    refine xz 4 (pI (6)) ?_
    refine QW.ret zL (gm ?_)
    obtain rfl:=sG h
    exact Ends.more (.inr rfl) rfl (ps:=[.full (([]:(List UInt8)).map U),pB false,pI (6)]) (And.intro (aI.tmp rfl) (And.intro (aI.tmp rfl) (And.intro (aI.tmp rfl) trivial))) rfl rfl
   ·replace h:=fG h vI
    refine QW.skip zL (aX ?_)
    refine sR ?_
    refine xs 53 rfl (bD (v:= .own 1 (cP.map U)) rfl TT.fh rfl rfl ⟨⟨by simp,by simp⟩,rfl⟩ ?_)
    refine xm 54 (pI ((2:Int)-(((idx cP (0:Int))%(2:UInt8)).toNat:Int))) ?_
    refine xs 55 rfl (bD (v:= .own 1 (cP.map U)) rfl TT.fh rfl rfl ⟨⟨by simp,by simp⟩,rfl⟩ ?_)
    refine xs 56 rfl (cM (en:=U) (l:=cP) rfl TT.bA rfl ?_)
    refine xs 57 rfl (bD (v:= .own 1 (cP.map U)) rfl TT.fh rfl rfl ⟨⟨by simp,by simp⟩,rfl⟩ ?_)
    refine xs 58 rfl (cM (en:=U) (l:=cP) rfl TT.bA rfl ?_)
    obtain ⟨tR,h⟩:=gG h
    refine xs 59 rfl (P0 (l:=cP) (a:=((2:Int)-(((idx cP (0:Int))%(2:UInt8)).toNat:Int))) (b:=(cP.length:Int)) rfl TT.bA TT.ek bx rfl rfl rfl rfl tR ?_)
    refine xm 60 (.d (.val (.int .u8 ((idx cP (0:Int)).toNat:Int)))) ?_
    refine xs 61 rfl (uU (a:=((idx cP (0:Int)).toNat:Int)) (b:=(2:Int)) rfl rfl rfl ?_)
    refine xa 2 (.full ((sub cP ((2:Int)-(((idx cP (0:Int))%(2:UInt8)).toNat:Int)) (cP.length:Int)).map U)) ?_
    refine xa 3 (pB (decide ((2:Int)≤((idx cP (0:Int)).toNat:Int)))) ?_
    refine xz 4 (pI (0)) ?_
    refine QW.ret zL ?_
    obtain rfl:=sG h
    exact Ends.more (.inr rfl) rfl (ps:=[.full ((sub cP ((2:Int)-(((idx cP (0:Int))%(2:UInt8)).toNat:Int)) (cP.length:Int)).map U),pB (decide ((2:Int)≤((idx cP (0:Int)).toNat:Int))),pI (0)]) (And.intro (aI.tmp rfl) (And.intro (aI.tmp rfl) (And.intro (aI.tmp rfl) trivial))) rfl rfl
inductive EY where
 | S
 | L2 (jc:Int) (fN:Int) (v6:(List UInt8))
noncomputable def jd (n0:Int) (qc:Bool):EY→Option (EY⊕(List UInt8))
 | .S=>
  (((bif qc then
  some (192)
  else
  some (128)):Option Int).bind fun (v5:Int)=>
  (bif (decide ((eY (gQ n0 (0:Int)) (4294967296:Int))≤(55:Int))) then
  gO (bw (v5+(eY (gQ n0 (0:Int)) (4294967296:Int)))) (
  some (.inr ([(gf (v5+(eY (gQ n0 (0:Int)) (4294967296:Int))))]:List UInt8)))
  else
  some (.inl (.L2 (eY (gQ n0 (0:Int)) (4294967296:Int)) v5 ([]:(List UInt8))))))
 | .L2 jc fN v6=>
  (bif (decide ((0:Int)<jc)) then
  gO ((([(gf jc)]:List UInt8).length+v6.length)*1≤140737488355328) (
  some (.inl (.L2 (Gm jc (8:Int)) fN (([(gf jc)]:List UInt8)++v6))))
  else
  gO (bw (fN+(55:Int))) (
  gO (bw ((fN+(55:Int))+(v6.length:Int))) (
  gO (([(gf ((fN+(55:Int))+(v6.length:Int)))]:List UInt8).length+v6.length≤9223372036854775807) (
  some (.inr (([(gf ((fN+(55:Int))+(v6.length:Int)))]:List UInt8)++v6))))))
noncomputable def tS (n0:Int) (qc:Bool):Option (List UInt8):=g9 (jd n0 qc) .S
theorem BL (n0:Int) (qc:Bool) (r:(List UInt8)) (h:tS n0 qc=some r):bI Tryz.prog 100 [.val (.int .i64 n0), .val (.bool qc)] (.val (sV r)):=by
 refine bI.aU Tryz.func100 rfl (by simp [Tryz.ntmps100]) ?_
 rw [Tryz.ntmps100,TT.Sj]
 refine QW.view (s':=⟨aG [(0,pI n0),(1,pB qc)],aj [],0,[]⟩) (View.init (by rfl)) zL ?_
 replace h:=cL h
 obtain ⟨_,h⟩:=h
 obtain ⟨dm,rfl,h9⟩:=aQ h;replace h:=h9;clear h9;rw [jd] at h
 refine sR ?_
 refine xz 4 (pS ([]:List UInt8)) ?_
 refine sR ?_
 refine xm 7 (pI n0) ?_
 refine xs 8 rfl (Pc (a:=n0) (b:=(0:Int)) rfl rfl rfl ?_)
 refine xs 9 rfl (FI (a:=(gQ n0 (0:Int))) (b:=(4294967296:Int)) rfl rfl rfl ?_)
 refine xz 0 (pI (eY (gQ n0 (0:Int)) (4294967296:Int))) ?_
 refine sR ?_
 refine xz 5 (pI (128)) ?_
 obtain ⟨v5,hq,h⟩:=bG h
 refine QW.qY (fun s'=>s'=⟨aG [(0,pI (eY (gQ n0 (0:Int)) (4294967296:Int))),(5,pI v5)],aj [],0,[]⟩) ?_ ?_
 ·replace h:=hq;clear hq
  refine sR ?_
  refine xm 10 (pB qc) ?_
  refine XK.nz ?_
  refine QW.cond (t:=qc) rfl zL (fun dh=>?_) (fun dh=>?_)
  ·replace h:=bT h dh
   refine rG ?_
   refine xz 5 (pI (192)) ?_
   obtain rfl:=sO h
   exact ⟨⟨aG [(0,pI (eY (gQ n0 (0:Int)) (4294967296:Int))),(5,pI (192))],aj [],0,[]⟩,View.mk 0 [] _ _ _ rfl rfl (by decide) (iC (iC trivial)) trivial rfl zL rfl,rfl⟩
  ·replace h:=bF h dh
   refine QW.skip zL (aX ?_)
   obtain rfl:=sO h
   exact ⟨⟨aG [(0,pI (eY (gQ n0 (0:Int)) (4294967296:Int))),(5,pI (128))],aj [],0,[]⟩,View.mk 0 [] _ _ _ rfl rfl (by decide) (iC (iC trivial)) trivial rfl zL rfl,rfl⟩
 ·rintro _ rfl
  refine QW.seq ?_
  refine sR ?_
  refine xm 11 (pI (eY (gQ n0 (0:Int)) (4294967296:Int))) ?_
  refine xs 12 rfl (yN (a:=(eY (gQ n0 (0:Int)) (4294967296:Int))) (b:=(55:Int)) rfl rfl rfl ?_)
  refine XK.nz ?_
  refine QW.cond (t:=(decide ((eY (gQ n0 (0:Int)) (4294967296:Int))≤(55:Int)))) rfl zL (fun cB=>?_) (fun cB=>?_)
  ·replace h:=fF h cB
   refine sR ?_
   refine xm 13 (pI v5) ?_
   refine xm 14 (pI (eY (gQ n0 (0:Int)) (4294967296:Int))) ?_
   obtain ⟨dS,h⟩:=gG h
   refine xs 15 rfl (bX (a:=v5) (b:=(eY (gQ n0 (0:Int)) (4294967296:Int))) rfl rfl rfl dS ?_)
   refine xs 16 rfl (n6 (n:=(v5+(eY (gQ n0 (0:Int)) (4294967296:Int)))) rfl TT.kC TT.dR rfl ?_)
   refine xs 17 rfl (ef (en:=U) (l:=([(gf (v5+(eY (gQ n0 (0:Int)) (4294967296:Int))))]:List UInt8)) rfl TT.e8 bx rfl rfl (by decide) (by simp [dw,cU,aB,dQ,PV.cz,cx,aG,jA,iU,jX,bU,Value.oneCell']) ?_)
   refine xs 18 rfl (nS (l:=([(gf (v5+(eY (gQ n0 (0:Int)) (4294967296:Int))))]:List UInt8)) rfl TT.bA TT.dR TT.bY rfl ?_)
   refine xz 4 (pS ([(gf (v5+(eY (gQ n0 (0:Int)) (4294967296:Int))))]:List UInt8)) ?_
   refine QW.ret zL (gm ?_)
   obtain rfl:=sG h
   exact Ends.one (.inr rfl) rfl (aI.tmp rfl) rfl rfl
  ·replace h:=fG h cB
   refine QW.skip zL (aX ?_)
   refine sR ?_
   refine xz 6 (.full (([]:(List UInt8)).map U)) ?_
   refine QW.seq ?_
   refine QW.block ?_
   refine QW.loop (fun k σ=>∃ jc:Int,∃ fN:Int,∃ v6:(List UInt8),k≤dm∧run (jd n0 qc) k (.L2 jc fN v6)=some r∧σ=⟨aG [(0,pI jc),(5,pI fN),(6, .d (.slice (v6.map U)))],aj [],0,[]⟩) dm zL ⟨⟨aG [(0,pI (eY (gQ n0 (0:Int)) (4294967296:Int))),(5,pI v5),(6, .d (.slice (([]:(List UInt8)).map U)))],aj [],0,[]⟩,View.mk 0 [] _ _ _ rfl rfl (by decide) (iC (iC (And.intro (iH.dj rfl) trivial))) trivial rfl zL rfl,(eY (gQ n0 (0:Int)) (4294967296:Int)),v5,([]:(List UInt8)),Nat.le_refl _,jG h,rfl⟩ ?_
   rintro Wr _ ⟨jc,fN,v6,Ws,h,rfl⟩
   obtain ⟨LS,rfl,h9⟩:=aQ h;replace h:=h9;clear h9;rw [jd] at h
   refine QW.seq ?_
   refine sR ?_
   refine xm 19 (pI jc) ?_
   refine xs 20 rfl (nQ (a:=jc) (b:=(0:Int)) rfl rfl rfl ?_)
   refine XK.nz ?_
   refine QW.cond (t:=(decide ((0:Int)<jc))) rfl zL (fun jH=>?_) (fun jH=>?_)
   ·replace h:=fF h jH
    refine QW.skip zL (aX ?_)
    refine QW.seq ?_
    refine QW.block ?_
    refine rG ?_
    refine xm 23 (pI jc) ?_
    refine xs 24 rfl (n6 (n:=jc) rfl TT.kC TT.dR rfl ?_)
    refine xs 25 rfl (ef (en:=U) (l:=([(gf jc)]:List UInt8)) rfl TT.e8 bx rfl rfl (by decide) (by simp [dw,cU,aB,dQ,PV.cz,cx,aG,jA,iU,jX,bU,Value.oneCell']) ?_)
    refine xm 26 (.d (.slice (v6.map U))) ?_
    obtain ⟨mJ,h⟩:=gG h
    refine XK.pr (v:= .d (.slice ((([(gf jc)]:List UInt8)++v6).map U))) (some 27) rfl rfl (Ui (en:=U) (l:=([(gf jc)]:List UInt8)) (l2:=v6) rfl TT.e8 TT.bA rfl bx rfl rfl mJ (by decide)) ?_
    refine xa 6 (.d (.slice ((([(gf jc)]:List UInt8)++v6).map U))) ?_
    refine XK.nil (g6 (aX ?_))
    refine rG ?_
    refine xm 21 (pI jc) ?_
    refine xs 22 rfl (Ub (a:=jc) (b:=(8:Int)) rfl rfl rfl (by decide) ?_)
    refine xz 0 (pI (Gm jc (8:Int))) ?_
    exact ⟨LS,by omega,⟨aG [(0,pI (Gm jc (8:Int))),(5,pI fN),(6, .d (.slice ((([(gf jc)]:List UInt8)++v6).map U)))],aj [],0,[]⟩,View.mk 0 [] _ _ _ rfl rfl (by decide) (iC (iC (iC trivial))) trivial rfl zL rfl,(Gm jc (8:Int)),fN,(([(gf jc)]:List UInt8)++v6),by omega,jG h,rfl⟩
   ·replace h:=fG h jH
    refine QW.exit zL (eD (eD (j3 (aX ?_))))
    refine sR ?_
    refine xm 28 (pI fN) ?_
    obtain ⟨lQ,h⟩:=gG h
    refine xs 29 rfl (bX (a:=fN) (b:=(55:Int)) rfl rfl rfl lQ ?_)
    refine xm 30 (.d (.slice (v6.map U))) ?_
    refine xs 31 rfl (cM (en:=U) (l:=v6) rfl TT.bA rfl ?_)
    obtain ⟨p5,h⟩:=gG h
    refine xs 32 rfl (bX (a:=(fN+(55:Int))) (b:=(v6.length:Int)) rfl rfl rfl p5 ?_)
    refine xs 33 rfl (n6 (n:=((fN+(55:Int))+(v6.length:Int))) rfl TT.kC TT.dR rfl ?_)
    refine xs 34 rfl (ef (en:=U) (l:=([(gf ((fN+(55:Int))+(v6.length:Int)))]:List UInt8)) rfl TT.e8 bx rfl rfl (by decide) (by simp [dw,cU,aB,dQ,PV.cz,cx,aG,jA,iU,jX,bU,Value.oneCell']) ?_)
    refine xs 35 rfl (nS (l:=([(gf ((fN+(55:Int))+(v6.length:Int)))]:List UInt8)) rfl TT.bA TT.dR TT.bY rfl ?_)
    refine xm 36 (.d (.slice (v6.map U))) ?_
    refine xs 37 rfl (nS (l:=v6) rfl TT.bA TT.dR TT.bY rfl ?_)
    obtain ⟨qG,h⟩:=gG h
    refine xs 38 rfl (lf (a:=([(gf ((fN+(55:Int))+(v6.length:Int)))]:List UInt8)) (b:=v6) rfl rfl rfl qG ?_)
    refine xz 4 (pS (([(gf ((fN+(55:Int))+(v6.length:Int)))]:List UInt8)++v6)) ?_
    refine QW.ret zL ?_
    obtain rfl:=sG h
    exact Ends.one (.inr rfl) rfl (aI.tmp rfl) rfl rfl
inductive vJ where
 | S
 | L1 (v7:(List UInt8)) (sF:Int) (jF:Int)
noncomputable def eO (self:Item→Int→counter→Option (((List UInt8)⊕Int)×counter)) (x1:Item) (dV:Int) (c0:counter):vJ→Option (vJ⊕(((List UInt8)⊕Int)×counter))
 | .S=>
  ((j7 dV c0).bind fun xx=>match xx with
  | (.inl m8,dS)=>
    ((iQ ((x1.fS==([]:List UInt8))||(!(x1).cF)) (6)).bind fun xx=>match xx with
    | .inl LQ=>
      ((iQ ((decide (((x1.fL).length:Int)=(0:Int)))||x1.cF) (6)).bind fun xx=>match xx with
      | .inl YV=>
        (bif (!(x1).cF) then
        gO ((decide (((x1.fS).length:Int)=(1:Int)))=true→0≤(0:Int)∧(0:Int)<((x1.fS).length:Int)) (
        (bif ((decide (((x1.fS).length:Int)=(1:Int)))&&(decide (((idx (x1.fS) (0:Int)).toNat:Int)<(128:Int)))) then
        some (.inr ((.inl (x1.fS)),dS))
        else
        ((tS ((x1.fS).length:Int) false).bind fun (x_20:(List UInt8))=>
        gO (x_20.length+(x1.fS).length≤9223372036854775807) (
        some (.inr ((.inl (x_20++x1.fS)),dS))))))
        else
        some (.inl (.L1 ([]:(List UInt8)) (0) (dS.fn))))
      | .inr SI=>
        some (.inr (.inr SI,dS)))
    | .inr Ag=>
      some (.inr (.inr Ag,dS)))
  | (.inr e_5,dS)=>
    some (.inr (.inr e_5,dS)))
 | .L1 v7 sF jF=>
  (bif (decide (sF<((x1.fL).length:Int))) then
  gO (0≤sF∧sF<((x1.fL).length:Int)) (
  gO (bw (dV+(1:Int))) (
  ((self (idx (x1.fL) sF) (dV+(1:Int)) (⟨jF⟩:counter)).bind fun xx=>match xx with
  | (.inl Dk,rz)=>
    gO ((v7.length+Dk.length)*1≤140737488355328) (
    gO (bw (sF+(1:Int))) (
    some (.inl (.L1 (v7++Dk) (sF+(1:Int)) (rz.fn)))))
  | (.inr SJ,rz)=>
    some (.inr (.inr SJ,rz)))))
  else
  ((tS (v7.length:Int) true).bind fun (Jf:(List UInt8))=>
  gO (Jf.length+v7.length≤9223372036854775807) (
  some (.inr ((.inl (Jf++v7)),(⟨jF⟩:counter))))))
noncomputable def uF (self:Item→Int→counter→Option (((List UInt8)⊕Int)×counter)) (x1:Item) (dV:Int) (c0:counter):Option (((List UInt8)⊕Int)×counter):=g9 (eO self x1 dV c0) .S
theorem zQ (self:Item→Int→counter→Option (((List UInt8)⊕Int)×counter)) (fQ:∀ (y0:Item) (y1:Int) (y2:counter) (rr:(((List UInt8)⊕Int)×counter)),self y0 y1 y2=some rr→Spec Tryz.prog 82 [.aF 0 0, .d (.agg (dA y0)),pI y1] (aj [.var [pI (y2.fn)]]) 1 (lM (match rr.1 with | .inl x=>Out.ret (pS x) | .inr e=>Out.m7 (.d (.iface 145 (.agg [.val (.int .i64 e)])))) (aj [.var [pI ((rr.2).fn)]]) 1)) (x1:Item) (dV:Int) (c0:counter) (r:(((List UInt8)⊕Int)×counter)) (h:uF self x1 dV c0=some r):Spec Tryz.prog 82 [.aF 0 0, .d (.agg (dA x1)),pI dV] (aj [.var [pI (c0.fn)]]) 1 (lM (match r.1 with | .inl x=>Out.ret (pS x) | .inr e=>Out.m7 (.d (.iface 145 (.agg [.val (.int .i64 e)])))) (aj [.var [pI ((r.2).fn)]]) 1):=by
 refine Spec.qZ Tryz.func82 rfl (by simp [Tryz.ntmps82]) bL ?_
 rw [Tryz.ntmps82,TT.UD]
 refine QW.view (s':=⟨aG [(0, .aF 0 0),(1, .d (.agg (dA x1))),(2,pI dV)],aj [.var [pI (c0.fn)]],1,[]⟩) (View.mT bL (by rfl)) bL ?_
 replace h:=cL h
 obtain ⟨_,h⟩:=h
 obtain ⟨dm,rfl,h9⟩:=aQ h;replace h:=h9;clear h9;rw [eO] at h
 refine lN ?_
 refine XK.fz (some 4) rfl rfl (fl (ds:=dA x1) rfl rfl rfl rfl rfl ?_)
 refine xz 6 (pS ([]:List UInt8)) ?_
 refine lN ?_
 refine xm 10 (.aF 0 0) ?_
 refine xm 11 (pI dV) ?_
 obtain ⟨⟨m8 | e_5,dS⟩,fB,h⟩:=bG h
 ·refine XK.fr (p:= .tuple []) (H2:=cG _ 0 (some (.var [pI (dS.fn)]))) (mG:=1) (some 12) rfl rfl (b8 [0] rfl rfl TT.yT (mI dV c0 _ fB) rfl rfl (by decide) (And.intro rfl trivial) bL) rfl rfl rfl ?_
  refine XK.nz ?_
  refine lN ?_
  refine xs 13 rfl (aO rfl TT.jD (by decide) rfl ?_)
  refine xs 14 rfl (aC (d:= .val (sV (x1.fS))) rfl TT.fJ rfl (c8.one) ?_)
  refine xs 15 rfl (nR (a:=x1.fS) (b:=([]:List UInt8)) rfl rfl rfl ?_)
  refine xm 16 (pB (x1.fS==([]:List UInt8))) ?_
  refine xg 17 (.d (.cA ((dA x1).drop 0))) rfl rfl (fun hg=>aO rfl TT.vB (by decide) rfl g3) ?_
  refine xg 18 (pB (x1.cF)) rfl rfl (fun hg=>aC (d:= .val (.bool (x1.cF))) rfl TT.GG rfl (c8.one) g3) ?_
  refine xg 19 (pB (!(x1).cF)) rfl rfl (fun hg=>ou rfl rfl g3) ?_
  refine xs 20 rfl (jt rfl rfl rfl rfl (fun _=>rfl) (fun hb=>by rw [hb];rfl) ?_)
  obtain ⟨LQ | Ag,pR,h⟩:=bG h
  ·refine XK.fr (p:= .tuple []) (H2:=_) (mG:=1) (some 21) rfl rfl (b8 [] rfl rfl TT.fD (dM ((x1.fS==([]:List UInt8))||(!(x1).cF)) (6) _ pR) rfl rfl (by decide) trivial bL) rfl rfl rfl ?_
   refine XK.nz ?_
   refine lN ?_
   refine xs 22 rfl (aO rfl TT.mV (by decide) rfl ?_)
   refine xs 23 rfl (aC (d:= .slice ((x1.fL).map bu)) rfl TT.tv rfl (c8.one) ?_)
   refine xs 24 rfl (cM (en:=bu) (l:=x1.fL) rfl TT.q7 rfl ?_)
   refine xs 25 rfl (eF (a:=((x1.fL).length:Int)) (b:=(0:Int)) rfl rfl rfl ?_)
   refine xm 26 (pB (decide (((x1.fL).length:Int)=(0:Int)))) ?_
   refine xg 27 (.d (.cA ((dA x1).drop 0))) rfl rfl (fun hg=>aO rfl TT.vB (by decide) rfl g3) ?_
   refine xg 28 (pB (x1.cF)) rfl rfl (fun hg=>aC (d:= .val (.bool (x1.cF))) rfl TT.GG rfl (c8.one) g3) ?_
   refine xs 29 rfl (jt rfl rfl rfl rfl (fun _=>rfl) (fun hb=>by rw [hb];rfl) ?_)
   obtain ⟨YV | SI,uq,h⟩:=bG h
   ·refine XK.fr (p:= .tuple []) (H2:=_) (mG:=1) (some 30) rfl rfl (b8 [] rfl rfl TT.fD (dM ((decide (((x1.fL).length:Int)=(0:Int)))||x1.cF) (6) _ uq) rfl rfl (by decide) trivial bL) rfl rfl rfl ?_
    refine XK.nz ?_
    refine QW.seq ?_
    refine QW.seq ?_
    refine QW.view (s':=⟨aG [(0, .aF 0 0),(2,pI dV),(4, .d (.cA (dA x1)))],aj [.var [pI (dS.fn)]],1,[]⟩) (View.mk 1 [0] _ _ _ rfl rfl (by decide) (iC (iC (iC trivial))) (And.intro rfl trivial) rfl bL rfl) bL ?_
    refine Fq ?_
    refine xs 31 rfl (aO rfl TT.vB (by decide) rfl ?_)
    refine xs 32 rfl (aC (d:= .val (.bool (x1.cF))) rfl TT.GG rfl (c8.one) ?_)
    refine xs 33 rfl (ou rfl rfl ?_)
    refine XK.nz ?_
    refine QW.cond (t:=(!(x1).cF)) rfl bL (fun qE=>?_) (fun qE=>?_)
    ·replace h:=fF h qE
     refine QW.seq ?_
     refine lN ?_
     refine xs 34 rfl (aO rfl TT.jD (by decide) rfl ?_)
     refine xs 35 rfl (aC (d:= .val (sV (x1.fS))) rfl TT.fJ rfl (c8.one) ?_)
     refine xs 36 rfl (gE (l:=x1.fS) rfl TT.bY rfl ?_)
     refine xs 37 rfl (eF (a:=((x1.fS).length:Int)) (b:=(1:Int)) rfl rfl rfl ?_)
     refine xm 38 (pB (decide (((x1.fS).length:Int)=(1:Int)))) ?_
     refine xg 39 (.d (.cA ((dA x1).drop 1))) rfl rfl (fun hg=>aO rfl TT.jD (by decide) rfl g3) ?_
     refine xg 40 (pS (x1.fS)) rfl rfl (fun hg=>aC (d:= .val (sV (x1.fS))) rfl TT.fJ rfl (c8.one) g3) ?_
     obtain ⟨rA,h⟩:=gG h
     refine xg 41 (.d (.val (.int .u8 ((idx (x1.fS) (0:Int)).toNat:Int)))) rfl rfl (fun hg=>lK (l:=x1.fS) (i:=(0:Int)) rfl TT.bY TT.nT rfl rfl (rA (Fp hg)) g3) ?_
     refine xg 42 (pB (decide (((idx (x1.fS) (0:Int)).toNat:Int)<(128:Int)))) rfl rfl (fun hg=>cJ (a:=((idx (x1.fS) (0:Int)).toNat:Int)) (b:=(128:Int)) rfl rfl rfl g3) ?_
     refine xs 43 rfl (fu rfl rfl rfl rfl (fun hb=>by rw [hb];rfl) (fun _=>rfl) ?_)
     refine XK.nz ?_
     refine QW.cond (t:=((decide (((x1.fS).length:Int)=(1:Int)))&&(decide (((idx (x1.fS) (0:Int)).toNat:Int)<(128:Int))))) rfl bL (fun Ce=>?_) (fun Ce=>?_)
     ·replace h:=fF h Ce
      refine lN ?_
      refine xs 44 rfl (aO rfl TT.jD (by decide) rfl ?_)
      refine xs 45 rfl (aC (d:= .val (sV (x1.fS))) rfl TT.fJ rfl (c8.one) ?_)
      refine xz 6 (pS (x1.fS)) ?_
      refine QW.ret bL (gm (gm ?_))
      obtain rfl:=sG h
      exact gh.one (s':=⟨aG [(6,pS (x1.fS))],aj [.var [pI (dS.fn)]],1,[]⟩) (.inr rfl) (View.mk 1 [0] _ _ _ rfl rfl (by decide) (iC trivial) (And.intro rfl trivial) rfl bL rfl) rfl bL (fun i hi=>dX [.var [pI (dS.fn)]] [] i hi) rfl (by simp [HO.bz,HO.bP,PV.bz,PV.bP,cD,bq]) (aI.tmp rfl) (by simp [PV.bz,PV.bP,cD])
     ·replace h:=fG h Ce
      refine QW.skip bL (aX ?_)
      refine QW.seq ?_
      refine QW.region bL (PW.kX (id:=7) dc (M:=_) rfl (by kernel_rfl) ?_)
      refine RQ.st (some 46) rfl rfl (aO rfl TT.jD (by decide) rfl ⟨⟨rfl,rfl⟩,?_⟩)
      refine RQ.st (some 47) rfl rfl (aC (d:= .val (sV (x1.fS))) rfl TT.fJ rfl (c8.one) ⟨⟨rfl,rfl⟩,?_⟩)
      refine RQ.st (some 48) rfl rfl (gE (l:=x1.fS) rfl TT.bY rfl ⟨⟨rfl,rfl⟩,?_⟩)
      obtain ⟨x_20,yV,h⟩:=bG h
      refine RQ.st (some 49) rfl rfl (aA rfl rfl TT.EU rfl (BL ((x1.fS).length:Int) false _ yV) ⟨⟨rfl,rfl⟩,?_⟩)
      refine RQ.st (some 50) rfl rfl (aO rfl TT.jD (by decide) rfl ⟨⟨rfl,rfl⟩,?_⟩)
      refine RQ.st (some 51) rfl rfl (aC (d:= .val (sV (x1.fS))) rfl TT.fJ rfl (c8.one) ⟨⟨rfl,rfl⟩,?_⟩)
      obtain ⟨SK,h⟩:=gG h
      refine RQ.st (some 52) rfl rfl (lf (a:=x_20) (b:=x1.fS) rfl rfl rfl SK ⟨⟨rfl,rfl⟩,?_⟩)
      refine RQ.st (some 6) rfl rfl (cq (v:=pS (x_20++x1.fS)) rfl rfl ⟨⟨rfl,rfl⟩,?_⟩)
      refine RQ.nil (aX ?_)
      refine QW.ret bL (gm ?_)
      obtain rfl:=sG h
      exact gh.one (s':=⟨aG [(6,pS (x_20++x1.fS))],aj [.var [pI (dS.fn)]],1,[]⟩) (.inr rfl) (View.mk 1 [0] _ _ _ rfl rfl (by decide) (iC trivial) (And.intro rfl trivial) rfl bL rfl) rfl bL (fun i hi=>dX [.var [pI (dS.fn)]] [] i hi) rfl (by simp [HO.bz,HO.bP,PV.bz,PV.bP,cD,bq]) (aI.tmp rfl) (by simp [PV.bz,PV.bP,cD])
    ·replace h:=fG h qE
     refine QW.skip bL (aX ?_)
     refine lN ?_
     refine xz 7 (.full (([]:(List UInt8)).map U)) ?_
     refine QW.seq ?_
     refine lN ?_
     refine xs 53 rfl (aO rfl TT.mV (by decide) rfl ?_)
     refine xs 54 rfl (aC (d:= .slice ((x1.fL).map bu)) rfl TT.tv rfl (c8.one) ?_)
     refine xs 55 rfl (cM (en:=bu) (l:=x1.fL) rfl TT.q7 rfl ?_)
     refine xm 56 (pI (0)) ?_
     refine XK.nz ?_
     refine QW.block ?_
     refine QW.loop (fun k σ=>∃ v7:(List UInt8),∃ sF:Int,∃ jF:Int,k≤dm∧run (eO self x1 dV c0) k (.L1 v7 sF jF)=some r∧σ=⟨aG [(0, .aF 0 0),(2,pI dV),(7, .own 1 (v7.map U)),(54, .d (.slice ((x1.fL).map bu))),(55,pI ((x1.fL).length:Int)),(56,pI sF)],aj [.var [pI jF], .spare 1 v7.length],2,[]⟩) dm bL ⟨⟨aG [(0, .aF 0 0),(2,pI dV),(7, .own 1 (([]:(List UInt8)).map U)),(54, .d (.slice ((x1.fL).map bu))),(55,pI ((x1.fL).length:Int)),(56,pI (0))],aj [.var [pI (dS.fn)], .spare 1 ([]:(List UInt8)).length],2,[]⟩,View.trans (View.buf 7 1 rfl bL) (View.mk 2 [0,1] _ _ _ rfl rfl (by decide) (iC (iC (iC (iC (iC (iC trivial)))))) (And.intro rfl (And.intro rfl trivial)) rfl bL rfl),([]:(List UInt8)),0,dS.fn,Nat.le_refl _,jG h,rfl⟩ ?_
     rintro aav _ ⟨v7,sF,jF,aaw,h,rfl⟩
     obtain ⟨YW,rfl,h9⟩:=aQ h;replace h:=h9;clear h9;rw [eO] at h
     refine lN ?_
     refine xs 57 rfl (cJ (a:=sF) (b:=((x1.fL).length:Int)) rfl rfl rfl ?_)
     refine XK.nz ?_
     refine QW.seq ?_
     refine QW.cond (t:=(decide (sF<((x1.fL).length:Int)))) rfl bL (fun NU=>?_) (fun NU=>?_)
     ·replace h:=fF h NU
      refine QW.skip bL (aX ?_)
      refine QW.seq ?_
      refine QW.block ?_
      refine lN ?_
      obtain ⟨Di,h⟩:=gG h
      refine xs 58 rfl (bC (l:=x1.fL) (i:=sF) rfl TT.Ac kQ rfl rfl Di ?_)
      refine xs 59 rfl (aC (d:= .agg (dA (idx (x1.fL) sF))) rfl TT.eC rfl (⟨by simp [dA],rfl⟩) ?_)
      refine xs 9 rfl (bB (l:=[pB false,pS ([]:List UInt8), .full (([]:(List Item)).map bu)]) rfl TT.mj rfl rfl ?_)
      refine XK.st none rfl rfl (bh (l':=[pB ((idx (x1.fL) sF).cF),pS ((idx (x1.fL) sF).fS), .d (.slice (((idx (x1.fL) sF).fL).map bu))]) rfl TT.eC rfl rfl rfl rfl rfl rfl (by simp) rfl ?_)
      refine XK.nz ?_
      refine Fq ?_
      refine xm 60 (.own 1 (v7.map U)) ?_
      refine xm 61 (.aF 0 0) ?_
      refine XK.as (some 62) rfl rfl (bD (v:= .agg [pB ((idx (x1.fL) sF).cF),pS ((idx (x1.fL) sF).fS), .d (.slice (((idx (x1.fL) sF).fL).map bu))]) rfl TT.eC rfl rfl ⟨⟨by simp,by simp⟩,rfl⟩ ⟨.d (.agg (dA (idx (x1.fL) sF))),(iH.dj rfl),?_⟩)
      refine xm 63 (pI dV) ?_
      obtain ⟨ye,h⟩:=gG h
      refine xs 64 rfl (bX (a:=dV) (b:=(1:Int)) rfl rfl rfl ye ?_)
      obtain ⟨⟨Dk | SJ,rz⟩,yU,h⟩:=bG h
      ·refine XK.fr (p:=pS Dk) (H2:=cG _ 0 (some (.var [pI (rz.fn)]))) (mG:=3) (some 65) rfl rfl (b8 [0] rfl rfl TT.yS (fQ (idx (x1.fL) sF) (dV+(1:Int)) (⟨jF⟩:counter) _ yU) rfl rfl (by decide) (And.intro rfl trivial) bL) rfl rfl rfl ?_
       obtain ⟨LR,h⟩:=gG h
       refine xs 66 rfl (iY (en:=U) (l:=v7) (l2:=Dk) rfl TT.e8 TT.bY rfl bx rfl rfl rfl LR (by decide) ?_)
       refine xa 7 (.own 3 ((v7++Dk).map U)) ?_
       refine XK.nil (g6 (aX ?_))
       refine Fq ?_
       obtain ⟨EZ,h⟩:=gG h
       refine xs 67 rfl (bX (a:=sF) (b:=(1:Int)) rfl rfl rfl EZ ?_)
       refine xm 56 (pI (sF+(1:Int))) ?_
       refine XK.nz ?_
       exact ⟨YW,by omega,⟨aG [(0, .aF 0 0),(2,pI dV),(7, .own 1 ((v7++Dk).map U)),(54, .d (.slice ((x1.fL).map bu))),(55,pI ((x1.fL).length:Int)),(56,pI (sF+(1:Int)))],aj [.var [pI (rz.fn)], .spare 1 (v7++Dk).length],2,[]⟩,View.mk 2 [0,3] _ _ _ rfl rfl (by decide) (iC (iC (iC (iC (iC (iC trivial)))))) (And.intro rfl (And.intro rfl trivial)) rfl bL rfl,(v7++Dk),(sF+(1:Int)),rz.fn,by omega,jG h,rfl⟩
      ·refine XK.fp (p:= .d (.iface 145 (.agg [.val (.int .i64 SJ)]))) (H2:=cG _ 0 (some (.var [pI (rz.fn)]))) (mG:=3) rfl (b8 [0] rfl rfl TT.yS (fQ (idx (x1.fL) sF) (dV+(1:Int)) (⟨jF⟩:counter) _ yU) rfl rfl (by decide) (And.intro rfl trivial) bL) rfl rfl rfl (Kh (sD (sD (Kh (sD ?_)))))
       obtain rfl:=sG h
       exact gh.m7 (s':=⟨aG [],aj [.var [pI (rz.fn)]],1,[]⟩) (View.mk 1 [0] _ _ _ rfl rfl (by decide) trivial (And.intro rfl trivial) rfl bL rfl) rfl bL (fun i hi=>dX [.var [pI (rz.fn)]] [] i hi) rfl (by simp [HO.bz,HO.bP,PV.bz,PV.bP,cD,bq])
     ·replace h:=fG h NU
      refine QW.exit bL (eD (eD (j3 (aX ?_))))
      refine QW.seq ?_
      refine QW.region bL (PW.kX (id:=14) dc (M:=_) rfl (by kernel_rfl) ?_)
      refine RQ.st (some 68) rfl rfl (au (v:= .own 1 (v7.map U)) rfl rfl ⟨⟨rfl,rfl⟩,?_⟩)
      refine RQ.st (some 69) rfl rfl (cM (en:=U) (l:=v7) rfl TT.bA rfl ⟨⟨rfl,rfl⟩,?_⟩)
      obtain ⟨Jf,Xh,h⟩:=bG h
      refine RQ.st (some 70) rfl rfl (aA rfl rfl TT.EU rfl (BL (v7.length:Int) true _ Xh) ⟨⟨rfl,rfl⟩,?_⟩)
      refine RQ.st (some 71) rfl rfl (au (v:= .own 1 (v7.map U)) rfl rfl ⟨⟨rfl,rfl⟩,?_⟩)
      refine RQ.st (some 72) rfl rfl (nS (l:=v7) rfl TT.bA TT.dR TT.bY rfl ⟨⟨rfl,rfl⟩,?_⟩)
      obtain ⟨SL,h⟩:=gG h
      refine RQ.st (some 73) rfl rfl (lf (a:=Jf) (b:=v7) rfl rfl rfl SL ⟨⟨rfl,rfl⟩,?_⟩)
      refine RQ.st (some 6) rfl rfl (cq (v:=pS (Jf++v7)) rfl rfl ⟨⟨rfl,rfl⟩,?_⟩)
      refine RQ.nil (aX ?_)
      refine QW.ret bL ?_
      obtain rfl:=sG h
      exact gh.one (s':=⟨aG [(6,pS (Jf++v7))],aj [.var [pI jF]],1,[]⟩) (.inr rfl) (View.mk 1 [0] _ _ _ rfl rfl (by decide) (iC trivial) (And.intro rfl trivial) rfl bL rfl) rfl bL (fun i hi=>dX [.var [pI jF]] [] i hi) rfl (by simp [HO.bz,HO.bP,PV.bz,PV.bP,cD,bq]) (aI.tmp rfl) (by simp [PV.bz,PV.bP,cD])
   ·refine XK.fp (p:= .d (.iface 145 (.agg [.val (.int .i64 SI)]))) (H2:=_) (mG:=1) rfl (b8 [] rfl rfl TT.fD (dM ((decide (((x1.fL).length:Int)=(0:Int)))||x1.cF) (6) _ uq) rfl rfl (by decide) trivial bL) rfl rfl rfl (sD ?_)
    obtain rfl:=sG h
    exact gh.m7 (s':=⟨aG [],aj [.var [pI (dS.fn)]],1,[]⟩) (View.mk 1 [0] _ _ _ rfl rfl (by decide) trivial (And.intro rfl trivial) rfl bL rfl) rfl bL (fun i hi=>dX [.var [pI (dS.fn)]] [] i hi) rfl (by simp [HO.bz,HO.bP,PV.bz,PV.bP,cD,bq])
  ·refine XK.fp (p:= .d (.iface 145 (.agg [.val (.int .i64 Ag)]))) (H2:=_) (mG:=1) rfl (b8 [] rfl rfl TT.fD (dM ((x1.fS==([]:List UInt8))||(!(x1).cF)) (6) _ pR) rfl rfl (by decide) trivial bL) rfl rfl rfl (sD ?_)
   obtain rfl:=sG h
   exact gh.m7 (s':=⟨aG [],aj [.var [pI (dS.fn)]],1,[]⟩) (View.mk 1 [0] _ _ _ rfl rfl (by decide) trivial (And.intro rfl trivial) rfl bL rfl) rfl bL (fun i hi=>dX [.var [pI (dS.fn)]] [] i hi) rfl (by simp [HO.bz,HO.bP,PV.bz,PV.bP,cD,bq])
 ·refine XK.fp (p:= .d (.iface 145 (.agg [.val (.int .i64 e_5)]))) (H2:=cG _ 0 (some (.var [pI (dS.fn)]))) (mG:=1) rfl (b8 [0] rfl rfl TT.yT (mI dV c0 _ fB) rfl rfl (by decide) (And.intro rfl trivial) bL) rfl rfl rfl (sD ?_)
  obtain rfl:=sG h
  exact gh.m7 (s':=⟨aG [],aj [.var [pI (dS.fn)]],1,[]⟩) (View.mk 1 [0] _ _ _ rfl rfl (by decide) trivial (And.intro rfl trivial) rfl bL rfl) rfl bL (fun i hi=>dX [.var [pI (dS.fn)]] [] i hi) rfl (by simp [HO.bz,HO.bP,PV.bz,PV.bP,cD,bq])
noncomputable def iq:Nat→Item→Int→counter→Option (((List UInt8)⊕Int)×counter)
 | 0=>fun _ _ _=>none
 | n+1=>fun y0 y1 y2=>uF (iq n) y0 y1 y2
theorem sL:∀ (n:Nat) (y0:Item) (y1:Int) (y2:counter) (rr:(((List UInt8)⊕Int)×counter)),iq n y0 y1 y2=some rr→Spec Tryz.prog 82 [.aF 0 0, .d (.agg (dA y0)),pI y1] (aj [.var [pI (y2.fn)]]) 1 (lM (match rr.1 with | .inl x=>Out.ret (pS x) | .inr e=>Out.m7 (.d (.iface 145 (.agg [.val (.int .i64 e)])))) (aj [.var [pI ((rr.2).fn)]]) 1)
 | 0,_,_,_,_,h=>by cases h
 | n+1,y0,y1,y2,rr,h=>zQ (iq n) (sL n) y0 y1 y2 rr h
noncomputable def qH (y0:Item) (y1:Int) (y2:counter):Option (((List UInt8)⊕Int)×counter):=wX (fun n=>iq n y0 y1 y2)
theorem tT (y0:Item) (y1:Int) (y2:counter) (rr:(((List UInt8)⊕Int)×counter)) (h:qH y0 y1 y2=some rr):Spec Tryz.prog 82 [.aF 0 0, .d (.agg (dA y0)),pI y1] (aj [.var [pI (y2.fn)]]) 1 (lM (match rr.1 with | .inl x=>Out.ret (pS x) | .inr e=>Out.m7 (.d (.iface 145 (.agg [.val (.int .i64 e)])))) (aj [.var [pI ((rr.2).fn)]]) 1):=by
 obtain ⟨n,hn⟩:=oe h
 exact sL n y0 y1 y2 rr hn
noncomputable def lR (x0:Item):Option ((List UInt8)×Int):=
  ((qH x0 (0) (⟨0⟩:counter)).bind fun xx=>match xx with
  | (.inl m8,dS)=>
    some (m8,0)
  | (.inr e_5,dS)=>
    some (([]:List UInt8),e_5))
theorem uX (x0:Item) (r:((List UInt8)×Int)) (h:lR x0=some r):bI Tryz.prog 52 [.agg (dA x0)] (.tuple [.val (sV (r.1)), .val (.int .i64 (r.2))]):=by
 refine bI.x8 Tryz.func52 rfl (by simp [Tryz.ntmps52]) TT.GF ?_
 rw [Tryz.ntmps52,TT.Ux]
 refine QW.view (s':=⟨aG [(0, .d (.agg (dA x0)))],aj [],0,[]⟩) (View.init (by rfl)) zL ?_
 unfold lR at h
 refine sR ?_
 refine XK.fz (some 1) rfl rfl (fl (ds:=dA x0) rfl rfl rfl rfl rfl ?_)
 refine xa 2 (pS ([]:List UInt8)) ?_
 refine xs 3 rfl (bB (l:=[pI (0)]) rfl TT.ya rfl rfl ?_)
 refine XK.nz ?_
 refine sR ?_
 refine XK.df (L:=[.aF 0 0]) none rfl rfl rfl rfl rfl ?_
 refine XK.nz ?_
 refine sR ?_
 refine xs 4 rfl (bB (l:=[pI (0)]) rfl TT.GH rfl rfl ?_)
 refine xs 5 rfl (aC (d:= .agg (dA x0)) rfl TT.eC rfl (⟨by simp [dA],rfl⟩) ?_)
 obtain ⟨⟨m8 | e_5,dS⟩,fB,h⟩:=bO h
 ·refine XK.fr (p:=pS m8) (H2:=cG _ 1 (some (.var [pI (dS.fn)]))) (mG:=2) (some 6) rfl rfl (b8 [1] rfl rfl TT.yS (tT x0 (0) (⟨0⟩:counter) _ fB) rfl rfl (by decide) (And.intro rfl trivial) bL) rfl rfl rfl ?_
  refine xz 2 (pS m8) ?_
  refine sR ?_
  refine xm 7 (pS m8) ?_
  refine xa 2 (pS m8) ?_
  refine XK.st none rfl rfl (bh (l':=[pI (0)]) rfl TT.kr rfl rfl rfl rfl rfl rfl (by simp) rfl ?_)
  refine XK.nz ?_
  refine QW.ret zL ?_
  obtain rfl:=sO h
  exact .inl (vw.more [pS m8,pI (0)] 0 (pI (0)) (pI (0)) none rfl rfl (rq 0) rfl rfl rfl (And.intro (aI.tmp rfl) (And.intro (aI.cell rfl rfl TT.kr ⟨⟨by simp,by simp⟩,rfl⟩) trivial)) rfl)
 ·refine XK.fp (p:= .d (.iface 145 (.agg [.val (.int .i64 e_5)]))) (H2:=cG _ 1 (some (.var [pI (dS.fn)]))) (mG:=2) rfl (b8 [1] rfl rfl TT.yS (tT x0 (0) (⟨0⟩:counter) _ fB) rfl rfl (by decide) (And.intro rfl trivial) bL) rfl rfl rfl (sD ?_)
  obtain rfl:=sO h
  exact .inl (vw.more [pS ([]:List UInt8),pI e_5] 0 (pI (0)) (pI e_5) (some (.iface 145 (.agg [.val (.int .i64 e_5)]))) rfl rfl (ru 0 e_5) rfl rfl (⟨_,rfl,rfl⟩) (And.intro (aI.tmp rfl) (And.intro (aI.cell rfl rfl TT.kr ⟨⟨by simp,by simp⟩,rfl⟩) trivial)) rfl)
inductive nK where
 | S
 | L1 (v8:Int)
noncomputable def cX (v0:(List UInt8)) (f1:UInt8→Option Bool):nK→Option (nK⊕Int)
 | .S=>
  some (.inl (.L1 (0)))
 | .L1 v8=>
  (bif (decide (v8<(v0.length:Int))) then
  gO (0≤v8∧v8<(v0.length:Int)) (
  ((f1 (idx v0 v8)).bind fun (x_4:Bool)=>
  (bif x_4 then
  some (.inr v8)
  else
  gO (bw (v8+(1:Int))) (
  some (.inl (.L1 (v8+(1:Int))))))))
  else
  some (.inr (-1)))
noncomputable def kE (v0:(List UInt8)) (f1:UInt8→Option Bool):Option Int:=g9 (cX v0 f1) .S
theorem sH (v0:(List UInt8)) (f1:UInt8→Option Bool) (me:Nat) (nE:List D) (Ir:aP Tryz.prog me=true) (Is:∀ y0 r,f1 y0=some r→bI Tryz.prog me ([.val (.int .u8 (y0.toNat:Int))]++nE) (.val (.bool r))) (r:Int) (h:kE v0 f1=some r):bI Tryz.prog 109 [.slice (v0.map U), .gT me nE] (.val (.int .i64 r)):=by
 refine bI.aU Tryz.func109 rfl (by simp [Tryz.ntmps109]) ?_
 rw [Tryz.ntmps109,TT.Sl]
 refine QW.view (s':=⟨aG [(0, .d (.slice (v0.map U))),(1, .d (.gT me nE))],aj [],0,[]⟩) (View.init (by rfl)) zL ?_
 replace h:=cL h
 obtain ⟨_,h⟩:=h
 obtain ⟨dm,rfl,h9⟩:=aQ h;replace h:=h9;clear h9;rw [cX] at h
 refine sR ?_
 refine xz 4 (pI (0)) ?_
 refine QW.seq ?_
 refine sR ?_
 refine xm 6 (.d (.slice (v0.map U))) ?_
 refine xs 7 rfl (cM (en:=U) (l:=v0) rfl TT.bA rfl ?_)
 refine xm 8 (pI (0)) ?_
 refine XK.nz ?_
 refine QW.block ?_
 refine QW.loop (fun k σ=>∃ v8:Int,k≤dm∧run (cX v0 f1) k (.L1 v8)=some r∧σ=⟨aG [(0, .d (.slice (v0.map U))),(1, .d (.gT me nE)),(7,pI (v0.length:Int)),(8,pI v8)],aj [],0,[]⟩) dm zL ⟨⟨aG [(0, .d (.slice (v0.map U))),(1, .d (.gT me nE)),(7,pI (v0.length:Int)),(8,pI (0))],aj [],0,[]⟩,View.mk 0 [] _ _ _ rfl rfl (by decide) (iC (iC (iC (iC trivial)))) trivial rfl zL rfl,0,Nat.le_refl _,jG h,rfl⟩ ?_
 rintro rO _ ⟨v8,rP,h,rfl⟩
 obtain ⟨k_1,rfl,h9⟩:=aQ h;replace h:=h9;clear h9;rw [cX] at h
 refine sR ?_
 refine xs 9 rfl (cJ (a:=v8) (b:=(v0.length:Int)) rfl rfl rfl ?_)
 refine XK.nz ?_
 refine QW.seq ?_
 refine QW.cond (t:=(decide (v8<(v0.length:Int)))) rfl zL (fun cB=>?_) (fun cB=>?_)
 ·replace h:=fF h cB
  refine QW.skip zL (aX ?_)
  refine QW.seq ?_
  refine QW.block ?_
  refine sR ?_
  refine xm 10 (pI v8) ?_
  refine xz 5 (pI v8) ?_
  refine sR ?_
  refine xm 11 (.d (.gT me nE)) ?_
  refine xm 12 (.d (.slice (v0.map U))) ?_
  refine xm 13 (pI v8) ?_
  obtain ⟨dS,h⟩:=gG h
  refine xs 14 rfl (bC (l:=v0) (i:=v8) rfl TT.ek bx rfl rfl dS ?_)
  refine xs 15 rfl (aC (d:= .val (.int .u8 ((idx v0 v8).toNat:Int))) rfl TT.jx rfl (c8.one) ?_)
  obtain ⟨x_4,kZ,h⟩:=bG h
  refine xs 16 rfl (wW rfl rfl rfl Ir rfl (Is (idx v0 v8) _ kZ) ?_)
  refine XK.nz ?_
  refine QW.cond (t:=x_4) rfl zL (fun kF=>?_) (fun kF=>?_)
  ·replace h:=fF h kF
   refine sR ?_
   refine xm 17 (pI v8) ?_
   refine xz 4 (pI v8) ?_
   refine QW.ret zL (sZ (gm (gm (sZ (gm ?_)))))
   obtain rfl:=sG h
   exact Ends.one (.inr rfl) rfl (aI.tmp rfl) rfl rfl
  ·replace h:=fG h kF
   refine QW.skip zL (g6 (aX ?_))
   refine rG ?_
   obtain ⟨lQ,h⟩:=gG h
   refine xs 18 rfl (bX (a:=v8) (b:=(1:Int)) rfl rfl rfl lQ ?_)
   refine xm 8 (pI (v8+(1:Int))) ?_
   refine XK.nz ?_
   exact ⟨k_1,by omega,⟨aG [(0, .d (.slice (v0.map U))),(1, .d (.gT me nE)),(7,pI (v0.length:Int)),(8,pI (v8+(1:Int)))],aj [],0,[]⟩,View.mk 0 [] _ _ _ rfl rfl (by decide) (iC (iC (iC (iC trivial)))) trivial rfl zL rfl,(v8+(1:Int)),by omega,jG h,rfl⟩
 ·replace h:=fG h cB
  refine QW.exit zL (eD (eD (j3 (aX ?_))))
  refine sR ?_
  refine xz 4 (pI (-1)) ?_
  refine QW.ret zL ?_
  obtain rfl:=sG h
  exact Ends.one (.inr rfl) rfl (aI.tmp rfl) rfl rfl
noncomputable def fK (v0:(List UInt8)) (f1:UInt8→Option Bool):Option Bool:=
  ((kE v0 f1).bind fun (x_1:Int)=>
  some (decide ((0:Int)≤x_1)))
theorem qI (v0:(List UInt8)) (f1:UInt8→Option Bool) (me:Nat) (nE:List D) (Ir:aP Tryz.prog me=true) (Is:∀ y0 r,f1 y0=some r→bI Tryz.prog me ([.val (.int .u8 (y0.toNat:Int))]++nE) (.val (.bool r))) (r:Bool) (h:fK v0 f1=some r):bI Tryz.prog 95 [.slice (v0.map U), .gT me nE] (.val (.bool r)):=by
 refine bI.aU Tryz.func95 rfl (by simp [Tryz.ntmps95]) ?_
 rw [Tryz.ntmps95,TT.UF]
 refine QW.view (s':=⟨aG [(0, .d (.slice (v0.map U))),(1, .d (.gT me nE))],aj [],0,[]⟩) (View.init (by rfl)) zL ?_
 unfold fK at h
 refine sR ?_
 refine xz 4 (pB false) ?_
 refine sR ?_
 refine xm 5 (.d (.slice (v0.map U))) ?_
 refine xm 6 (.d (.gT me nE)) ?_
 obtain ⟨x_1,fB,h⟩:=bO h
 refine xs 7 rfl (aA rfl rfl TT.LH rfl (sH v0 f1 me nE Ir Is _ fB) ?_)
 refine xs 8 rfl (uU (a:=x_1) (b:=(0:Int)) rfl rfl rfl ?_)
 refine xz 4 (pB (decide ((0:Int)≤x_1))) ?_
 refine QW.ret zL ?_
 obtain rfl:=sO h
 exact Ends.one (.inr rfl) rfl (aI.tmp rfl) rfl rfl
noncomputable def oN (c0:UInt8):Option Bool:=
  some (decide ((15:Int)<(c0.toNat:Int)))
theorem Ed (c0:UInt8) (r:Bool) (h:oN c0=some r):bI Tryz.prog 96 [.val (.int .u8 (c0.toNat:Int))] (.val (.bool r)):=by
 refine bI.aU Tryz.func96 rfl (by simp [Tryz.ntmps96]) ?_
 rw [Tryz.ntmps96,TT.UG]
 refine QW.view (s':=⟨aG [(0, .d (.val (.int .u8 (c0.toNat:Int))))],aj [],0,[]⟩) (View.init (by rfl)) zL ?_
 unfold oN at h
 refine sR ?_
 refine xz 2 (pB false) ?_
 refine sR ?_
 refine xm 3 (.d (.val (.int .u8 (c0.toNat:Int)))) ?_
 refine xs 4 rfl (nQ (a:=(c0.toNat:Int)) (b:=(15:Int)) rfl rfl rfl ?_)
 refine xz 2 (pB (decide ((15:Int)<(c0.toNat:Int)))) ?_
 refine QW.ret zL ?_
 obtain rfl:=sO h
 exact Ends.one (.inr rfl) rfl (aI.tmp rfl) rfl rfl
noncomputable def pG (p0:(List UInt8)):Option Bool:=
  ((fK p0 (fun y0=>oN y0)).bind fun (x_1:Bool)=>
  some (!x_1))
theorem Ai (p0:(List UInt8)) (r:Bool) (h:pG p0=some r):bI Tryz.prog 74 [.slice (p0.map U)] (.val (.bool r)):=by
 refine bI.aU Tryz.func74 rfl (by simp [Tryz.ntmps74]) ?_
 rw [Tryz.ntmps74,TT.UA]
 refine QW.view (s':=⟨aG [(0, .d (.slice (p0.map U)))],aj [],0,[]⟩) (View.init (by rfl)) zL ?_
 unfold pG at h
 refine sR ?_
 refine xz 2 (pB false) ?_
 refine sR ?_
 refine xm 3 (.d (.slice (p0.map U))) ?_
 obtain ⟨x_1,fB,h⟩:=bO h
 refine xs 4 rfl (aA rfl rfl TT.NJ rfl (qI p0 (fun y0=>oN y0) 96 [] TT.NK (fun y0 _ h=>Ed y0 _ h) _ fB) ?_)
 refine xs 5 rfl (ou rfl rfl ?_)
 refine xz 2 (pB (!x_1)) ?_
 refine QW.ret zL ?_
 obtain rfl:=sO h
 exact Ends.one (.inr rfl) rfl (aI.tmp rfl) rfl rfl
inductive Dl where
 | S
 | L1 (v3:(List UInt8)) (v4:Int)
noncomputable def jV (p0:(List UInt8)):Dl→Option (Dl⊕(List UInt8))
 | .S=>
  some (.inl (.L1 ([]:(List UInt8)) (0)))
 | .L1 v3 v4=>
  gO (bw (v4+(1:Int))) (
  (bif (decide ((v4+(1:Int))<(p0.length:Int))) then
  gO (0≤v4∧v4<(p0.length:Int)) (
  gO (bw (v4+(1:Int))) (
  gO (0≤(v4+(1:Int))∧(v4+(1:Int))<(p0.length:Int)) (
  gO ((v3.length+([((qC (idx p0 v4) (4:Int))||| (idx p0 (v4+(1:Int))))]:List UInt8).length)*1≤140737488355328) (
  gO (bw (v4+(2:Int))) (
  some (.inl (.L1 (v3++([((qC (idx p0 v4) (4:Int))||| (idx p0 (v4+(1:Int))))]:List UInt8)) (v4+(2:Int)))))))))
  else
  some (.inr v3)))
noncomputable def uY (p0:(List UInt8)):Option (List UInt8):=g9 (jV p0) .S
theorem Aj (p0:(List UInt8)) (r:(List UInt8)) (h:uY p0=some r):bI Tryz.prog 80 [.slice (p0.map U)] (.slice (r.map U)):=by
 refine bI.aU Tryz.func80 rfl (by simp [Tryz.ntmps80]) ?_
 rw [Tryz.ntmps80,TT.UC]
 refine QW.view (s':=⟨aG [(0, .d (.slice (p0.map U)))],aj [],0,[]⟩) (View.init (by rfl)) zL ?_
 replace h:=cL h
 obtain ⟨_,h⟩:=h
 obtain ⟨dm,rfl,h9⟩:=aQ h;replace h:=h9;clear h9;rw [jV] at h
 refine sR ?_
 refine xz 2 (.full (([]:(List UInt8)).map U)) ?_
 refine sR ?_
 refine xz 3 (.full (([]:(List UInt8)).map U)) ?_
 refine QW.seq ?_
 refine sR ?_
 refine xz 4 (pI (0)) ?_
 refine QW.block ?_
 refine QW.loop (fun k σ=>∃ v3:(List UInt8),∃ v4:Int,k≤dm∧run (jV p0) k (.L1 v3 v4)=some r∧σ=⟨aG [(0, .d (.slice (p0.map U))),(3, .own 0 (v3.map U)),(4,pI v4)],aj [.spare 1 v3.length],1,[]⟩) dm zL ⟨⟨aG [(0, .d (.slice (p0.map U))),(3, .own 0 (([]:(List UInt8)).map U)),(4,pI (0))],aj [.spare 1 ([]:(List UInt8)).length],1,[]⟩,View.trans (View.buf 3 1 rfl zL) (View.mk 1 [0] _ _ _ rfl rfl (by decide) (iC (iC (iC trivial))) (And.intro rfl trivial) rfl zL rfl),([]:(List UInt8)),0,Nat.le_refl _,jG h,rfl⟩ ?_
 rintro rO _ ⟨v3,v4,rP,h,rfl⟩
 obtain ⟨k_1,rfl,h9⟩:=aQ h;replace h:=h9;clear h9;rw [jV] at h
 refine QW.seq ?_
 refine sR ?_
 refine xm 5 (pI v4) ?_
 obtain ⟨xE,h⟩:=gG h
 refine xs 6 rfl (bX (a:=v4) (b:=(1:Int)) rfl rfl rfl xE ?_)
 refine xm 7 (.d (.slice (p0.map U))) ?_
 refine xs 8 rfl (cM (en:=U) (l:=p0) rfl TT.bA rfl ?_)
 refine xs 9 rfl (cJ (a:=(v4+(1:Int))) (b:=(p0.length:Int)) rfl rfl rfl ?_)
 refine XK.nz ?_
 refine QW.cond (t:=(decide ((v4+(1:Int))<(p0.length:Int)))) rfl zL (fun dU=>?_) (fun dU=>?_)
 ·replace h:=fF h dU
  refine QW.skip zL (aX ?_)
  refine QW.seq ?_
  refine QW.block ?_
  refine QW.region zL (PW.rL (id:=5) dc (M:=_) rfl (by kernel_rfl) ?_)
  refine RK.st (some 12) rfl rfl (au (v:= .own 0 (v3.map U)) rfl rfl ?_)
  refine RK.st (some 13) rfl rfl (au (v:= .d (.slice (p0.map U))) rfl rfl ?_)
  refine RK.st (some 14) rfl rfl (au (v:=pI v4) rfl rfl ?_)
  obtain ⟨mH,h⟩:=gG h
  refine RK.st (some 15) rfl rfl (bC (l:=p0) (i:=v4) rfl TT.ek bx rfl rfl mH ?_)
  refine RK.st (some 16) rfl rfl (aC (d:= .val (.int .u8 ((idx p0 v4).toNat:Int))) rfl TT.jx rfl (c8.one) ?_)
  refine RK.st (some 17) rfl rfl (P3 (p:=(idx p0 v4)) (c:=(4:Int)) rfl rfl rfl (by decide) ?_)
  refine RK.st (some 18) rfl rfl (au (v:= .d (.slice (p0.map U))) rfl rfl ?_)
  refine RK.st (some 19) rfl rfl (au (v:=pI v4) rfl rfl ?_)
  obtain ⟨nU,h⟩:=gG h
  refine RK.st (some 20) rfl rfl (bX (a:=v4) (b:=(1:Int)) rfl rfl rfl nU ?_)
  obtain ⟨mJ,h⟩:=gG h
  refine RK.st (some 21) rfl rfl (bC (l:=p0) (i:=(v4+(1:Int))) rfl TT.ek bx rfl rfl mJ ?_)
  refine RK.st (some 22) rfl rfl (aC (d:= .val (.int .u8 ((idx p0 (v4+(1:Int))).toNat:Int))) rfl TT.jx rfl (c8.one) ?_)
  refine RK.st (some 23) rfl rfl (RU (p:=(qC (idx p0 v4) (4:Int))) (q:=(idx p0 (v4+(1:Int)))) rfl rfl rfl ?_)
  refine RK.st (some 24) rfl rfl (ef (en:=U) (l:=([((qC (idx p0 v4) (4:Int))||| (idx p0 (v4+(1:Int))))]:List UInt8)) rfl TT.e8 bx rfl rfl (by decide) (by simp [dw,cU,aB,dQ,PV.cz,cx,aG,jA,iU,jX,bU,Value.oneCell']) ?_)
  obtain ⟨lQ,h⟩:=gG h
  refine RK.st (some 25) rfl rfl (iY (en:=U) (l:=v3) (l2:=([((qC (idx p0 v4) (4:Int))||| (idx p0 (v4+(1:Int))))]:List UInt8)) rfl TT.e8 TT.bA rfl bx rfl rfl rfl lQ (by decide) ?_)
  refine RK.st (some 3) rfl rfl (cq (v:= .own 1 ((v3++([((qC (idx p0 v4) (4:Int))||| (idx p0 (v4+(1:Int))))]:List UInt8)).map U)) rfl rfl ?_)
  refine RK.nil ⟨fT.last 13 (by simp) (by simp) (by rfl),(g6 (aX ?_))⟩
  refine QW.view (s':=⟨aG [(0, .d (.slice (p0.map U))),(3, .own 0 ((v3++([((qC (idx p0 v4) (4:Int))||| (idx p0 (v4+(1:Int))))]:List UInt8)).map U)),(4,pI v4)],aj [.spare 1 (v3++([((qC (idx p0 v4) (4:Int))||| (idx p0 (v4+(1:Int))))]:List UInt8)).length],1,[]⟩) (View.mk 1 [1] _ _ _ rfl rfl (by decide) (iC (iC (iC trivial))) (And.intro rfl trivial) rfl zL rfl) zL ?_
  refine rG ?_
  refine xm 10 (pI v4) ?_
  obtain ⟨p5,h⟩:=gG h
  refine xs 11 rfl (bX (a:=v4) (b:=(2:Int)) rfl rfl rfl p5 ?_)
  refine xz 4 (pI (v4+(2:Int))) ?_
  exact ⟨k_1,by omega,⟨aG [(0, .d (.slice (p0.map U))),(3, .own 0 ((v3++([((qC (idx p0 v4) (4:Int))||| (idx p0 (v4+(1:Int))))]:List UInt8)).map U)),(4,pI (v4+(2:Int)))],aj [.spare 1 (v3++([((qC (idx p0 v4) (4:Int))||| (idx p0 (v4+(1:Int))))]:List UInt8)).length],1,[]⟩,View.mk 1 [0] _ _ _ rfl rfl (by decide) (iC (iC (iC trivial))) (And.intro rfl trivial) rfl zL rfl,(v3++([((qC (idx p0 v4) (4:Int))||| (idx p0 (v4+(1:Int))))]:List UInt8)),(v4+(2:Int)),by omega,jG h,rfl⟩
 ·replace h:=fG h dU
  refine QW.exit zL (eD (eD (j3 (aX ?_))))
  refine sR ?_
  refine xm 26 (.own 0 (v3.map U)) ?_
  refine xz 2 (.own 0 (v3.map U)) ?_
  refine QW.ret zL ?_
  obtain rfl:=sG h
  exact Ends.one (.inr rfl) rfl (aI.tmp rfl) rfl rfl
noncomputable def tU (p0:(List UInt8)) (om:Bool):Option ((List UInt8)×Int):=
  ((pG p0).bind fun (x_1:Bool)=>
  (bif ((!x_1)||(decide ((64:Int)<(p0.length:Int)))) then
  some (([]:List UInt8),2)
  else
  (((bif om then
  some (2:UInt8)
  else
  some (0:UInt8)):Option UInt8).bind fun (v6:UInt8)=>
  (bif (decide (((p0.length:Int).tmod (2:Int))=(1:Int))) then
  ((rm ([([(v6+(1:UInt8))]:List UInt8),p0]:List (List UInt8))).bind fun (x_6:(List UInt8))=>
  ((uY x_6).bind fun (x_8:(List UInt8))=>
  some (x_8,0)))
  else
  ((rm ([([v6,(0:UInt8)]:List UInt8),p0]:List (List UInt8))).bind fun (x_10:(List UInt8))=>
  ((uY x_10).bind fun (x_12:(List UInt8))=>
  some (x_12,0)))))))
theorem It (p0:(List UInt8)) (om:Bool) (r:((List UInt8)×Int)) (h:tU p0 om=some r):bI Tryz.prog 51 [.slice (p0.map U), .val (.bool om)] (.tuple [.val (sV (r.1)), .val (.int .i64 (r.2))]):=by
 refine bI.aU Tryz.func51 rfl (by simp [Tryz.ntmps51]) ?_
 rw [Tryz.ntmps51,TT.Uw]
 refine QW.view (s':=⟨aG [(0, .d (.slice (p0.map U))),(1,pB om)],aj [],0,[]⟩) (View.init (by rfl)) zL ?_
 unfold tU at h
 refine sR ?_
 refine xa 4 (pS ([]:List UInt8)) ?_
 refine xz 5 (pI (0)) ?_
 refine QW.seq ?_
 refine sR ?_
 refine xm 7 (.d (.slice (p0.map U))) ?_
 obtain ⟨x_1,fB,h⟩:=bO h
 refine xs 8 rfl (aA rfl rfl TT.GC rfl (Ai p0 _ fB) ?_)
 refine xs 9 rfl (ou rfl rfl ?_)
 refine xm 10 (pB (!x_1)) ?_
 refine xg 11 (.d (.slice (p0.map U))) rfl rfl (fun hg=>au (v:= .d (.slice (p0.map U))) rfl rfl g3) ?_
 refine xg 12 (pI (p0.length:Int)) rfl rfl (fun hg=>cM (en:=U) (l:=p0) rfl TT.bA rfl g3) ?_
 refine xg 13 (pB (decide ((64:Int)<(p0.length:Int)))) rfl rfl (fun hg=>nQ (a:=(p0.length:Int)) (b:=(64:Int)) rfl rfl rfl g3) ?_
 refine xs 14 rfl (jt rfl rfl rfl rfl (fun _=>rfl) (fun hb=>by rw [hb];rfl) ?_)
 refine XK.nz ?_
 refine QW.cond (t:=((!x_1)||(decide ((64:Int)<(p0.length:Int))))) rfl zL (fun dU=>?_) (fun dU=>?_)
 ·replace h:=bT h dU
  refine sR ?_
  refine xa 4 (pS ([]:List UInt8)) ?_
  refine xz 5 (pI (2)) ?_
  refine QW.ret zL (gm ?_)
  obtain rfl:=sO h
  exact Ends.more (.inr rfl) rfl (ps:=[pS ([]:List UInt8),pI (2)]) (And.intro (aI.tmp rfl) (And.intro (aI.tmp rfl) trivial)) rfl rfl
 ·replace h:=bF h dU
  refine QW.skip zL (aX ?_)
  refine sR ?_
  refine xz 6 (.d (.val (.int .u8 ((0:UInt8).toNat:Int)))) ?_
  obtain ⟨v6,hq,h⟩:=bO h
  refine QW.qY (fun s'=>s'=⟨aG [(0, .d (.slice (p0.map U))),(6, .d (.val (.int .u8 (v6.toNat:Int))))],aj [],0,[]⟩) ?_ ?_
  ·replace h:=hq;clear hq
   refine sR ?_
   refine xm 15 (pB om) ?_
   refine XK.nz ?_
   refine QW.cond (t:=om) rfl zL (fun jb=>?_) (fun jb=>?_)
   ·replace h:=bT h jb
    refine rG ?_
    refine xz 6 (.d (.val (.int .u8 ((2:UInt8).toNat:Int)))) ?_
    obtain rfl:=sO h
    exact ⟨⟨aG [(0, .d (.slice (p0.map U))),(6, .d (.val (.int .u8 ((2:UInt8).toNat:Int))))],aj [],0,[]⟩,View.mk 0 [] _ _ _ rfl rfl (by decide) (iC (iC trivial)) trivial rfl zL rfl,rfl⟩
   ·replace h:=bF h jb
    refine QW.skip zL (aX ?_)
    obtain rfl:=sO h
    exact ⟨⟨aG [(0, .d (.slice (p0.map U))),(6, .d (.val (.int .u8 ((0:UInt8).toNat:Int))))],aj [],0,[]⟩,View.mk 0 [] _ _ _ rfl rfl (by decide) (iC (iC trivial)) trivial rfl zL rfl,rfl⟩
  ·rintro _ rfl
   refine QW.seq ?_
   refine sR ?_
   refine xm 16 (.d (.slice (p0.map U))) ?_
   refine xs 17 rfl (cM (en:=U) (l:=p0) rfl TT.bA rfl ?_)
   refine xs 18 rfl (uT (a:=(p0.length:Int)) (b:=(2:Int)) rfl rfl rfl (by decide) ?_)
   refine xs 19 rfl (eF (a:=((p0.length:Int).tmod (2:Int))) (b:=(1:Int)) rfl rfl rfl ?_)
   refine XK.nz ?_
   refine QW.cond (t:=(decide (((p0.length:Int).tmod (2:Int))=(1:Int)))) rfl zL (fun jH=>?_) (fun jH=>?_)
   ·replace h:=bT h jH
    refine sR ?_
    refine xm 20 (.d (.val (.int .u8 (v6.toNat:Int)))) ?_
    refine xs 21 rfl (D5 (p:=v6) (q:=(1:UInt8)) rfl rfl rfl ?_)
    refine xs 22 rfl (ef (en:=U) (l:=([(v6+(1:UInt8))]:List UInt8)) rfl TT.e8 bx rfl rfl (by decide) (by simp [dw,cU,aB,dQ,PV.cz,cx,aG,jA,iU,jX,bU,Value.oneCell']) ?_)
    refine xm 23 (.d (.slice (p0.map U))) ?_
    refine xs 24 rfl (ef (en:=(eL U)) (l:=([([(v6+(1:UInt8))]:List UInt8),p0]:List (List UInt8))) rfl TT.A5 Gp rfl rfl (by decide) (by simp [dw,cU,aB,dQ,PV.cz,cx,aG,jA,iU,jX,bU,Value.oneCell']) ?_)
    obtain ⟨x_6,yg,h⟩:=bO h
    refine xs 25 rfl (aA rfl rfl TT.yR rfl (tA ([([(v6+(1:UInt8))]:List UInt8),p0]:List (List UInt8)) _ yg) ?_)
    obtain ⟨x_8,Ak,h⟩:=bO h
    refine xs 26 rfl (aA rfl rfl TT.GD rfl (Aj x_6 _ Ak) ?_)
    refine xs 27 rfl (nS (l:=x_8) rfl TT.bA TT.dR TT.bY rfl ?_)
    refine xa 4 (pS x_8) ?_
    refine xz 5 (pI (0)) ?_
    refine QW.ret zL (gm ?_)
    obtain rfl:=sO h
    exact Ends.more (.inr rfl) rfl (ps:=[pS x_8,pI (0)]) (And.intro (aI.tmp rfl) (And.intro (aI.tmp rfl) trivial)) rfl rfl
   ·replace h:=bF h jH
    refine QW.skip zL (aX ?_)
    refine sR ?_
    refine xm 28 (.d (.val (.int .u8 (v6.toNat:Int)))) ?_
    refine xs 29 rfl (ef (en:=U) (l:=([v6,(0:UInt8)]:List UInt8)) rfl TT.e8 bx rfl rfl (by decide) (by simp [dw,cU,aB,dQ,PV.cz,cx,aG,jA,iU,jX,bU,Value.oneCell']) ?_)
    refine xm 30 (.d (.slice (p0.map U))) ?_
    refine xs 31 rfl (ef (en:=(eL U)) (l:=([([v6,(0:UInt8)]:List UInt8),p0]:List (List UInt8))) rfl TT.A5 Gp rfl rfl (by decide) (by simp [dw,cU,aB,dQ,PV.cz,cx,aG,jA,iU,jX,bU,Value.oneCell']) ?_)
    obtain ⟨x_10,qJ,h⟩:=bO h
    refine xs 32 rfl (aA rfl rfl TT.yR rfl (tA ([([v6,(0:UInt8)]:List UInt8),p0]:List (List UInt8)) _ qJ) ?_)
    obtain ⟨x_12,uq,h⟩:=bO h
    refine xs 33 rfl (aA rfl rfl TT.GD rfl (Aj x_10 _ uq) ?_)
    refine xs 34 rfl (nS (l:=x_12) rfl TT.bA TT.dR TT.bY rfl ?_)
    refine xa 4 (pS x_12) ?_
    refine xz 5 (pI (0)) ?_
    refine QW.ret zL ?_
    obtain rfl:=sO h
    exact Ends.more (.inr rfl) rfl (ps:=[pS x_12,pI (0)]) (And.intro (aI.tmp rfl) (And.intro (aI.tmp rfl) trivial)) rfl rfl
noncomputable def oO (l0:(List Item)):Option Item:=
  gO ((([]:(List Item)).length+l0.length)*48≤140737488355328) (
  some (⟨true,([]:List UInt8),(([]:(List Item))++l0)⟩:Item))
theorem xH (l0:(List Item)) (r:Item) (h:oO l0=some r):bI Tryz.prog 53 [.slice (l0.map bu)] (.agg (dA r)):=by
 refine bI.aU Tryz.func53 rfl (by simp [Tryz.ntmps53]) ?_
 rw [Tryz.ntmps53,TT.Uy]
 refine QW.view (s':=⟨aG [(0, .d (.slice (l0.map bu)))],aj [],0,[]⟩) (View.init (by rfl)) zL ?_
 unfold oO at h
 refine sR ?_
 refine xs 2 rfl (bB (l:=[pB false,pS ([]:List UInt8), .full (([]:(List Item)).map bu)]) rfl TT.mj rfl rfl ?_)
 refine XK.nz ?_
 refine sR ?_
 refine xm 3 (.d (.slice (l0.map bu))) ?_
 obtain ⟨nV,h⟩:=bk h
 refine xs 4 rfl (Gq (en:=bu) (l:=([]:(List Item))) (l2:=l0) rfl TT.rN TT.q7 rfl kQ rfl rfl ⟨nV,fun _=>rfl⟩ (by decide) ?_)
 refine xs 5 rfl (eT (v:= .agg [pB true,pS ([]:List UInt8), .own 1 ((([]:(List Item))++l0).map bu)]) rfl TT.x9 (dG rfl (cw (cells':=[pB true,pS ([]:List UInt8), .full (([]:(List Item)).map bu)]) rfl rfl rfl bL rfl (cw (cells':=[pB true,pS ([]:List UInt8), .own 1 ((([]:(List Item))++l0).map bu)]) rfl rfl rfl bL rfl dF))) ?_)
 refine XK.st none rfl rfl (bh (l':=[pB true,pS ([]:List UInt8), .own 1 ((([]:(List Item))++l0).map bu)]) rfl TT.eC rfl rfl rfl rfl rfl rfl (by simp) rfl ?_)
 refine XK.nz ?_
 refine QW.ret zL ?_
 obtain rfl:=sO h
 exact Ends.one (.inr rfl) rfl (aI.cell rfl rfl TT.eC ⟨⟨by simp,by simp⟩,rfl⟩) rfl rfl
end Go.Proofs.YtlfjfoknbjcncaaGreat.K
