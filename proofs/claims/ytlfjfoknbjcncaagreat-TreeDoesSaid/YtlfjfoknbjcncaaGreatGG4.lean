/- Packages rlp and nib: what they reckon. -/
import Derived.Test.YtlfjfoknbjcncaaGreatGG3
import Derived.Test.YtlfjfoknbjcncaaGreatRows
import Derived.KernelRfl
namespace Go.Proofs.YtlfjfoknbjcncaaGreat.K
open Go Go.RowKit
set_option linter.unusedSimpArgs false
set_option linter.unusedVariables false
set_option maxRecDepth 20000
set_option maxHeartbeats 4000000
namespace TT
theorem GD:mu Tryz.prog 28=some (32,1,false):=by kernel_rfl
theorem nL:mu Tryz.prog 9=none:=by kernel_rfl
theorem QF:pX Tryz.prog 145=some ([Value.int IntKind.i64 0], .inl [(0,1)]):=by kernel_rfl
theorem yc:pX Tryz.prog 82=some ([Value.bool false,Value.string ⟨#[]⟩,Value.slice none 0 0], .inl [(0,1),(1,1),(2,1)]):=by kernel_rfl
theorem ET:aN Tryz.prog 100=true:=by kernel_rfl
theorem LO:aN Tryz.prog 101=true:=by kernel_rfl
theorem LP:aN Tryz.prog 109=true:=by kernel_rfl
theorem wZ:aN Tryz.prog 110=true:=by kernel_rfl
theorem EU:aN Tryz.prog 117=true:=by kernel_rfl
theorem LQ:aN Tryz.prog 118=true:=by kernel_rfl
theorem qx:aN Tryz.prog 54=true:=by kernel_rfl
theorem GF:aN Tryz.prog 74=true:=by kernel_rfl
theorem yT:aN Tryz.prog 79=true:=by kernel_rfl
theorem GG:aN Tryz.prog 80=true:=by kernel_rfl
theorem GH:aN Tryz.prog 81=true:=by kernel_rfl
theorem yU:aN Tryz.prog 82=true:=by kernel_rfl
theorem NR:aN Tryz.prog 95=true:=by kernel_rfl
theorem NS:aN Tryz.prog 96=true:=by kernel_rfl
theorem yV:aN Tryz.prog 98=true:=by kernel_rfl
theorem fE:aN Tryz.prog 99=true:=by kernel_rfl
theorem Ac:lu Tryz.prog 125 0=some (0,1,false):=by kernel_rfl
theorem LR:lu Tryz.prog 145 0=some (0,1,false):=by kernel_rfl
theorem vz:lu Tryz.prog 82 0=some (0,1,false):=by kernel_rfl
theorem jE:lu Tryz.prog 82 1=some (1,1,false):=by kernel_rfl
theorem mQ:lu Tryz.prog 82 2=some (2,1,false):=by kernel_rfl
theorem Db:vn Tryz.prog 145=true:=by kernel_rfl
theorem SM:Tryz.f100.results.toList=[.tmp 4]:=rfl
theorem SN:Tryz.f101.results.toList=[.cell 2 82, .tmp 3, .cell 4 34]:=rfl
theorem SO:Tryz.f109.results.toList=[.tmp 4]:=rfl
theorem SP:Tryz.f110.results.toList=[.cell 6 82, .tmp 7]:=rfl
theorem SQ:Tryz.f114.results.toList=[.tmp 2, .tmp 3, .tmp 4]:=rfl
theorem SR:Tryz.f117.results.toList=[.tmp 4, .tmp 5]:=rfl
theorem SS:Tryz.f118.results.toList=[]:=rfl
theorem U0:Tryz.f27.results.toList=[.tmp 2]:=rfl
theorem U1:Tryz.f43.results.toList=[.tmp 2]:=rfl
theorem U2:Tryz.f47.results.toList=[.tmp 4]:=rfl
theorem U3:Tryz.f51.results.toList=[.tmp 4, .tmp 5]:=rfl
theorem U4:Tryz.f52.results.toList=[.tmp 2, .cell 3 34]:=rfl
theorem U5:Tryz.f53.results.toList=[.cell 2 82]:=rfl
theorem U6:Tryz.f54.results.toList=[.cell 2 82]:=rfl
theorem U7:Tryz.f74.results.toList=[.tmp 2]:=rfl
theorem U8:Tryz.f79.results.toList=[.tmp 2]:=rfl
theorem U9:Tryz.f80.results.toList=[.tmp 2]:=rfl
theorem Pv:Tryz.f81.results.toList=[]:=rfl
theorem Va:Tryz.f82.results.toList=[.tmp 6]:=rfl
theorem Vc:Tryz.f83.results.toList=[.cell 2 82, .tmp 3]:=rfl
theorem Vd:Tryz.f95.results.toList=[.tmp 4]:=rfl
theorem Ve:Tryz.f96.results.toList=[.tmp 2]:=rfl
theorem Vf:Tryz.f98.results.toList=[]:=rfl
theorem Vg:Tryz.f99.results.toList=[]:=rfl
theorem A5:oE Tryz.prog 143=some (1,24):=by kernel_rfl
theorem e9:oE Tryz.prog 49=some (1,1):=by kernel_rfl
theorem rJ:oE Tryz.prog 80=some (3,48):=by kernel_rfl
theorem QG:l6 Tryz.prog 143=some (1,24,false):=by kernel_rfl
theorem eD:l6 Tryz.prog 49=some (1,1,false):=by kernel_rfl
theorem Ad:l6 Tryz.prog 80=some (3,48,true):=by kernel_rfl
theorem SU:jC Tryz.prog 145=some (true,1):=by kernel_rfl
theorem iB:jC Tryz.prog 28=some (true,32):=by kernel_rfl
theorem l9:jC Tryz.prog 3=some (false,1):=by kernel_rfl
theorem kr:jC Tryz.prog 34=some (false,1):=by kernel_rfl
theorem GI:jC Tryz.prog 4=some (false,1):=by kernel_rfl
theorem fB:jC Tryz.prog 49=some (false,1):=by kernel_rfl
theorem kG:jC Tryz.prog 5=some (false,1):=by kernel_rfl
theorem tu:jC Tryz.prog 80=some (false,1):=by kernel_rfl
theorem ew:jC Tryz.prog 82=some (true,3):=by kernel_rfl
theorem fF:jC Tryz.prog 9=some (false,1):=by kernel_rfl
theorem NT:Program.underlying Tryz.prog 143=some (.slice 49):=by kernel_rfl
theorem D8:Program.underlying Tryz.prog 20=some (.interface #[]):=by kernel_rfl
theorem kY:Program.underlying Tryz.prog 3=some (.int .i64):=by kernel_rfl
theorem bC:Program.underlying Tryz.prog 49=some (.slice 5):=by kernel_rfl
theorem dV:Program.underlying Tryz.prog 5=some (.int .u8):=by kernel_rfl
theorem qX:Program.underlying Tryz.prog 80=some (.slice 82):=by kernel_rfl
theorem bZ:Program.underlying Tryz.prog 9=some (.string):=by kernel_rfl
theorem GJ:lG Tryz.prog 125=some [Value.int IntKind.i64 0]:=by kernel_rfl
theorem NU:lG Tryz.prog 145=some [Value.int IntKind.i64 0]:=by kernel_rfl
theorem yd:lG Tryz.prog 34=some [Value.int IntKind.i64 0]:=by kernel_rfl
theorem QH:lG Tryz.prog 49=some [Value.slice none 0 0]:=by kernel_rfl
theorem mm:lG Tryz.prog 82=some [Value.bool false,Value.string ⟨#[]⟩,Value.slice none 0 0]:=by kernel_rfl
end TT
theorem dh:Tryz.prog.follows .mixedOrders=true:=by kernel_rfl
inductive aa where
 | nil
 | node (GK:Int) (GL:(List UInt8)) (Dc:(List UInt8)) (D9:Fin 16→aa) (LS:(List UInt8))
instance:Inhabited aa:=⟨.nil⟩
def aa.isNil:aa→Bool
 | .nil=>true
 | .node .. =>false
def ye:aa→List D
 | .nil=>[]
 | .node GK GL Dc D9 LS=>(([.val (.int .i64 GK), .slice (GL.map U), .val (sV Dc)])++((List.ofFn fun i=>D.l5 (D9 i).isNil (ye (D9 i)))++([.val (sV LS)])))
def ah (x:aa):D:= .l5 x.isNil (ye x)
structure part where
 bg:Int
 bD:(List UInt8)
 dG:(List UInt8)
 b8:(aE 16 aa)
 vA:(List UInt8)
 deriving Inhabited
def ja (x:part):List D:=[.val (.int .i64 (x.bg)), .slice ((x.bD).map U), .val (sV (x.dG))]++((x.b8).1.map ah++([.val (sV (x.vA))]))
def XB (x:part):D:= .agg (ja x)
theorem Jl:rF XB ja 20:=⟨fun _=>rfl,fun x=>by simp [ja,x.b8.2]⟩
theorem kH (x:part):di false 1 ((ja x).drop 0) (.val (.int .i64 (x.bg))):=di.one
theorem iR (x:part):di false 1 ((ja x).drop 1) (.slice ((x.bD).map U)):=di.one
theorem w4 (x:part):di false 1 ((ja x).drop 2) (.val (sV (x.dG))):=di.one
theorem Ae (x:part):di true 16 ((ja x).drop 3) (.agg ((x.b8).1.map ah)):=qV 3 0 rfl (Cc (show ((x.b8).1.map ah).length=16 by rw [List.length_map,x.b8.2]))
theorem nB (x:part):Pre ((ja x).drop 3) ah x.b8:=Jc 3 0 rfl NM
theorem LU (x:part):di false 1 ((ja x).drop 19) (.val (sV (x.vA))):=qV 3 16 rfl (qV 16 0 (show ((x.b8).1.map ah).length=16 by rw [List.length_map,x.b8.2]) (di.one))
def aa.of (x:part):aa:= .node x.bg x.bD x.dG (fun i=>x.b8.1.getD i.1 .nil) x.vA
def aa.at:aa→part
 | .nil=>default
 | .node GK GL Dc D9 LS=>⟨GK,GL,Dc,⟨List.ofFn D9,by simp⟩,LS⟩
theorem tQ (x:part):ja x=ye (.of x):=by
 have XC:List.ofFn (fun i:Fin 16=>ah (x.b8.1.getD i.1 .nil))=x.b8.1.map ah:=QC ah .nil x.b8
 simp only [ja,aa.of,ye]
 rw [← XC]
 rfl
theorem LV {p:aa} (h:p.isNil=false):ye p=ja p.at:=by
 cases p with
 | nil=>cases h
 | node GK GL Dc D9 LS=>
  simp only [ja,aa.at,ye,List.map_ofFn]
  rfl
theorem dB {p:aa} (h:p.isNil=false):PV.d (ah p)= .d (.l5 false (ja p.at)):=by
 rw [← LV h, ← h];rfl
structure Tree where
 fp:aa
 deriving Inhabited
def dj (x:Tree):List D:=[ah (x.fp)]
def lg (x:Tree):D:= .agg (dj x)
theorem QI (x:Tree):lg x= .agg (dj x):=rfl
theorem Jm:rF lg dj 1:=⟨fun _=>rfl,fun _=>rfl⟩
structure bt where
 bQ:(aE 32 UInt8)
 ay:(List UInt8)
 deriving Inhabited
def iD (x:bt):List D:=((x.bQ).1.map U)++[.val (sV (x.ay))]
def bq (x:bt):D:= .agg (iD x)
theorem yf (x:bt):bq x= .agg (iD x):=rfl
theorem dN:rF bq iD 33:=⟨fun _=>rfl,fun x=>by simp [iD,x.bQ.2]⟩
theorem nC (x:bt):di true 32 ((iD x).drop 0) (.agg ((x.bQ).1.map U)):=Cc (show ((x.bQ).1.map U).length=32 by rw [List.length_map,x.bQ.2])
theorem LW (x:bt) (v:(aE 32 UInt8)):lX ((iD x).map PV.d) 0 ((v.1.map U).map PV.d)=(iD {x with bQ:=v}).map PV.d:=NN (show ((x.bQ).1.map U).length=32 by rw [List.length_map,x.bQ.2]) (show (v.1.map U).length=32 by rw [List.length_map,v.2])
theorem Af (x:bt):di false 1 ((iD x).drop 32) (.val (sV (x.ay))):=qV 32 0 (show ((x.bQ).1.map U).length=32 by rw [List.length_map,x.bQ.2]) (di.one)
theorem LX (x:bt) (v:(List UInt8)):lX ((iD x).map PV.d) 32 [PV.d (.val (sV v))]=(iD {x with ay:=v}).map PV.d:=Qo 32 0 (show ((x.bQ).1.map U).length=32 by rw [List.length_map,x.bQ.2]) rfl
structure Node where
 aW:Int
 az:(List UInt8)
 ay:(List UInt8)
 aT:(aE 16 (List UInt8))
 deriving Inhabited
def cNode (x:Node):List D:=([.val (.int .i64 (x.aW)), .slice ((x.az).map U), .val (sV (x.ay))])++((x.aT).1.map eS)
def XD (x:Node):D:= .agg (cNode x)
theorem u7:rF XD cNode 19:=⟨fun _=>rfl,fun x=>by simp [cNode,x.aT.2]⟩
theorem qY (x:Node):di false 1 ((cNode x).drop 0) (.val (.int .i64 (x.aW))):=di.one
theorem oK (x:Node):di false 1 ((cNode x).drop 1) (.slice ((x.az).map U)):=di.one
theorem qZ (x:Node):di false 1 ((cNode x).drop 2) (.val (sV (x.ay))):=di.one
theorem LY (x:Node):di true 16 ((cNode x).drop 3) (.agg ((x.aT).1.map eS)):=qV 3 0 rfl (nU (show ((x.aT).1.map eS).length=16 by rw [List.length_map,x.aT.2]))
theorem q6 (x:Node):Pre ((cNode x).drop 3) eS x.aT:=Jc 3 0 rfl (Pre.all _)
theorem GM (x:Node):∀ d∈cNode x,d.flat=true:=(Qp (Cd rfl (Cd rfl (Cd rfl Qq))) (I9 _ (fun _=>rfl)))
structure fail where
 fe:Int
 deriving Inhabited
def NV (x:fail):List D:=[.val (.int .i64 (x.fe))]
structure counter where
 fn:Int
 deriving Inhabited
structure Item where
 cD:Bool
 fS:(List UInt8)
 fL:(List Item)
instance:Inhabited Item:=⟨⟨default,default,[]⟩⟩
mutual
def bu:Item→D
 | ⟨x0,x1,x2⟩=> .agg [.val (.bool x0), .val (sV x1), .slice (Dd x2)]
def Dd:List Item→List D
 | []=>[]
 | x::r=>bu x::Dd r
end
theorem EV:∀ l:List Item,Dd l=l.map bu
 | []=>by simp [Dd]
 | x::r=>by simp [Dd,EV r]
def dr (x:Item):List D:=([.val (.bool (x.cD)), .val (sV (x.fS)), .slice ((x.fL).map bu)])
theorem u9 (x:Item):bu x= .agg (dr x):=by
 cases x;simp [bu,dr,EV]
theorem kR:rF bu dr 3:=⟨fun x=>by rw [u9];rfl,fun _=>rfl⟩
structure In where
 az:(List UInt8)
 ay:(List UInt8)
 deriving Inhabited
def SV (x:In):List D:=([.slice ((x.az).map U), .val (sV (x.ay))])
def eN (x:In):D:= .agg (SV x)
theorem KA (x:In):eN x= .agg (SV x):=rfl
theorem m4:rF eN SV 2:=⟨fun _=>rfl,fun _=>rfl⟩
structure Act where
 aW:Int
 bQ:(aE 32 UInt8)
 ay:(List UInt8)
 deriving Inhabited
def yg (x:Act):List D:=[.val (.int .i64 (x.aW))]++((x.bQ).1.map U++([.val (sV (x.ay))]))
def rK (x:Act):D:= .agg (yg x)
theorem SW (x:Act):rK x= .agg (yg x):=rfl
theorem j3:rF rK yg 34:=⟨fun _=>rfl,fun x=>by simp [yg,x.bQ.2]⟩
theorem NW (x:Act):di false 1 ((yg x).drop 0) (.val (.int .i64 (x.aW))):=di.one
theorem sY (x:Act):di true 32 ((yg x).drop 1) (.agg ((x.bQ).1.map U)):=qV 1 0 rfl (Cc (show ((x.bQ).1.map U).length=32 by rw [List.length_map,x.bQ.2]))
theorem yW (x:Act):di false 1 ((yg x).drop 33) (.val (sV (x.ay))):=qV 1 32 rfl (qV 32 0 (show ((x.bQ).1.map U).length=32 by rw [List.length_map,x.bQ.2]) (di.one))
inductive Ag where
 | S
 | L1 (v3:(List UInt8)) (v7:Int)
noncomputable def lK (k0:(aE 32 UInt8)):Ag→Option (Ag⊕(List UInt8))
 | .S=>
  some (.inl (.L1 ([]:(List UInt8)) (0)))
 | .L1 v3 v7=>
  (bif (decide (v7<(32:Int))) then
  gO (0≤v7∧v7<((32:Nat):Int)) (
  gO ((v3.length+([(mP (idx k0.1 v7) (4:Int)),((idx k0.1 v7)&&& (15:UInt8))]:List UInt8).length)*1≤140737488355328) (
  gO (bA (v7+(1:Int))) (
  some (.inl (.L1 (v3++([(mP (idx k0.1 v7) (4:Int)),((idx k0.1 v7)&&& (15:UInt8))]:List UInt8)) (v7+(1:Int)))))))
  else
  some (.inr v3))
noncomputable def q7 (k0:(aE 32 UInt8)):Option (List UInt8):=gU (lK k0) .S
theorem xD (k0:(aE 32 UInt8)) (r:(List UInt8)) (h:q7 k0=some r):bE Tryz.prog 27 [.agg (k0.1.map U)] (.slice (r.map U)):=by
 refine bE.aU Tryz.func27 rfl (by simp [Tryz.ntmps27]) ?_
 rw [Tryz.ntmps27,TT.U0]
 refine QW.view (s':=⟨aF [(0, .d (.agg (k0.1.map U)))],aj [],0,[]⟩) (View.init (by rfl)) zL ?_
 replace h:=cG h
 obtain ⟨_,h⟩:=h
 obtain ⟨c8,rfl,h9⟩:=aQ h;replace h:=h9;clear h9;rw [lK] at h
 refine sR ?_
 refine XK.fz (some 1) rfl rfl (eJ (ds:=k0.1.map U) rfl rfl rfl rfl cA ?_)
 refine xz 2 (.full (([]:(List UInt8)).map U)) ?_
 refine sR ?_
 refine xz 3 (.full (([]:(List UInt8)).map U)) ?_
 refine QW.seq ?_
 refine sR ?_
 refine xs 6 rfl (aC (d:= .agg (k0.1.map U)) rfl TT.iB rfl (nU (by rw [List.length_map,k0.2])) ?_)
 refine xm 7 (pI (0)) ?_
 refine XK.nz ?_
 refine QW.block ?_
 refine QW.loop (fun k σ=>∃ v3:(List UInt8),∃ v7:Int,k≤c8∧run (lK k0) k (.L1 v3 v7)=some r∧σ=⟨aF [(3, .own 0 (v3.map U)),(6, .d (.agg (k0.1.map U))),(7,pI v7)],aj [.spare 1 v3.length],1,[]⟩) c8 zL ⟨⟨aF [(3, .own 0 (([]:(List UInt8)).map U)),(6, .d (.agg (k0.1.map U))),(7,pI (0))],aj [.spare 1 ([]:(List UInt8)).length],1,[]⟩,View.trans (View.buf 3 1 rfl zL) (View.mk 1 [0] _ _ _ rfl rfl (by decide) (iC (iC (iC trivial))) (And.intro rfl trivial) rfl zL rfl),([]:(List UInt8)),0,Nat.le_refl _,jG h,rfl⟩ ?_
 rintro pZ _ ⟨v3,v7,p4,h,rfl⟩
 obtain ⟨k_1,rfl,h9⟩:=aQ h;replace h:=h9;clear h9;rw [lK] at h
 refine sR ?_
 refine xs 8 rfl (cK (a:=v7) (b:=(32:Int)) rfl rfl rfl ?_)
 refine XK.nz ?_
 refine QW.seq ?_
 refine QW.cond (t:=(decide (v7<(32:Int)))) rfl zL (fun cv=>?_) (fun cv=>?_)
 ·replace h:=eX h cv
  refine QW.skip zL (aY ?_)
  refine QW.seq ?_
  refine QW.block ?_
  refine sR ?_
  obtain ⟨dP,h⟩:=gG h
  refine xs 9 rfl (x8 (a:=k0) (i:=v7) rfl TT.GD rfl rfl dP ?_)
  refine xz 5 (.d (.val (.int .u8 ((idx k0.1 v7).toNat:Int)))) ?_
  refine rG ?_
  refine xm 10 (.own 0 (v3.map U)) ?_
  refine xm 11 (.d (.val (.int .u8 ((idx k0.1 v7).toNat:Int)))) ?_
  refine xs 12 rfl (I8 (p:=(idx k0.1 v7)) (c:=(4:Int)) rfl rfl rfl (by decide) ?_)
  refine xm 13 (.d (.val (.int .u8 ((idx k0.1 v7).toNat:Int)))) ?_
  refine xs 14 rfl (I7 (p:=(idx k0.1 v7)) (q:=(15:UInt8)) rfl rfl rfl ?_)
  refine xs 15 rfl (dU (en:=U) (l:=([(mP (idx k0.1 v7) (4:Int)),((idx k0.1 v7)&&& (15:UInt8))]:List UInt8)) rfl TT.e9 bH rfl rfl (by decide) (by simp [dg,cQ,aB,dK,PV.cz,cu,aF,jz,iL,jP,bV,Value.oneCell']) ?_)
  obtain ⟨lY,h⟩:=gG h
  refine xs 16 rfl (iJ (en:=U) (l:=v3) (l2:=([(mP (idx k0.1 v7) (4:Int)),((idx k0.1 v7)&&& (15:UInt8))]:List UInt8)) rfl TT.e9 TT.bC rfl bH rfl rfl rfl lY (by decide) ?_)
  refine xa 3 (.own 1 ((v3++([(mP (idx k0.1 v7) (4:Int)),((idx k0.1 v7)&&& (15:UInt8))]:List UInt8)).map U)) ?_
  refine XK.nil (gC (aY ?_))
  refine rG ?_
  obtain ⟨mR,h⟩:=gG h
  refine xs 17 rfl (bY (a:=v7) (b:=(1:Int)) rfl rfl rfl mR ?_)
  refine xm 7 (pI (v7+(1:Int))) ?_
  refine XK.nz ?_
  exact ⟨k_1,by omega,⟨aF [(3, .own 0 ((v3++([(mP (idx k0.1 v7) (4:Int)),((idx k0.1 v7)&&& (15:UInt8))]:List UInt8)).map U)),(6, .d (.agg (k0.1.map U))),(7,pI (v7+(1:Int)))],aj [.spare 1 (v3++([(mP (idx k0.1 v7) (4:Int)),((idx k0.1 v7)&&& (15:UInt8))]:List UInt8)).length],1,[]⟩,View.mk 1 [1] _ _ _ rfl rfl (by decide) (iC (iC (iC trivial))) (And.intro rfl trivial) rfl zL rfl,(v3++([(mP (idx k0.1 v7) (4:Int)),((idx k0.1 v7)&&& (15:UInt8))]:List UInt8)),(v7+(1:Int)),by omega,jG h,rfl⟩
 ·replace h:=eY h cv
  refine QW.exit zL (eA (eA (jY (aY ?_))))
  refine sR ?_
  refine xm 18 (.own 0 (v3.map U)) ?_
  refine xz 2 (.own 0 (v3.map U)) ?_
  refine QW.ret zL ?_
  obtain rfl:=sG h
  exact Ends.one (.inr rfl) rfl (aG.tmp rfl) rfl rfl
noncomputable def cV (v0:(List UInt8)):Option (List UInt8):=
  gO ((([]:List UInt8).length+v0.length)*1≤140737488355328) (
  some (([]:List UInt8)++v0))
theorem gV (v0:(List UInt8)) (r:(List UInt8)) (h:cV v0=some r):bE Tryz.prog 43 [.slice (v0.map U)] (.slice (r.map U)):=by
 refine bE.aU Tryz.func43 rfl (by simp [Tryz.ntmps43]) ?_
 rw [Tryz.ntmps43,TT.U1]
 refine QW.view (s':=⟨aF [(0, .d (.slice (v0.map U)))],aj [],0,[]⟩) (View.init (by rfl)) zL ?_
 unfold cV at h
 refine sR ?_
 refine xz 2 (.full (([]:(List UInt8)).map U)) ?_
 refine QW.seq ?_
 refine sR ?_
 refine xm 3 (.d (.slice (v0.map U))) ?_
 refine XK.nt (l:=v0) (some 4) rfl rfl rfl TT.bC rfl (fun e0=>?_) ?_
 ·refine XK.nz ?_
  refine QW.Gi rfl ?_
  refine sR ?_
  refine xz 2 (.full (([]:(List UInt8)).map U)) ?_
  refine QW.ret zL (eC ?_)
  subst e0;obtain ⟨_,h⟩:=bk h;obtain rfl:=sO h
  exact Ends.one (.inr rfl) rfl (aG.tmp rfl) rfl rfl
 ·refine XK.nz ?_
  refine QW.NG rfl ?_
  refine QW.skip zL (aY ?_)
  refine sR ?_
  refine xs 5 rfl (dU (en:=U) (l:=([]:List UInt8)) rfl TT.e9 bH rfl rfl (by decide) (by simp [dg,cQ,aB,dK,PV.cz,cu,aF,jz,iL,jP,bV,Value.oneCell']) ?_)
  refine xm 6 (.d (.slice (v0.map U))) ?_
  obtain ⟨nM,h⟩:=bk h
  refine xs 7 rfl (Gp (en:=U) (l:=([]:List UInt8)) (l2:=v0) rfl TT.e9 TT.bC rfl bH rfl rfl ⟨nM,fun _=>rfl⟩ (by decide) ?_)
  refine xz 2 (.own 0 ((([]:List UInt8)++v0).map U)) ?_
  refine QW.ret zL ?_
  obtain rfl:=sO h
  exact Ends.one (.inr rfl) rfl (aG.tmp rfl) rfl rfl
inductive BG where
 | S
 | L1 (v5:Int)
noncomputable def gM (a0:(List UInt8)) (b1:(List UInt8)):BG→Option (BG⊕Int)
 | .S=>
  some (.inl (.L1 (0)))
 | .L1 v5=>
  gO ((decide (v5<(e8 (a0.length:Int) (b1.length:Int))))=true→0≤v5∧v5<(a0.length:Int)) (
  gO ((decide (v5<(e8 (a0.length:Int) (b1.length:Int))))=true→0≤v5∧v5<(b1.length:Int)) (
  (bif ((decide (v5<(e8 (a0.length:Int) (b1.length:Int))))&&(decide (((idx a0 v5).toNat:Int)=((idx b1 v5).toNat:Int)))) then
  gO (bA (v5+(1:Int))) (
  some (.inl (.L1 (v5+(1:Int)))))
  else
  some (.inr v5))))
noncomputable def tv (a0:(List UInt8)) (b1:(List UInt8)):Option Int:=gU (gM a0 b1) .S
theorem zC (a0:(List UInt8)) (b1:(List UInt8)) (r:Int) (h:tv a0 b1=some r):bE Tryz.prog 47 [.slice (a0.map U), .slice (b1.map U)] (.val (.int .i64 r)):=by
 refine bE.aU Tryz.func47 rfl (by simp [Tryz.ntmps47]) ?_
 rw [Tryz.ntmps47,TT.U2]
 refine QW.view (s':=⟨aF [(0, .d (.slice (a0.map U))),(1, .d (.slice (b1.map U)))],aj [],0,[]⟩) (View.init (by rfl)) zL ?_
 replace h:=cG h
 obtain ⟨_,h⟩:=h
 obtain ⟨c8,rfl,h9⟩:=aQ h;replace h:=h9;clear h9;rw [gM] at h
 refine sR ?_
 refine xz 4 (pI (0)) ?_
 refine sR ?_
 refine xz 5 (pI (0)) ?_
 refine QW.seq ?_
 refine QW.block ?_
 refine QW.loop (fun k σ=>∃ v5:Int,k≤c8∧run (gM a0 b1) k (.L1 v5)=some r∧σ=⟨aF [(0, .d (.slice (a0.map U))),(1, .d (.slice (b1.map U))),(5,pI v5)],aj [],0,[]⟩) c8 zL ⟨⟨aF [(0, .d (.slice (a0.map U))),(1, .d (.slice (b1.map U))),(5,pI (0))],aj [],0,[]⟩,View.mk 0 [] _ _ _ rfl rfl (by decide) (iC (iC (iC trivial))) trivial rfl zL rfl,0,Nat.le_refl _,jG h,rfl⟩ ?_
 rintro pZ _ ⟨v5,p4,h,rfl⟩
 obtain ⟨k_1,rfl,h9⟩:=aQ h;replace h:=h9;clear h9;rw [gM] at h
 refine QW.seq ?_
 refine QW.seq ?_
 refine QW.region zL (PW.kC (id:=2) dh (M:=_) rfl (by kernel_rfl) ?_)
 refine RQ.st (some 6) rfl rfl (au (v:=pI v5) rfl rfl ⟨⟨rfl,rfl⟩,?_⟩)
 refine RQ.st (some 7) rfl rfl (au (v:= .d (.slice (a0.map U))) rfl rfl ⟨⟨rfl,rfl⟩,?_⟩)
 refine RQ.st (some 8) rfl rfl (cM (en:=U) (l:=a0) rfl TT.bC rfl ⟨⟨rfl,rfl⟩,?_⟩)
 refine RQ.st (some 9) rfl rfl (au (v:= .d (.slice (b1.map U))) rfl rfl ⟨⟨rfl,rfl⟩,?_⟩)
 refine RQ.st (some 10) rfl rfl (cM (en:=U) (l:=b1) rfl TT.bC rfl ⟨⟨rfl,rfl⟩,?_⟩)
 refine RQ.st (some 11) rfl rfl (FK (a:=(a0.length:Int)) (b:=(b1.length:Int)) rfl rfl rfl ⟨⟨rfl,rfl⟩,?_⟩)
 refine RQ.st (some 12) rfl rfl (cK (a:=v5) (b:=(e8 (a0.length:Int) (b1.length:Int))) rfl rfl rfl ⟨⟨rfl,rfl⟩,?_⟩)
 refine RQ.st (some 13) rfl rfl (au (v:=pB (decide (v5<(e8 (a0.length:Int) (b1.length:Int))))) rfl rfl ⟨⟨rfl,rfl⟩,?_⟩)
 refine RQ.gd (v:= .d (.slice (a0.map U))) (T:=[]) (some 14) rfl rfl (by repeat (first | exact trivial | refine ⟨fun q=>by first | rfl | exact q | exact jQ q | exact jZ q,?_⟩)) (fun hg=>au (v:= .d (.slice (a0.map U))) rfl rfl g3) lf ?_
 refine RQ.gd (v:=pI v5) (T:=[]) (some 15) rfl rfl (by repeat (first | exact trivial | refine ⟨fun q=>by first | rfl | exact q | exact jQ q | exact jZ q,?_⟩)) (fun hg=>au (v:=pI v5) rfl rfl g3) lf ?_
 obtain ⟨xE,h⟩:=gG h
 refine RQ.gd (v:= .d (.cr ([.val (.int .u8 ((idx a0 v5).toNat:Int))]))) (T:=[]) (some 16) rfl rfl (by repeat (first | exact trivial | refine ⟨fun q=>by first | rfl | exact q | exact jQ q | exact jZ q,?_⟩)) (fun hg=>bN (l:=a0) (i:=v5) rfl TT.eD bH rfl rfl (xE (Fo hg)) g3) lf ?_
 refine RQ.gd (v:= .d (.val (.int .u8 ((idx a0 v5).toNat:Int)))) (T:=[]) (some 17) rfl rfl (by repeat (first | exact trivial | refine ⟨fun q=>by first | rfl | exact q | exact jQ q | exact jZ q,?_⟩)) (fun hg=>aC (d:= .val (.int .u8 ((idx a0 v5).toNat:Int))) rfl TT.kG rfl (di.one) g3) lf ?_
 refine RQ.gd (v:= .d (.slice (b1.map U))) (T:=[]) (some 18) rfl rfl (by repeat (first | exact trivial | refine ⟨fun q=>by first | rfl | exact q | exact jQ q | exact jZ q,?_⟩)) (fun hg=>au (v:= .d (.slice (b1.map U))) rfl rfl g3) lf ?_
 refine RQ.gd (v:=pI v5) (T:=[]) (some 19) rfl rfl (by repeat (first | exact trivial | refine ⟨fun q=>by first | rfl | exact q | exact jQ q | exact jZ q,?_⟩)) (fun hg=>au (v:=pI v5) rfl rfl g3) lf ?_
 obtain ⟨dP,h⟩:=gG h
 refine RQ.gd (v:= .d (.cr ([.val (.int .u8 ((idx b1 v5).toNat:Int))]))) (T:=[]) (some 20) rfl rfl (by repeat (first | exact trivial | refine ⟨fun q=>by first | rfl | exact q | exact jQ q | exact jZ q,?_⟩)) (fun hg=>bN (l:=b1) (i:=v5) rfl TT.eD bH rfl rfl (dP (Fo hg)) g3) lf ?_
 refine RQ.gd (v:= .d (.val (.int .u8 ((idx b1 v5).toNat:Int)))) (T:=[]) (some 21) rfl rfl (by repeat (first | exact trivial | refine ⟨fun q=>by first | rfl | exact q | exact jQ q | exact jZ q,?_⟩)) (fun hg=>aC (d:= .val (.int .u8 ((idx b1 v5).toNat:Int))) rfl TT.kG rfl (di.one) g3) lf ?_
 refine RQ.gd (v:=pB (decide (((idx a0 v5).toNat:Int)=((idx b1 v5).toNat:Int)))) (T:=[]) (some 22) rfl rfl (by repeat (first | exact trivial | refine ⟨fun q=>by first | rfl | exact q | exact jQ q | exact jZ q,?_⟩)) (fun hg=>ej (a:=((idx a0 v5).toNat:Int)) (b:=((idx b1 v5).toNat:Int)) rfl rfl rfl g3) lf ?_
 refine RQ.st (some 23) rfl rfl (gK rfl rfl rfl rfl (fun hb=>by rw [hb];rfl) (fun _=>rfl) ⟨⟨rfl,rfl⟩,?_⟩)
 refine RQ.nil (aY ?_)
 refine QW.cond (t:=((decide (v5<(e8 (a0.length:Int) (b1.length:Int))))&&(decide (((idx a0 v5).toNat:Int)=((idx b1 v5).toNat:Int))))) rfl zL (fun gD=>?_) (fun gD=>?_)
 ·replace h:=eX h gD
  refine QW.skip zL (aY ?_)
  refine QW.block ?_
  refine rG ?_
  refine xm 24 (pI v5) ?_
  obtain ⟨mR,h⟩:=gG h
  refine xs 25 rfl (bY (a:=v5) (b:=(1:Int)) rfl rfl rfl mR ?_)
  refine xa 5 (pI (v5+(1:Int))) ?_
  refine XK.nil (gC (aY ?_))
  exact ⟨k_1,by omega,⟨aF [(0, .d (.slice (a0.map U))),(1, .d (.slice (b1.map U))),(5,pI (v5+(1:Int)))],aj [],0,[]⟩,View.mk 0 [] _ _ _ rfl rfl (by decide) (iC (iC (iC trivial))) trivial rfl zL rfl,(v5+(1:Int)),by omega,jG h,rfl⟩
 ·replace h:=eY h gD
  refine QW.exit zL (eA (eA (jY (aY ?_))))
  refine sR ?_
  refine xm 26 (pI v5) ?_
  refine xz 4 (pI v5) ?_
  refine QW.ret zL ?_
  obtain rfl:=sG h
  exact Ends.one (.inr rfl) rfl (aG.tmp rfl) rfl rfl
inductive EW where
 | S
 | L1 (v3:(List UInt8)) (v8:Int)
noncomputable def lM (gI:(List (List UInt8))):EW→Option (EW⊕(List UInt8))
 | .S=>
  some (.inl (.L1 ([]:(List UInt8)) (0)))
 | .L1 v3 v8=>
  (bif (decide (v8<(gI.length:Int))) then
  gO (0≤v8∧v8<(gI.length:Int)) (
  gO ((v3.length+(idx gI v8).length)*1≤140737488355328) (
  gO (bA (v8+(1:Int))) (
  some (.inl (.L1 (v3++(idx gI v8)) (v8+(1:Int)))))))
  else
  some (.inr v3))
noncomputable def q8 (gI:(List (List UInt8))):Option (List UInt8):=gU (lM gI) .S
theorem tw (gI:(List (List UInt8))) (r:(List UInt8)) (h:q8 gI=some r):bE Tryz.prog 79 [.slice (gI.map (eL U))] (.slice (r.map U)):=by
 refine bE.aU Tryz.func79 rfl (by simp [Tryz.ntmps79]) ?_
 rw [Tryz.ntmps79,TT.U8]
 refine QW.view (s':=⟨aF [(0, .d (.slice (gI.map (eL U))))],aj [],0,[]⟩) (View.init (by rfl)) zL ?_
 replace h:=cG h
 obtain ⟨_,h⟩:=h
 obtain ⟨c8,rfl,h9⟩:=aQ h;replace h:=h9;clear h9;rw [lM] at h
 refine sR ?_
 refine xz 2 (.full (([]:(List UInt8)).map U)) ?_
 refine sR ?_
 refine xz 3 (.full (([]:(List UInt8)).map U)) ?_
 refine QW.seq ?_
 refine sR ?_
 refine xm 6 (.d (.slice (gI.map (eL U)))) ?_
 refine xs 7 rfl (cM (en:=(eL U)) (l:=gI) rfl TT.NT rfl ?_)
 refine xm 8 (pI (0)) ?_
 refine XK.nz ?_
 refine QW.block ?_
 refine QW.loop (fun k σ=>∃ v3:(List UInt8),∃ v8:Int,k≤c8∧run (lM gI) k (.L1 v3 v8)=some r∧σ=⟨aF [(3, .own 0 (v3.map U)),(6, .d (.slice (gI.map (eL U)))),(7,pI (gI.length:Int)),(8,pI v8)],aj [.spare 1 v3.length],1,[]⟩) c8 zL ⟨⟨aF [(3, .own 0 (([]:(List UInt8)).map U)),(6, .d (.slice (gI.map (eL U)))),(7,pI (gI.length:Int)),(8,pI (0))],aj [.spare 1 ([]:(List UInt8)).length],1,[]⟩,View.trans (View.buf 3 1 rfl zL) (View.mk 1 [0] _ _ _ rfl rfl (by decide) (iC (iC (iC (iC trivial)))) (And.intro rfl trivial) rfl zL rfl),([]:(List UInt8)),0,Nat.le_refl _,jG h,rfl⟩ ?_
 rintro pZ _ ⟨v3,v8,p4,h,rfl⟩
 obtain ⟨k_1,rfl,h9⟩:=aQ h;replace h:=h9;clear h9;rw [lM] at h
 refine sR ?_
 refine xs 9 rfl (cK (a:=v8) (b:=(gI.length:Int)) rfl rfl rfl ?_)
 refine XK.nz ?_
 refine QW.seq ?_
 refine QW.cond (t:=(decide (v8<(gI.length:Int)))) rfl zL (fun cv=>?_) (fun cv=>?_)
 ·replace h:=eX h cv
  refine QW.skip zL (aY ?_)
  refine QW.seq ?_
  refine QW.block ?_
  refine sR ?_
  obtain ⟨dP,h⟩:=gG h
  refine xs 10 rfl (bN (l:=gI) (i:=v8) rfl TT.QG Gn rfl rfl dP ?_)
  refine xs 11 rfl (aC (d:= .slice ((idx gI v8).map U)) rfl TT.fB rfl (di.one) ?_)
  refine xz 5 (.d (.slice ((idx gI v8).map U))) ?_
  refine rG ?_
  refine xm 12 (.own 0 (v3.map U)) ?_
  refine xm 13 (.d (.slice ((idx gI v8).map U))) ?_
  obtain ⟨lY,h⟩:=gG h
  refine xs 14 rfl (iJ (en:=U) (l:=v3) (l2:=(idx gI v8)) rfl TT.e9 TT.bC rfl bH rfl rfl rfl lY (by decide) ?_)
  refine xa 3 (.own 1 ((v3++(idx gI v8)).map U)) ?_
  refine XK.nil (gC (aY ?_))
  refine rG ?_
  obtain ⟨mR,h⟩:=gG h
  refine xs 15 rfl (bY (a:=v8) (b:=(1:Int)) rfl rfl rfl mR ?_)
  refine xm 8 (pI (v8+(1:Int))) ?_
  refine XK.nz ?_
  exact ⟨k_1,by omega,⟨aF [(3, .own 0 ((v3++(idx gI v8)).map U)),(6, .d (.slice (gI.map (eL U)))),(7,pI (gI.length:Int)),(8,pI (v8+(1:Int)))],aj [.spare 1 (v3++(idx gI v8)).length],1,[]⟩,View.mk 1 [1] _ _ _ rfl rfl (by decide) (iC (iC (iC (iC trivial)))) (And.intro rfl trivial) rfl zL rfl,(v3++(idx gI v8)),(v8+(1:Int)),by omega,jG h,rfl⟩
 ·replace h:=eY h cv
  refine QW.exit zL (eA (eA (jY (aY ?_))))
  refine sR ?_
  refine xm 16 (.own 0 (v3.map U)) ?_
  refine xz 2 (.own 0 (v3.map U)) ?_
  refine QW.ret zL ?_
  obtain rfl:=sG h
  exact Ends.one (.inr rfl) rfl (aG.tmp rfl) rfl rfl
set_option maxRecDepth 20000 in
theorem q9 (e0:Int):x9 Tryz.prog 81 [.aK 0 0] [.var [pI e0]] none [.var [pI e0]]:=by
 refine x9.LH (r:= .tuple []) none Tryz.func81 rfl rfl rfl rfl rfl rfl rfl rfl (by simp [Tryz.ntmps81]) (by simp [Tryz.ntmps81]) (by simp [Tryz.ntmps81]) ?_
 rw [Tryz.ntmps81,TT.Pv]
 refine QW.view (s':=⟨aF [(0, .aK 0 0),(2, .d (.val .nilIface)),(5, .d (.val .nilIface))],aj [.var [pI e0]],1,[]⟩) (View.mk 1 [0] _ _ _ rfl rfl (by decide) (iC (iC (iC trivial))) (And.intro rfl trivial) rfl bL rfl) bL ?_
 refine QW.seq ?_
 refine lJ ?_
 refine xm 6 (.d (.val .nilIface)) ?_
 refine XK.pr (v:=pB true) (some 7) rfl rfl (Gy rfl TT.D8 rfl) ?_
 refine XK.nz ?_
 refine QW.Gi rfl ?_
 refine QW.ret bL (eC ?_)
 exact Ca.none (s':=⟨aF [],aj [.var [pI e0]],1,[]⟩) (.inr rfl) (View.mk 1 [0] _ _ _ rfl rfl (by decide) trivial (And.intro rfl trivial) rfl bL rfl) rfl rfl rfl
set_option maxRecDepth 20000 in
theorem ri (e0 e:Int):x9 Tryz.prog 81 [.aK 0 0] [.var [pI e0]] (some (.iface 145 (.agg [.val (.int .i64 e)]))) [.var [pI e]]:=by
 refine x9.LH (r:= .tuple []) (some (.iface 145 (.agg [.val (.int .i64 e)]))) Tryz.func81 rfl rfl rfl rfl rfl rfl rfl rfl (by simp [Tryz.ntmps81]) (by simp [Tryz.ntmps81]) (by simp [Tryz.ntmps81]) ?_
 rw [Tryz.ntmps81,TT.Pv]
 refine QW.view (s':=⟨aF [(0, .aK 0 0),(2, .d (.iface 145 (.agg [.val (.int .i64 e)]))),(5, .d (.iface 145 (.agg [.val (.int .i64 e)])))],aj [.var [pI e0]],1,[]⟩) (View.mk 1 [0] _ _ _ rfl rfl (by decide) (iC (iC (iC trivial))) (And.intro rfl trivial) rfl bL rfl) bL ?_
 refine QW.seq ?_
 refine lJ ?_
 refine xm 6 (.d (.iface 145 (.agg [.val (.int .i64 e)]))) ?_
 refine xs 7 rfl (Qr rfl TT.D8 rfl rfl ?_)
 refine XK.nz ?_
 refine QW.NG rfl ?_
 refine QW.skip bL (aY ?_)
 refine lJ ?_
 refine xm 9 (.d (.iface 145 (.agg [.val (.int .i64 e)]))) ?_
 refine XK.pr (v:= .d (.tuple [.agg (NV (⟨e⟩:fail)), .val (.bool true)])) (some 10) rfl rfl (LK TT.Db rfl rfl) ?_
 refine xm 8 (.d (.tuple [.agg (NV (⟨e⟩:fail)), .val (.bool true)])) ?_
 refine xs 11 rfl (bz (d:= .agg (NV (⟨e⟩:fail))) rfl rfl rfl ?_)
 refine xs 12 rfl (bz (d:= .val (.bool true)) rfl rfl rfl ?_)
 refine xs 3 rfl (bP (l:=[pI (0)]) rfl TT.NU rfl rfl ?_)
 refine XK.st none rfl rfl (bw (l':=[pI e]) rfl TT.SU rfl rfl rfl rfl rfl rfl (by simp) rfl ?_)
 refine xz 4 (pB true) ?_
 refine lJ ?_
 refine xm 13 (.aK 0 0) ?_
 refine xs 14 rfl (mz (v:= .aK 0 0) rfl rfl rfl ?_)
 refine XK.st none rfl rfl (bw (l':=[pI (2)]) rfl TT.kr rfl rfl rfl rfl rfl rfl (by simp) rfl ?_)
 refine XK.nz ?_
 refine lJ ?_
 refine xm 15 (pB true) ?_
 refine XK.nz ?_
 refine QW.Gi rfl ?_
 refine Fq ?_
 refine xm 16 (.aK 0 0) ?_
 refine xs 17 rfl (fm rfl TT.LR (by decide) rfl ?_)
 refine xs 18 rfl (bx (v:=pI e) rfl TT.kr rfl rfl ⟨⟨by simp,by simp⟩,rfl⟩ ?_)
 refine xs 19 rfl (mz (v:= .aK 0 0) rfl rfl rfl ?_)
 refine XK.st none rfl rfl (bw (l':=[pI e]) rfl TT.kr rfl rfl rfl rfl rfl rfl (by simp) rfl ?_)
 refine XK.nil ?_
 exact Ca.none (s':=⟨aF [],aj [.var [pI e]],1,[]⟩) (.inl rfl) (View.mk 1 [0] _ _ _ rfl rfl (by decide) trivial (And.intro rfl trivial) rfl bL rfl) rfl rfl rfl
noncomputable def iS (NX:Bool) (e1:Int):Option (Unit⊕Int):=
  (bif (!NX) then
  some (.inr e1)
  else
  some (.inl ()))
theorem dH (NX:Bool) (e1:Int) (r:(Unit⊕Int)) (h:iS NX e1=some r):Spec Tryz.prog 99 [pB NX,pI e1] (aj []) 0 (kF (match r with | .inl x=>Out.ret (.tuple []) | .inr e=>Out.mZ (.d (.iface 145 (.agg [.val (.int .i64 e)])))) (aj []) 0):=by
 refine Spec.pE Tryz.func99 rfl (by simp [Tryz.ntmps99]) bL ?_
 rw [Tryz.ntmps99,TT.Vg]
 refine QW.view (s':=⟨aF [(0,pB NX),(1,pI e1)],aj [],0,[]⟩) (View.l8 zL (by rfl)) zL ?_
 unfold iS at h
 refine sR ?_
 refine xm 4 (pB NX) ?_
 refine xs 5 rfl (mC rfl rfl ?_)
 refine XK.nz ?_
 refine QW.cond (t:=(!NX)) rfl zL (fun dm=>?_) (fun dm=>?_)
 ·replace h:=bT h dm
  refine rG ?_
  refine xm 6 (pI e1) ?_
  refine xs 7 rfl (fk (v:= .agg [pI e1]) rfl TT.QF (dM rfl (cx (cells':=[pI e1]) rfl rfl rfl bL rfl dL)) ?_)
  refine xs 8 rfl (AY (y:= .agg [.val (.int .i64 e1)]) rfl rfl TT.Db ?_)
  refine XK.panic rfl rfl rfl ?_
  obtain rfl:=sO h
  exact fY.mZ (s':=⟨aF [],aj [],0,[]⟩) (View.mk 0 [] _ _ _ rfl rfl (by decide) trivial trivial rfl zL rfl) rfl bL (fun i hi=>dR [] [] i hi) rfl (by simp [HO.bf,HO.bK,PV.bf,PV.bK,cy,bB])
 ·replace h:=bF h dm
  refine QW.skip zL ?_
  obtain rfl:=sO h
  exact fY.none (s':=⟨aF [],aj [],0,[]⟩) (.inl rfl) (View.mk 0 [] _ _ _ rfl rfl (by decide) trivial trivial rfl zL rfl) rfl bL (fun i hi=>dR [] [] i hi) rfl (by simp [HO.bf,HO.bK,PV.bf,PV.bK,cy,bB])
noncomputable def j7 (uR:Int) (c0:counter):Option ((Unit⊕Int)×counter):=
  gO (bA ((c0.fn)+(1:Int))) (
  ((iS (decide (uR≤(64:Int))) (17)).bind fun xx=>match xx with
  | .inl m3=>
    ((iS (decide (((c0.fn)+(1:Int))≤(4096:Int))) (4)).bind fun xx=>match xx with
    | .inl LZ=>
      some ((.inl ()),(⟨((c0.fn)+(1:Int))⟩:counter))
    | .inr Ai=>
      some (.inr Ai,(⟨((c0.fn)+(1:Int))⟩:counter)))
  | .inr e_5=>
    some (.inr e_5,(⟨((c0.fn)+(1:Int))⟩:counter))))
theorem mE (uR:Int) (c0:counter) (r:((Unit⊕Int)×counter)) (h:j7 uR c0=some r):Spec Tryz.prog 98 [.aK 0 0,pI uR] (aj [.var [pI (c0.fn)]]) 1 (kF (match r.1 with | .inl x=>Out.ret (.tuple []) | .inr e=>Out.mZ (.d (.iface 145 (.agg [.val (.int .i64 e)])))) (aj [.var [pI ((r.2).fn)]]) 1):=by
 refine Spec.pE Tryz.func98 rfl (by simp [Tryz.ntmps98]) bL ?_
 rw [Tryz.ntmps98,TT.Vf]
 refine QW.view (s':=⟨aF [(0, .aK 0 0),(1,pI uR)],aj [.var [pI (c0.fn)]],1,[]⟩) (View.l8 bL (by rfl)) bL ?_
 unfold j7 at h
 refine lJ ?_
 refine xm 4 (.aK 0 0) ?_
 refine xs 5 rfl (mz (v:= .aK 0 0) rfl rfl rfl ?_)
 refine xs 6 rfl (fm rfl TT.Ac (by decide) rfl ?_)
 refine xs 7 rfl (bx (v:=pI (c0.fn)) rfl TT.l9 rfl rfl ⟨⟨by simp,by simp⟩,rfl⟩ ?_)
 obtain ⟨nM,h⟩:=bk h
 refine xs 8 rfl (bY (a:=(c0.fn)) (b:=(1:Int)) rfl rfl rfl nM ?_)
 refine xs 9 rfl (mz (v:= .aK 0 0) rfl rfl rfl ?_)
 refine xs 10 rfl (fm rfl TT.Ac (by decide) rfl ?_)
 refine XK.st none rfl rfl (bw (l':=[pI ((c0.fn)+(1:Int))]) rfl TT.l9 rfl rfl rfl rfl rfl rfl (by simp) rfl ?_)
 refine XK.nz ?_
 refine lJ ?_
 refine xm 11 (pI uR) ?_
 refine xs 12 rfl (yQ (a:=uR) (b:=(64:Int)) rfl rfl rfl ?_)
 obtain ⟨m3 | e_5,nD,h⟩:=bO h
 ·refine XK.fr (p:= .tuple []) (H2:=_) (lF:=1) (some 13) rfl rfl (cg [] rfl rfl TT.fE (dH (decide (uR≤(64:Int))) (17) _ nD) rfl rfl (by decide) trivial bL) rfl rfl rfl ?_
  refine XK.nz ?_
  refine Fq ?_
  refine xm 14 (.aK 0 0) ?_
  refine xs 15 rfl (mz (v:= .aK 0 0) rfl rfl rfl ?_)
  refine xs 16 rfl (fm rfl TT.Ac (by decide) rfl ?_)
  refine xs 17 rfl (bx (v:=pI ((c0.fn)+(1:Int))) rfl TT.l9 rfl rfl ⟨⟨by simp,by simp⟩,rfl⟩ ?_)
  refine xs 18 rfl (yQ (a:=((c0.fn)+(1:Int))) (b:=(4096:Int)) rfl rfl rfl ?_)
  obtain ⟨LZ | Ai,oo,h⟩:=bO h
  ·refine XK.fr (p:= .tuple []) (H2:=_) (lF:=1) (some 19) rfl rfl (cg [] rfl rfl TT.fE (dH (decide (((c0.fn)+(1:Int))≤(4096:Int))) (4) _ oo) rfl rfl (by decide) trivial bL) rfl rfl rfl ?_
   refine XK.nil ?_
   obtain rfl:=sO h
   exact fY.none (s':=⟨aF [],aj [.var [pI ((c0.fn)+(1:Int))]],1,[]⟩) (.inl rfl) (View.mk 1 [0] _ _ _ rfl rfl (by decide) trivial (And.intro rfl trivial) rfl bL rfl) rfl bL (fun i hi=>dR [.var [pI ((c0.fn)+(1:Int))]] [] i hi) rfl (by simp [HO.bf,HO.bK,PV.bf,PV.bK,cy,bB])
  ·refine XK.fp (p:= .d (.iface 145 (.agg [.val (.int .i64 Ai)]))) (H2:=_) (lF:=1) rfl (cg [] rfl rfl TT.fE (dH (decide (((c0.fn)+(1:Int))≤(4096:Int))) (4) _ oo) rfl rfl (by decide) trivial bL) rfl rfl rfl ?_
   obtain rfl:=sO h
   exact fY.mZ (s':=⟨aF [],aj [.var [pI ((c0.fn)+(1:Int))]],1,[]⟩) (View.mk 1 [0] _ _ _ rfl rfl (by decide) trivial (And.intro rfl trivial) rfl bL rfl) rfl bL (fun i hi=>dR [.var [pI ((c0.fn)+(1:Int))]] [] i hi) rfl (by simp [HO.bf,HO.bK,PV.bf,PV.bK,cy,bB])
 ·refine XK.fp (p:= .d (.iface 145 (.agg [.val (.int .i64 e_5)]))) (H2:=_) (lF:=1) rfl (cg [] rfl rfl TT.fE (dH (decide (uR≤(64:Int))) (17) _ nD) rfl rfl (by decide) trivial bL) rfl rfl rfl (sx ?_)
  obtain rfl:=sO h
  exact fY.mZ (s':=⟨aF [],aj [.var [pI ((c0.fn)+(1:Int))]],1,[]⟩) (View.mk 1 [0] _ _ _ rfl rfl (by decide) trivial (And.intro rfl trivial) rfl bL rfl) rfl bL (fun i hi=>dR [.var [pI ((c0.fn)+(1:Int))]] [] i hi) rfl (by simp [HO.bf,HO.bK,PV.bf,PV.bK,cy,bB])
noncomputable def iT (s0:(List UInt8)):Option Item:=
  some (⟨false,s0,([]:(List Item))⟩:Item)
theorem mS (s0:(List UInt8)) (r:Item) (h:iT s0=some r):bE Tryz.prog 54 [.val (sV s0)] (.agg (dr r)):=by
 refine bE.aU Tryz.func54 rfl (by simp [Tryz.ntmps54]) ?_
 rw [Tryz.ntmps54,TT.U6]
 refine QW.view (s':=⟨aF [(0,pS s0)],aj [],0,[]⟩) (View.init (by rfl)) zL ?_
 unfold iT at h
 refine sR ?_
 refine xs 2 rfl (bP (l:=[pB false,pS ([]:List UInt8), .full (([]:(List Item)).map bu)]) rfl TT.mm rfl rfl ?_)
 refine XK.nz ?_
 refine sR ?_
 refine xm 3 (pS s0) ?_
 refine xs 4 rfl (fk (v:= .agg [pB false,pS s0, .full (([]:(List Item)).map bu)]) rfl TT.yc (dM rfl (cx (cells':=[pB false,pS s0, .full (([]:(List Item)).map bu)]) rfl rfl rfl bL rfl dL)) ?_)
 refine XK.st none rfl rfl (bw (l':=[pB false,pS s0, .full (([]:(List Item)).map bu)]) rfl TT.ew rfl rfl rfl rfl rfl rfl (by simp) rfl ?_)
 refine XK.nz ?_
 refine QW.ret zL ?_
 obtain rfl:=sO h
 exact Ends.one (.inr rfl) rfl (aG.cell rfl rfl TT.ew ⟨⟨by simp,by simp⟩,rfl⟩) rfl rfl
inductive BH where
 | S
 | L1 (v6:Int) (sy:Int)
noncomputable def iE (s0:(List UInt8)) (ef:Int):BH→Option (BH⊕((Int×Int)⊕Int))
 | .S=>
  gO (0≤(0:Int)∧(0:Int)<(s0.length:Int)) (
  gO (bA (((idx s0 (0:Int)).toNat:Int)-ef)) (
  (bif (decide ((((idx s0 (0:Int)).toNat:Int)-ef)≤(55:Int))) then
  some (.inr (.inl ((((idx s0 (0:Int)).toNat:Int)-ef),1)))
  else
  gO (bA ((((idx s0 (0:Int)).toNat:Int)-ef)-(55:Int))) (
  ((iS (decide (((((idx s0 (0:Int)).toNat:Int)-ef)-(55:Int))<(s0.length:Int))) (5)).bind fun xx=>match xx with
  | .inl v_9=>
    gO (0≤(1:Int)∧(1:Int)<(s0.length:Int)) (
    ((iS (!decide (((idx s0 (1:Int)).toNat:Int)=(0:Int))) (6)).bind fun xx=>match xx with
    | .inl Y9=>
      some (.inl (.L1 (0) (0)))
    | .inr SX=>
      some (.inr (.inr SX))))
  | .inr e_8=>
    some (.inr (.inr e_8)))))))
 | .L1 v6 sy=>
  (bif (decide (sy<((((idx s0 (0:Int)).toNat:Int)-ef)-(55:Int)))) then
  ((iS (decide (v6<(4294967296:Int))) (5)).bind fun xx=>match xx with
  | .inl Za=>
    gO (0≤(8:Int)∧bA (wT v6 (8:Int))) (
    gO (bA ((1:Int)+sy)) (
    gO (0≤((1:Int)+sy)∧((1:Int)+sy)<(s0.length:Int)) (
    gO (bA (sy+(1:Int))) (
    some (.inl (.L1 (NI (wT v6 (8:Int)) ((idx s0 ((1:Int)+sy)).toNat:Int)) (sy+(1:Int))))))))
  | .inr SY=>
    some (.inr (.inr SY)))
  else
  ((iS (decide ((55:Int)<v6)) (6)).bind fun xx=>match xx with
  | .inl Zb=>
    gO (bA ((1:Int)+((((idx s0 (0:Int)).toNat:Int)-ef)-(55:Int)))) (
    some (.inr (.inl (v6,((1:Int)+((((idx s0 (0:Int)).toNat:Int)-ef)-(55:Int)))))))
  | .inr SZ=>
    some (.inr (.inr SZ))))
noncomputable def p5 (s0:(List UInt8)) (ef:Int):Option ((Int×Int)⊕Int):=gU (iE s0 ef) .S
theorem zD (s0:(List UInt8)) (ef:Int) (r:((Int×Int)⊕Int)) (h:p5 s0 ef=some r):Spec Tryz.prog 117 [pS s0,pI ef] (aj []) 0 (kF (match r with | .inl x=>Out.ret (.tuple [pI (x.1),pI (x.2)]) | .inr e=>Out.mZ (.d (.iface 145 (.agg [.val (.int .i64 e)])))) (aj []) 0):=by
 refine Spec.pE Tryz.func117 rfl (by simp [Tryz.ntmps117]) bL ?_
 rw [Tryz.ntmps117,TT.SR]
 refine QW.view (s':=⟨aF [(0,pS s0),(1,pI ef)],aj [],0,[]⟩) (View.l8 zL (by rfl)) zL ?_
 replace h:=cG h
 obtain ⟨_,h⟩:=h
 obtain ⟨c8,rfl,h9⟩:=aQ h;replace h:=h9;clear h9;rw [iE] at h
 refine sR ?_
 refine xa 4 (pI (0)) ?_
 refine xz 5 (pI (0)) ?_
 refine sR ?_
 refine xm 9 (pS s0) ?_
 obtain ⟨nM,h⟩:=gG h
 refine xs 10 rfl (lI (l:=s0) (i:=(0:Int)) rfl TT.bZ TT.nL rfl rfl nM ?_)
 refine xs 11 rfl (C4 (n:=((idx s0 (0:Int)).toNat:Int)) rfl TT.dV TT.kY rfl (C6 _) ?_)
 refine xm 12 (pI ef) ?_
 obtain ⟨xE,h⟩:=gG h
 refine xs 13 rfl (nJ (a:=((idx s0 (0:Int)).toNat:Int)) (b:=ef) rfl rfl rfl xE ?_)
 refine xz 6 (pI (((idx s0 (0:Int)).toNat:Int)-ef)) ?_
 refine QW.seq ?_
 refine sR ?_
 refine xm 14 (pI (((idx s0 (0:Int)).toNat:Int)-ef)) ?_
 refine xs 15 rfl (yQ (a:=(((idx s0 (0:Int)).toNat:Int)-ef)) (b:=(55:Int)) rfl rfl rfl ?_)
 refine XK.nz ?_
 refine QW.cond (t:=(decide ((((idx s0 (0:Int)).toNat:Int)-ef)≤(55:Int)))) rfl zL (fun dW=>?_) (fun dW=>?_)
 ·replace h:=eX h dW
  refine sR ?_
  refine xm 16 (pI (((idx s0 (0:Int)).toNat:Int)-ef)) ?_
  refine xa 4 (pI (((idx s0 (0:Int)).toNat:Int)-ef)) ?_
  refine xz 5 (pI (1)) ?_
  refine QW.ret zL (eC ?_)
  obtain rfl:=sG h
  exact fY.more (s':=⟨aF [(4,pI (((idx s0 (0:Int)).toNat:Int)-ef)),(5,pI (1))],aj [],0,[]⟩) (ps:=[pI (((idx s0 (0:Int)).toNat:Int)-ef),pI (1)]) (.inr rfl) (View.mk 0 [] _ _ _ rfl rfl (by decide) (iC (iC trivial)) trivial rfl zL rfl) rfl bL (fun i hi=>dR [] [] i hi) rfl (by simp [HO.bf,HO.bK,PV.bf,PV.bK,cy,bB]) (And.intro (aG.tmp rfl) (And.intro (aG.tmp rfl) trivial)) (by simp [PV.bf,PV.bK,cy])
 ·replace h:=eY h dW
  refine QW.skip zL (aY ?_)
  refine sR ?_
  refine xm 17 (pI (((idx s0 (0:Int)).toNat:Int)-ef)) ?_
  obtain ⟨lY,h⟩:=gG h
  refine xs 18 rfl (nJ (a:=(((idx s0 (0:Int)).toNat:Int)-ef)) (b:=(55:Int)) rfl rfl rfl lY ?_)
  refine xz 7 (pI ((((idx s0 (0:Int)).toNat:Int)-ef)-(55:Int))) ?_
  refine sR ?_
  refine xm 19 (pS s0) ?_
  refine xs 20 rfl (gB (l:=s0) rfl TT.bZ rfl ?_)
  refine xm 21 (pI ((((idx s0 (0:Int)).toNat:Int)-ef)-(55:Int))) ?_
  refine xs 22 rfl (oh (a:=(s0.length:Int)) (b:=((((idx s0 (0:Int)).toNat:Int)-ef)-(55:Int))) rfl rfl rfl ?_)
  obtain ⟨v_9 | e_8,rj,h⟩:=bG h
  ·refine XK.fr (p:= .tuple []) (H2:=_) (lF:=0) (some 23) rfl rfl (cg [] rfl rfl TT.fE (dH (decide (((((idx s0 (0:Int)).toNat:Int)-ef)-(55:Int))<(s0.length:Int))) (5) _ rj) rfl rfl (by decide) trivial bL) rfl rfl rfl ?_
   refine XK.nz ?_
   refine sR ?_
   refine xm 24 (pS s0) ?_
   obtain ⟨oq,h⟩:=gG h
   refine xs 25 rfl (lI (l:=s0) (i:=(1:Int)) rfl TT.bZ TT.nL rfl rfl oq ?_)
   refine xs 26 rfl (oa (a:=((idx s0 (1:Int)).toNat:Int)) (b:=(0:Int)) rfl rfl rfl ?_)
   obtain ⟨Y9 | SX,pR,h⟩:=bG h
   ·refine XK.fr (p:= .tuple []) (H2:=_) (lF:=0) (some 27) rfl rfl (cg [] rfl rfl TT.fE (dH (!decide (((idx s0 (1:Int)).toNat:Int)=(0:Int))) (6) _ pR) rfl rfl (by decide) trivial bL) rfl rfl rfl ?_
    refine XK.nz ?_
    refine sR ?_
    refine xz 6 (pI (0)) ?_
    refine QW.seq ?_
    refine sR ?_
    refine xm 28 (pI ((((idx s0 (0:Int)).toNat:Int)-ef)-(55:Int))) ?_
    refine xm 29 (pI (0)) ?_
    refine XK.nz ?_
    refine QW.block ?_
    refine QW.loop (fun k σ=>∃ v6:Int,∃ sy:Int,k≤c8∧run (iE s0 ef) k (.L1 v6 sy)=some r∧σ=⟨aF [(0,pS s0),(6,pI v6),(7,pI ((((idx s0 (0:Int)).toNat:Int)-ef)-(55:Int))),(28,pI ((((idx s0 (0:Int)).toNat:Int)-ef)-(55:Int))),(29,pI sy)],aj [],0,[]⟩) c8 zL ⟨⟨aF [(0,pS s0),(6,pI (0)),(7,pI ((((idx s0 (0:Int)).toNat:Int)-ef)-(55:Int))),(28,pI ((((idx s0 (0:Int)).toNat:Int)-ef)-(55:Int))),(29,pI (0))],aj [],0,[]⟩,View.mk 0 [] _ _ _ rfl rfl (by decide) (iC (iC (iC (iC (iC trivial))))) trivial rfl zL rfl,0,0,Nat.le_refl _,jG h,rfl⟩ ?_
    rintro XE _ ⟨v6,sy,XF,h,rfl⟩
    obtain ⟨S0,rfl,h9⟩:=aQ h;replace h:=h9;clear h9;rw [iE] at h
    refine sR ?_
    refine xs 30 rfl (cK (a:=sy) (b:=((((idx s0 (0:Int)).toNat:Int)-ef)-(55:Int))) rfl rfl rfl ?_)
    refine XK.nz ?_
    refine QW.seq ?_
    refine QW.cond (t:=(decide (sy<((((idx s0 (0:Int)).toNat:Int)-ef)-(55:Int))))) rfl zL (fun qy=>?_) (fun qy=>?_)
    ·replace h:=eX h qy
     refine QW.skip zL (aY ?_)
     refine QW.seq ?_
     refine QW.block ?_
     refine sR ?_
     refine xm 31 (pI sy) ?_
     refine xz 8 (pI sy) ?_
     refine sR ?_
     refine xm 32 (pI v6) ?_
     refine xs 33 rfl (cK (a:=v6) (b:=(4294967296:Int)) rfl rfl rfl ?_)
     obtain ⟨Za | SY,xF,h⟩:=bG h
     ·refine XK.fr (p:= .tuple []) (H2:=_) (lF:=0) (some 34) rfl rfl (cg [] rfl rfl TT.fE (dH (decide (v6<(4294967296:Int))) (5) _ xF) rfl rfl (by decide) trivial bL) rfl rfl rfl ?_
      refine XK.nz ?_
      refine rG ?_
      refine xm 35 (pI v6) ?_
      obtain ⟨GN,h⟩:=gG h
      refine xs 36 rfl (UF (a:=v6) (b:=(8:Int)) rfl rfl rfl GN ?_)
      refine xm 37 (pS s0) ?_
      refine xm 38 (pI sy) ?_
      obtain ⟨zE,h⟩:=gG h
      refine xs 39 rfl (bY (a:=(1:Int)) (b:=sy) rfl rfl rfl zE ?_)
      obtain ⟨GO,h⟩:=gG h
      refine xs 40 rfl (lI (l:=s0) (i:=((1:Int)+sy)) rfl TT.bZ TT.nL rfl rfl GO ?_)
      refine xs 41 rfl (C4 (n:=((idx s0 ((1:Int)+sy)).toNat:Int)) rfl TT.dV TT.kY rfl (C6 _) ?_)
      refine xs 42 rfl (Xm (a:=(wT v6 (8:Int))) (b:=((idx s0 ((1:Int)+sy)).toNat:Int)) rfl rfl rfl ?_)
      refine xa 6 (pI (NI (wT v6 (8:Int)) ((idx s0 ((1:Int)+sy)).toNat:Int))) ?_
      refine XK.nil (gC (aY ?_))
      refine rG ?_
      obtain ⟨yh,h⟩:=gG h
      refine xs 43 rfl (bY (a:=sy) (b:=(1:Int)) rfl rfl rfl yh ?_)
      refine xm 29 (pI (sy+(1:Int))) ?_
      refine XK.nz ?_
      exact ⟨S0,by omega,⟨aF [(0,pS s0),(6,pI (NI (wT v6 (8:Int)) ((idx s0 ((1:Int)+sy)).toNat:Int))),(7,pI ((((idx s0 (0:Int)).toNat:Int)-ef)-(55:Int))),(28,pI ((((idx s0 (0:Int)).toNat:Int)-ef)-(55:Int))),(29,pI (sy+(1:Int)))],aj [],0,[]⟩,View.mk 0 [] _ _ _ rfl rfl (by decide) (iC (iC (iC (iC (iC trivial))))) trivial rfl zL rfl,(NI (wT v6 (8:Int)) ((idx s0 ((1:Int)+sy)).toNat:Int)),(sy+(1:Int)),by omega,jG h,rfl⟩
     ·refine XK.fp (p:= .d (.iface 145 (.agg [.val (.int .i64 SY)]))) (H2:=_) (lF:=0) rfl (cg [] rfl rfl TT.fE (dH (decide (v6<(4294967296:Int))) (5) _ xF) rfl rfl (by decide) trivial bL) rfl rfl rfl (sx (Ks (sx (sx (Ks (sx ?_))))))
      obtain rfl:=sG h
      exact fY.mZ (s':=⟨aF [],aj [],0,[]⟩) (View.mk 0 [] _ _ _ rfl rfl (by decide) trivial trivial rfl zL rfl) rfl bL (fun i hi=>dR [] [] i hi) rfl (by simp [HO.bf,HO.bK,PV.bf,PV.bK,cy,bB])
    ·replace h:=eY h qy
     refine QW.exit zL (eA (eA (jY (aY ?_))))
     refine sR ?_
     refine xm 44 (pI v6) ?_
     refine xs 45 rfl (oh (a:=v6) (b:=(55:Int)) rfl rfl rfl ?_)
     obtain ⟨Zb | SZ,yX,h⟩:=bG h
     ·refine XK.fr (p:= .tuple []) (H2:=_) (lF:=0) (some 46) rfl rfl (cg [] rfl rfl TT.fE (dH (decide ((55:Int)<v6)) (6) _ yX) rfl rfl (by decide) trivial bL) rfl rfl rfl ?_
      refine XK.nz ?_
      refine sR ?_
      refine xm 47 (pI v6) ?_
      refine xm 48 (pI ((((idx s0 (0:Int)).toNat:Int)-ef)-(55:Int))) ?_
      obtain ⟨Zc,h⟩:=gG h
      refine xs 49 rfl (bY (a:=(1:Int)) (b:=((((idx s0 (0:Int)).toNat:Int)-ef)-(55:Int))) rfl rfl rfl Zc ?_)
      refine xa 4 (pI v6) ?_
      refine xz 5 (pI ((1:Int)+((((idx s0 (0:Int)).toNat:Int)-ef)-(55:Int)))) ?_
      refine QW.ret zL ?_
      obtain rfl:=sG h
      exact fY.more (s':=⟨aF [(4,pI v6),(5,pI ((1:Int)+((((idx s0 (0:Int)).toNat:Int)-ef)-(55:Int))))],aj [],0,[]⟩) (ps:=[pI v6,pI ((1:Int)+((((idx s0 (0:Int)).toNat:Int)-ef)-(55:Int)))]) (.inr rfl) (View.mk 0 [] _ _ _ rfl rfl (by decide) (iC (iC trivial)) trivial rfl zL rfl) rfl bL (fun i hi=>dR [] [] i hi) rfl (by simp [HO.bf,HO.bK,PV.bf,PV.bK,cy,bB]) (And.intro (aG.tmp rfl) (And.intro (aG.tmp rfl) trivial)) (by simp [PV.bf,PV.bK,cy])
     ·refine XK.fp (p:= .d (.iface 145 (.agg [.val (.int .i64 SZ)]))) (H2:=_) (lF:=0) rfl (cg [] rfl rfl TT.fE (dH (decide ((55:Int)<v6)) (6) _ yX) rfl rfl (by decide) trivial bL) rfl rfl rfl (sx ?_)
      obtain rfl:=sG h
      exact fY.mZ (s':=⟨aF [],aj [],0,[]⟩) (View.mk 0 [] _ _ _ rfl rfl (by decide) trivial trivial rfl zL rfl) rfl bL (fun i hi=>dR [] [] i hi) rfl (by simp [HO.bf,HO.bK,PV.bf,PV.bK,cy,bB])
   ·refine XK.fp (p:= .d (.iface 145 (.agg [.val (.int .i64 SX)]))) (H2:=_) (lF:=0) rfl (cg [] rfl rfl TT.fE (dH (!decide (((idx s0 (1:Int)).toNat:Int)=(0:Int))) (6) _ pR) rfl rfl (by decide) trivial bL) rfl rfl rfl (sx ?_)
    obtain rfl:=sG h
    exact fY.mZ (s':=⟨aF [],aj [],0,[]⟩) (View.mk 0 [] _ _ _ rfl rfl (by decide) trivial trivial rfl zL rfl) rfl bL (fun i hi=>dR [] [] i hi) rfl (by simp [HO.bf,HO.bK,PV.bf,PV.bK,cy,bB])
  ·refine XK.fp (p:= .d (.iface 145 (.agg [.val (.int .i64 e_8)]))) (H2:=_) (lF:=0) rfl (cg [] rfl rfl TT.fE (dH (decide (((((idx s0 (0:Int)).toNat:Int)-ef)-(55:Int))<(s0.length:Int))) (5) _ rj) rfl rfl (by decide) trivial bL) rfl rfl rfl (sx ?_)
   obtain rfl:=sG h
   exact fY.mZ (s':=⟨aF [],aj [],0,[]⟩) (View.mk 0 [] _ _ _ rfl rfl (by decide) trivial trivial rfl zL rfl) rfl bL (fun i hi=>dR [] [] i hi) rfl (by simp [HO.bf,HO.bK,PV.bf,PV.bK,cy,bB])
inductive vB where
 | S
 | L2 (pT:Int) (pU:Int) (jV:(List UInt8)) (jF:Int) (mb:(List Item))
noncomputable def ek (self:(List UInt8)→Int→counter→Option (((Item×Int)⊕Int)×counter)) (s1:(List UInt8)) (dX:Int) (c0:counter):vB→Option (vB⊕(((Item×Int)⊕Int)×counter))
 | .S=>
  ((j7 dX c0).bind fun xx=>match xx with
  | (.inl m3,dP)=>
    ((iS (!(s1==([]:List UInt8))) (5)).bind fun xx=>match xx with
    | .inl LZ=>
      gO (0≤(0:Int)∧(0:Int)<(s1.length:Int)) (
      (bif (decide (((idx s1 (0:Int)).toNat:Int)<(128:Int))) then
      gO (0≤(0:Int)∧(0:Int)≤(1:Int)∧(1:Int)≤(s1.length:Int)) (
      ((iT (sub s1 (0:Int) (1:Int))).bind fun (x_15:Item)=>
      some (.inr ((.inl (x_15,1)),dP))))
      else
      gO (0≤(0:Int)∧(0:Int)<(s1.length:Int)) (
      (((bif (decide ((192:Int)≤((idx s1 (0:Int)).toNat:Int))) then
      some (192)
      else
      some (128)):Option Int).bind fun (v9:Int)=>
      ((p5 s1 v9).bind fun xx=>match xx with
      | .inl cw=>
        gO (bA ((s1.length:Int)-(cw.2))) (
        ((iS (decide ((cw.1)≤((s1.length:Int)-(cw.2)))) (5)).bind fun xx=>match xx with
        | .inl Zd=>
          gO (bA ((cw.2)+(cw.1))) (
          gO (0≤(cw.2)∧(cw.2)≤((cw.2)+(cw.1))∧((cw.2)+(cw.1))≤(s1.length:Int)) (
          (bif (!(decide ((192:Int)≤((idx s1 (0:Int)).toNat:Int)))) then
          gO ((!decide ((cw.1)=(1:Int)))=false→0≤(0:Int)∧(0:Int)<((sub s1 (cw.2) ((cw.2)+(cw.1))).length:Int)) (
          ((iS ((!decide ((cw.1)=(1:Int)))||(decide ((128:Int)≤((idx (sub s1 (cw.2) ((cw.2)+(cw.1))) (0:Int)).toNat:Int)))) (6)).bind fun xx=>match xx with
          | .inl Ze=>
            ((iT (sub s1 (cw.2) ((cw.2)+(cw.1)))).bind fun (w5:Item)=>
            gO (bA ((cw.2)+(cw.1))) (
            some (.inr ((.inl (w5,((cw.2)+(cw.1)))),dP))))
          | .inr S1=>
            some (.inr (.inr S1,dP))))
          else
          some (.inl (.L2 (cw.1) (cw.2) (sub s1 (cw.2) ((cw.2)+(cw.1))) (dP.fn) ([]:(List Item)))))))
        | .inr S2=>
          some (.inr (.inr S2,dP))))
      | .inr S3=>
        some (.inr (.inr S3,dP)))))))
    | .inr Ai=>
      some (.inr (.inr Ai,dP)))
  | (.inr e_5,dP)=>
    some (.inr (.inr e_5,dP)))
 | .L2 pT pU jV jF mb=>
  (bif (!(jV==([]:List UInt8))) then
  gO (bA (dX+(1:Int))) (
  ((self jV (dX+(1:Int)) (⟨jF⟩:counter)).bind fun xx=>match xx with
  | (.inl ko,yj)=>
    gO ((mb.length+([ko.1]:List Item).length)*48≤140737488355328) (
    gO (0≤(ko.2)∧(ko.2)≤(jV.length:Int)∧(jV.length:Int)≤(jV.length:Int)) (
    some (.inl (.L2 pT pU (sub jV (ko.2) (jV.length:Int)) (yj.fn) (mb++([ko.1]:List Item))))))
  | (.inr S4,yj)=>
    some (.inr (.inr S4,yj))))
  else
  gO (bA (pU+pT)) (
  some (.inr ((.inl ((⟨true,([]:List UInt8),mb⟩:Item),(pU+pT))),(⟨jF⟩:counter)))))
noncomputable def uz (self:(List UInt8)→Int→counter→Option (((Item×Int)⊕Int)×counter)) (s1:(List UInt8)) (dX:Int) (c0:counter):Option (((Item×Int)⊕Int)×counter):=gU (ek self s1 dX c0) .S
theorem zP (self:(List UInt8)→Int→counter→Option (((Item×Int)⊕Int)×counter)) (fP:∀ (y0:(List UInt8)) (y1:Int) (y2:counter) (rr:(((Item×Int)⊕Int)×counter)),self y0 y1 y2=some rr→Spec Tryz.prog 110 [.aK 0 0,pS y0,pI y1] (aj [.var [pI (y2.fn)]]) 1 (kF (match rr.1 with | .inl x=>Out.ret (.tuple [.agg [pB ((x.1).cD),pS ((x.1).fS), .d (.slice (((x.1).fL).map bu))],pI (x.2)]) | .inr e=>Out.mZ (.d (.iface 145 (.agg [.val (.int .i64 e)])))) (aj [.var [pI ((rr.2).fn)]]) 1)) (s1:(List UInt8)) (dX:Int) (c0:counter) (r:(((Item×Int)⊕Int)×counter)) (h:uz self s1 dX c0=some r):Spec Tryz.prog 110 [.aK 0 0,pS s1,pI dX] (aj [.var [pI (c0.fn)]]) 1 (kF (match r.1 with | .inl x=>Out.ret (.tuple [.agg [pB ((x.1).cD),pS ((x.1).fS), .d (.slice (((x.1).fL).map bu))],pI (x.2)]) | .inr e=>Out.mZ (.d (.iface 145 (.agg [.val (.int .i64 e)])))) (aj [.var [pI ((r.2).fn)]]) 1):=by
 refine Spec.pE Tryz.func110 rfl (by simp [Tryz.ntmps110]) bL ?_
 rw [Tryz.ntmps110,TT.SP]
 refine QW.view (s':=⟨aF [(0, .aK 0 0),(1,pS s1),(2,pI dX)],aj [.var [pI (c0.fn)]],1,[]⟩) (View.l8 bL (by rfl)) bL ?_
 replace h:=cG h
 obtain ⟨_,h⟩:=h
 obtain ⟨c8,rfl,h9⟩:=aQ h;replace h:=h9;clear h9;rw [ek] at h
 refine lJ ?_
 refine xs 6 rfl (bP (l:=[pB false,pS ([]:List UInt8), .full (([]:(List Item)).map bu)]) rfl TT.mm rfl rfl ?_)
 refine xz 7 (pI (0)) ?_
 refine lJ ?_
 refine xm 16 (.aK 0 0) ?_
 refine xm 17 (pI dX) ?_
 obtain ⟨⟨m3 | e_5,dP⟩,fy,h⟩:=bG h
 ·refine XK.fr (p:= .tuple []) (H2:=cE _ 0 (some (.var [pI (dP.fn)]))) (lF:=2) (some 18) rfl rfl (cg [0] rfl rfl TT.yV (mE dX c0 _ fy) rfl rfl (by decide) (And.intro rfl trivial) bL) rfl rfl rfl ?_
  refine XK.nz ?_
  refine lJ ?_
  refine xm 19 (pS s1) ?_
  refine xs 20 rfl (uP (a:=s1) (b:=([]:List UInt8)) rfl rfl rfl ?_)
  obtain ⟨LZ | Ai,oo,h⟩:=bG h
  ·refine XK.fr (p:= .tuple []) (H2:=_) (lF:=2) (some 21) rfl rfl (cg [] rfl rfl TT.fE (dH (!(s1==([]:List UInt8))) (5) _ oo) rfl rfl (by decide) trivial bL) rfl rfl rfl ?_
   refine XK.nz ?_
   refine QW.seq ?_
   refine lJ ?_
   refine xm 22 (pS s1) ?_
   obtain ⟨mX,h⟩:=gG h
   refine xs 23 rfl (lI (l:=s1) (i:=(0:Int)) rfl TT.bZ TT.nL rfl rfl mX ?_)
   refine xs 24 rfl (cK (a:=((idx s1 (0:Int)).toNat:Int)) (b:=(128:Int)) rfl rfl rfl ?_)
   refine XK.nz ?_
   refine QW.cond (t:=(decide (((idx s1 (0:Int)).toNat:Int)<(128:Int)))) rfl bL (fun NY=>?_) (fun NY=>?_)
   ·replace h:=eX h NY
    refine lJ ?_
    refine xm 25 (pS s1) ?_
    obtain ⟨rL,h⟩:=gG h
    refine xs 26 rfl (vt (l:=s1) (a:=(0:Int)) (b:=(1:Int)) rfl TT.bZ rfl rfl rfl rL ?_)
    obtain ⟨x_15,vD,h⟩:=bG h
    refine xs 27 rfl (aA rfl rfl TT.qx rfl (mS (sub s1 (0:Int) (1:Int)) _ vD) ?_)
    refine XK.st none rfl rfl (bw (l':=[pB (x_15.cD),pS (x_15.fS), .d (.slice ((x_15.fL).map bu))]) rfl TT.ew rfl rfl rfl rfl rfl rfl (by simp) rfl ?_)
    refine xz 7 (pI (1)) ?_
    refine QW.ret bL (eC ?_)
    obtain rfl:=sG h
    exact fY.more (s':=⟨aF [(6, .aK 1 0),(7,pI (1))],aj [.var [pI (dP.fn)], .var [pB (x_15.cD),pS (x_15.fS), .d (.slice ((x_15.fL).map bu))]],2,[]⟩) (ps:=[.agg [pB (x_15.cD),pS (x_15.fS), .d (.slice ((x_15.fL).map bu))],pI (1)]) (.inr rfl) (View.mk 2 [0,1] _ _ _ rfl rfl (by decide) (iC (iC trivial)) (And.intro rfl (And.intro rfl trivial)) rfl bL rfl) rfl bL (fun i hi=>dR [.var [pI (dP.fn)]] [.var [pB (x_15.cD),pS (x_15.fS), .d (.slice ((x_15.fL).map bu))]] i hi) rfl (by simp [HO.bf,HO.bK,PV.bf,PV.bK,cy,bB]) (And.intro (aG.cell rfl rfl TT.ew ⟨⟨by simp,by simp⟩,rfl⟩) (And.intro (aG.tmp rfl) trivial)) (by simp [PV.bf,PV.bK,cy])
   ·replace h:=eY h NY
    refine QW.skip bL (aY ?_)
    refine lJ ?_
    refine xm 28 (pS s1) ?_
    obtain ⟨pO,h⟩:=gG h
    refine xs 29 rfl (lI (l:=s1) (i:=(0:Int)) rfl TT.bZ TT.nL rfl rfl pO ?_)
    refine xs 30 rfl (wU (a:=((idx s1 (0:Int)).toNat:Int)) (b:=(192:Int)) rfl rfl rfl ?_)
    refine xz 8 (pB (decide ((192:Int)≤((idx s1 (0:Int)).toNat:Int)))) ?_
    refine lJ ?_
    refine xz 9 (pI (128)) ?_
    obtain ⟨v9,hq,h⟩:=bG h
    refine QW.rH (fun s'=>s'=⟨aF [(0, .aK 0 0),(1,pS s1),(2,pI dX),(6, .aK 1 0),(8,pB (decide ((192:Int)≤((idx s1 (0:Int)).toNat:Int)))),(9,pI v9)],aj [.var [pI (dP.fn)], .var [pB false,pS ([]:List UInt8), .full (([]:(List Item)).map bu)]],2,[]⟩) ?_ ?_
    ·replace h:=hq;clear hq
     refine lJ ?_
     refine xm 31 (pB (decide ((192:Int)≤((idx s1 (0:Int)).toNat:Int)))) ?_
     refine XK.nz ?_
     refine QW.cond (t:=(decide ((192:Int)≤((idx s1 (0:Int)).toNat:Int)))) rfl bL (fun vE=>?_) (fun vE=>?_)
     ·replace h:=bT h vE
      refine Fq ?_
      refine xz 9 (pI (192)) ?_
      obtain rfl:=sO h
      exact ⟨⟨aF [(0, .aK 0 0),(1,pS s1),(2,pI dX),(6, .aK 1 0),(8,pB (decide ((192:Int)≤((idx s1 (0:Int)).toNat:Int)))),(9,pI (192))],aj [.var [pI (dP.fn)], .var [pB false,pS ([]:List UInt8), .full (([]:(List Item)).map bu)]],2,[]⟩,View.mk 2 [0,1] _ _ _ rfl rfl (by decide) (iC (iC (iC (iC (iC (iC trivial)))))) (And.intro rfl (And.intro rfl trivial)) rfl bL rfl,rfl⟩
     ·replace h:=bF h vE
      refine QW.skip bL (aY ?_)
      obtain rfl:=sO h
      exact ⟨⟨aF [(0, .aK 0 0),(1,pS s1),(2,pI dX),(6, .aK 1 0),(8,pB (decide ((192:Int)≤((idx s1 (0:Int)).toNat:Int)))),(9,pI (128))],aj [.var [pI (dP.fn)], .var [pB false,pS ([]:List UInt8), .full (([]:(List Item)).map bu)]],2,[]⟩,View.mk 2 [0,1] _ _ _ rfl rfl (by decide) (iC (iC (iC (iC (iC (iC trivial)))))) (And.intro rfl (And.intro rfl trivial)) rfl bL rfl,rfl⟩
    ·rintro _ rfl
     refine lJ ?_
     refine xm 33 (pS s1) ?_
     refine xm 34 (pI v9) ?_
     obtain ⟨cw | S3,KB,h⟩:=bG h
     ·refine XK.fr (p:= .tuple [pI (cw.1),pI (cw.2)]) (H2:=_) (lF:=2) (some 35) rfl rfl (cg [] rfl rfl TT.EU (zD s1 v9 _ KB) rfl rfl (by decide) trivial bL) rfl rfl rfl ?_
      refine xm 32 (.tuple [pI (cw.1),pI (cw.2)]) ?_
      refine xs 36 rfl (pz rfl rfl rfl ?_)
      refine xs 37 rfl (pz rfl rfl rfl ?_)
      refine xa 10 (pI (cw.1)) ?_
      refine xz 11 (pI (cw.2)) ?_
      refine lJ ?_
      refine xm 38 (pI (cw.1)) ?_
      refine xm 39 (pS s1) ?_
      refine xs 40 rfl (gB (l:=s1) rfl TT.bZ rfl ?_)
      refine xm 41 (pI (cw.2)) ?_
      obtain ⟨zE,h⟩:=gG h
      refine xs 42 rfl (nJ (a:=(s1.length:Int)) (b:=(cw.2)) rfl rfl rfl zE ?_)
      refine xs 43 rfl (yQ (a:=(cw.1)) (b:=((s1.length:Int)-(cw.2))) rfl rfl rfl ?_)
      obtain ⟨Zd | S2,S5,h⟩:=bG h
      ·refine XK.fr (p:= .tuple []) (H2:=_) (lF:=2) (some 44) rfl rfl (cg [] rfl rfl TT.fE (dH (decide ((cw.1)≤((s1.length:Int)-(cw.2)))) (5) _ S5) rfl rfl (by decide) trivial bL) rfl rfl rfl ?_
       refine XK.nz ?_
       refine QW.seq ?_
       refine QW.view (s':=⟨aF [(0, .aK 0 0),(1,pS s1),(2,pI dX),(6, .aK 1 0),(8,pB (decide ((192:Int)≤((idx s1 (0:Int)).toNat:Int)))),(10,pI (cw.1)),(11,pI (cw.2))],aj [.var [pI (dP.fn)], .var [pB false,pS ([]:List UInt8), .full (([]:(List Item)).map bu)]],2,[]⟩) (View.mk 2 [0,1] _ _ _ rfl rfl (by decide) (iC (iC (iC (iC (iC (iC (iC trivial))))))) (And.intro rfl (And.intro rfl trivial)) rfl bL rfl) bL ?_
       refine Fq ?_
       refine xm 45 (pS s1) ?_
       refine xm 46 (pI (cw.2)) ?_
       refine xm 47 (pI (cw.2)) ?_
       refine xm 48 (pI (cw.1)) ?_
       obtain ⟨EX,h⟩:=gG h
       refine xs 49 rfl (bY (a:=(cw.2)) (b:=(cw.1)) rfl rfl rfl EX ?_)
       obtain ⟨L0,h⟩:=gG h
       refine xs 50 rfl (vt (l:=s1) (a:=(cw.2)) (b:=((cw.2)+(cw.1))) rfl TT.bZ rfl rfl rfl L0 ?_)
       refine xz 12 (pS (sub s1 (cw.2) ((cw.2)+(cw.1)))) ?_
       refine QW.seq ?_
       refine lJ ?_
       refine xm 51 (pB (decide ((192:Int)≤((idx s1 (0:Int)).toNat:Int)))) ?_
       refine xs 52 rfl (mC rfl rfl ?_)
       refine XK.nz ?_
       refine QW.cond (t:=(!(decide ((192:Int)≤((idx s1 (0:Int)).toNat:Int))))) rfl bL (fun NZ=>?_) (fun NZ=>?_)
       ·replace h:=eX h NZ
        refine lJ ?_
        refine xm 53 (pI (cw.1)) ?_
        refine xs 54 rfl (oa (a:=(cw.1)) (b:=(1:Int)) rfl rfl rfl ?_)
        refine xm 55 (pB (!decide ((cw.1)=(1:Int)))) ?_
        refine xg 56 (pS (sub s1 (cw.2) ((cw.2)+(cw.1)))) rfl rfl (fun hg=>au (v:=pS (sub s1 (cw.2) ((cw.2)+(cw.1)))) rfl rfl g3) ?_
        obtain ⟨L6,h⟩:=gG h
        refine xg 57 (.d (.val (.int .u8 ((idx (sub s1 (cw.2) ((cw.2)+(cw.1))) (0:Int)).toNat:Int)))) rfl rfl (fun hg=>lI (l:=(sub s1 (cw.2) ((cw.2)+(cw.1)))) (i:=(0:Int)) rfl TT.bZ TT.nL rfl rfl (L6 (Fo hg)) g3) ?_
        refine xg 58 (pB (decide ((128:Int)≤((idx (sub s1 (cw.2) ((cw.2)+(cw.1))) (0:Int)).toNat:Int)))) rfl rfl (fun hg=>wU (a:=((idx (sub s1 (cw.2) ((cw.2)+(cw.1))) (0:Int)).toNat:Int)) (b:=(128:Int)) rfl rfl rfl g3) ?_
        refine xs 59 rfl (gL rfl rfl rfl rfl (fun _=>rfl) (fun hb=>by rw [hb];rfl) ?_)
        obtain ⟨Ze | S1,KC,h⟩:=bG h
        ·refine XK.fr (p:= .tuple []) (H2:=_) (lF:=2) (some 60) rfl rfl (cg [] rfl rfl TT.fE (dH ((!decide ((cw.1)=(1:Int)))||(decide ((128:Int)≤((idx (sub s1 (cw.2) ((cw.2)+(cw.1))) (0:Int)).toNat:Int)))) (6) _ KC) rfl rfl (by decide) trivial bL) rfl rfl rfl ?_
         refine XK.nz ?_
         refine lJ ?_
         refine xm 61 (pS (sub s1 (cw.2) ((cw.2)+(cw.1)))) ?_
         obtain ⟨w5,XG,h⟩:=bG h
         refine xs 62 rfl (aA rfl rfl TT.qx rfl (mS (sub s1 (cw.2) ((cw.2)+(cw.1))) _ XG) ?_)
         refine xm 63 (pI (cw.2)) ?_
         refine xm 64 (pI (cw.1)) ?_
         obtain ⟨S6,h⟩:=gG h
         refine xs 65 rfl (bY (a:=(cw.2)) (b:=(cw.1)) rfl rfl rfl S6 ?_)
         refine XK.st none rfl rfl (bw (l':=[pB (w5.cD),pS (w5.fS), .d (.slice ((w5.fL).map bu))]) rfl TT.ew rfl rfl rfl rfl rfl rfl (by simp) rfl ?_)
         refine xz 7 (pI ((cw.2)+(cw.1))) ?_
         refine QW.ret bL (eC ?_)
         obtain rfl:=sG h
         exact fY.more (s':=⟨aF [(6, .aK 1 0),(7,pI ((cw.2)+(cw.1)))],aj [.var [pI (dP.fn)], .var [pB (w5.cD),pS (w5.fS), .d (.slice ((w5.fL).map bu))]],2,[]⟩) (ps:=[.agg [pB (w5.cD),pS (w5.fS), .d (.slice ((w5.fL).map bu))],pI ((cw.2)+(cw.1))]) (.inr rfl) (View.mk 2 [0,1] _ _ _ rfl rfl (by decide) (iC (iC trivial)) (And.intro rfl (And.intro rfl trivial)) rfl bL rfl) rfl bL (fun i hi=>dR [.var [pI (dP.fn)]] [.var [pB (w5.cD),pS (w5.fS), .d (.slice ((w5.fL).map bu))]] i hi) rfl (by simp [HO.bf,HO.bK,PV.bf,PV.bK,cy,bB]) (And.intro (aG.cell rfl rfl TT.ew ⟨⟨by simp,by simp⟩,rfl⟩) (And.intro (aG.tmp rfl) trivial)) (by simp [PV.bf,PV.bK,cy])
        ·refine XK.fp (p:= .d (.iface 145 (.agg [.val (.int .i64 S1)]))) (H2:=_) (lF:=2) rfl (cg [] rfl rfl TT.fE (dH ((!decide ((cw.1)=(1:Int)))||(decide ((128:Int)≤((idx (sub s1 (cw.2) ((cw.2)+(cw.1))) (0:Int)).toNat:Int)))) (6) _ KC) rfl rfl (by decide) trivial bL) rfl rfl rfl (sx (sx ?_))
         obtain rfl:=sG h
         exact fY.mZ (s':=⟨aF [],aj [.var [pI (dP.fn)]],1,[]⟩) (View.mk 1 [0] _ _ _ rfl rfl (by decide) trivial (And.intro rfl trivial) rfl bL rfl) rfl bL (fun i hi=>dR [.var [pI (dP.fn)]] [] i hi) rfl (by simp [HO.bf,HO.bK,PV.bf,PV.bK,cy,bB])
       ·replace h:=eY h NZ
        refine QW.skip bL (aY ?_)
        refine lJ ?_
        refine xs 66 rfl (fk (v:= .agg [pB true,pS ([]:List UInt8), .full (([]:(List Item)).map bu)]) rfl TT.yc (dM rfl (cx (cells':=[pB true,pS ([]:List UInt8), .full (([]:(List Item)).map bu)]) rfl rfl rfl bL rfl dL)) ?_)
        refine xs 13 rfl (bP (l:=[pB false,pS ([]:List UInt8), .full (([]:(List Item)).map bu)]) rfl TT.mm rfl rfl ?_)
        refine XK.st none rfl rfl (bw (l':=[pB true,pS ([]:List UInt8), .full (([]:(List Item)).map bu)]) rfl TT.ew rfl rfl rfl rfl rfl rfl (by simp) rfl ?_)
        refine XK.nz ?_
        refine QW.seq ?_
        refine QW.block ?_
        refine QW.loop (fun k σ=>∃ pT:Int,∃ pU:Int,∃ jV:(List UInt8),∃ jF:Int,∃ mb:(List Item),k≤c8∧run (ek self s1 dX c0) k (.L2 pT pU jV jF mb)=some r∧σ=⟨aF [(0, .aK 0 0),(2,pI dX),(6, .aK 1 0),(10,pI pT),(11,pI pU),(12,pS jV),(13, .aK 2 0)],aj [.var [pI jF], .var [pB false,pS ([]:List UInt8), .full (([]:(List Item)).map bu)], .var [pB true,pS ([]:List UInt8), .own 3 (mb.map bu)], .spare 3 mb.length],4,[]⟩) c8 bL ⟨⟨aF [(0, .aK 0 0),(2,pI dX),(6, .aK 1 0),(10,pI (cw.1)),(11,pI (cw.2)),(12,pS (sub s1 (cw.2) ((cw.2)+(cw.1)))),(13, .aK 2 0)],aj [.var [pI (dP.fn)], .var [pB false,pS ([]:List UInt8), .full (([]:(List Item)).map bu)], .var [pB true,pS ([]:List UInt8), .own 3 (([]:(List Item)).map bu)], .spare 3 ([]:(List Item)).length],4,[]⟩,View.trans (View.WR 2 2 3 rfl rfl bL) (View.mk 4 [0,1,2,3] _ _ _ rfl rfl (by decide) (iC (iC (iC (iC (iC (iC (iC trivial))))))) (And.intro rfl (And.intro rfl (And.intro rfl (And.intro rfl trivial)))) rfl bL rfl),cw.1,cw.2,(sub s1 (cw.2) ((cw.2)+(cw.1))),dP.fn,([]:(List Item)),Nat.le_refl _,jG h,rfl⟩ ?_
        rintro aaX _ ⟨pT,pU,jV,jF,mb,aaY,h,rfl⟩
        obtain ⟨Zf,rfl,h9⟩:=aQ h;replace h:=h9;clear h9;rw [ek] at h
        refine QW.seq ?_
        refine lJ ?_
        refine xm 67 (pS jV) ?_
        refine xs 68 rfl (uP (a:=jV) (b:=([]:List UInt8)) rfl rfl rfl ?_)
        refine XK.nz ?_
        refine QW.cond (t:=(!(jV==([]:List UInt8)))) rfl bL (fun N0=>?_) (fun N0=>?_)
        ·replace h:=eX h N0
         refine QW.skip bL (aY ?_)
         refine QW.block ?_
         refine lJ ?_
         refine xm 70 (.aK 0 0) ?_
         refine xm 71 (pS jV) ?_
         refine xm 72 (pI dX) ?_
         obtain ⟨S7,h⟩:=gG h
         refine xs 73 rfl (bY (a:=dX) (b:=(1:Int)) rfl rfl rfl S7 ?_)
         obtain ⟨⟨ko | S4,yj⟩,S8,h⟩:=bG h
         ·refine XK.fr (p:= .tuple [.agg [pB ((ko.1).cD),pS ((ko.1).fS), .d (.slice (((ko.1).fL).map bu))],pI (ko.2)]) (H2:=cE _ 0 (some (.var [pI (yj.fn)]))) (lF:=4) (some 74) rfl rfl (cg [0] rfl rfl TT.wZ (fP jV (dX+(1:Int)) (⟨jF⟩:counter) _ S8) rfl rfl (by decide) (And.intro rfl trivial) bL) rfl rfl rfl ?_
          refine xm 69 (.tuple [.agg [pB ((ko.1).cD),pS ((ko.1).fS), .d (.slice (((ko.1).fL).map bu))],pI (ko.2)]) ?_
          refine xs 75 rfl (pz rfl rfl rfl ?_)
          refine xs 76 rfl (pz rfl rfl rfl ?_)
          refine xs 14 rfl (bP (l:=[pB false,pS ([]:List UInt8), .full (([]:(List Item)).map bu)]) rfl TT.mm rfl rfl ?_)
          refine XK.st none rfl rfl (bw (l':=[pB ((ko.1).cD),pS ((ko.1).fS), .d (.slice (((ko.1).fL).map bu))]) rfl TT.ew rfl rfl rfl rfl rfl rfl (by simp) rfl ?_)
          refine xz 15 (pI (ko.2)) ?_
          refine lJ ?_
          refine xs 77 rfl (fm rfl TT.mQ (by decide) rfl ?_)
          refine xs 78 rfl (bx (v:= .own 3 (mb.map bu)) rfl TT.tu rfl rfl ⟨⟨by simp,by simp⟩,rfl⟩ ?_)
          refine XK.as (some 79) rfl rfl (bx (v:= .agg [pB ((ko.1).cD),pS ((ko.1).fS), .d (.slice (((ko.1).fL).map bu))]) rfl TT.ew rfl rfl ⟨⟨by simp,by simp⟩,rfl⟩ ⟨.d (.agg (dr (ko.1))),(iy.cW rfl),?_⟩)
          refine xs 80 rfl (dU (en:=bu) (l:=([ko.1]:List Item)) rfl TT.rJ kR (by first | rfl | (simp only [List.map_cons,List.map_nil,u9];rfl)) rfl (by decide) (by simp [dg,cQ,aB,dK,PV.cz,cu,aF,jz,iL,jP,bV,Value.oneCell']) ?_)
          obtain ⟨Zg,h⟩:=gG h
          refine xs 81 rfl (iJ (en:=bu) (l:=mb) (l2:=([ko.1]:List Item)) rfl TT.rJ TT.qX rfl kR rfl rfl rfl Zg (by decide) ?_)
          refine xs 82 rfl (fm rfl TT.mQ (by decide) rfl ?_)
          refine XK.st none rfl rfl (bw (l':=[pB true,pS ([]:List UInt8), .own 5 ((mb++([ko.1]:List Item)).map bu)]) rfl TT.tu rfl rfl rfl rfl rfl rfl (by simp) rfl ?_)
          refine XK.nz ?_
          refine QW.view (s':=⟨aF [(0, .aK 0 0),(2,pI dX),(6, .aK 1 0),(10,pI pT),(11,pI pU),(12,pS jV),(13, .aK 2 0),(15,pI (ko.2))],aj [.var [pI (yj.fn)], .var [pB false,pS ([]:List UInt8), .full (([]:(List Item)).map bu)], .var [pB true,pS ([]:List UInt8), .own 3 ((mb++([ko.1]:List Item)).map bu)], .spare 3 (mb++([ko.1]:List Item)).length],4,[]⟩) (View.mk 4 [0,1,2,5] _ _ _ rfl rfl (by decide) (iC (iC (iC (iC (iC (iC (iC (iC trivial)))))))) (And.intro rfl (And.intro rfl (And.intro rfl (And.intro rfl trivial)))) rfl bL rfl) bL ?_
          refine Fq ?_
          refine xm 83 (pS jV) ?_
          refine xm 84 (pI (ko.2)) ?_
          obtain ⟨Zh,h⟩:=gG h
          refine xs 85 rfl (vt (l:=jV) (a:=(ko.2)) (b:=(jV.length:Int)) rfl TT.bZ rfl rfl rfl Zh ?_)
          refine xa 12 (pS (sub jV (ko.2) (jV.length:Int))) ?_
          refine XK.nil (gC (aY ?_))
          exact ⟨Zf,by omega,⟨aF [(0, .aK 0 0),(2,pI dX),(6, .aK 1 0),(10,pI pT),(11,pI pU),(12,pS (sub jV (ko.2) (jV.length:Int))),(13, .aK 2 0)],aj [.var [pI (yj.fn)], .var [pB false,pS ([]:List UInt8), .full (([]:(List Item)).map bu)], .var [pB true,pS ([]:List UInt8), .own 3 ((mb++([ko.1]:List Item)).map bu)], .spare 3 (mb++([ko.1]:List Item)).length],4,[]⟩,View.mk 4 [0,1,2,3] _ _ _ rfl rfl (by decide) (iC (iC (iC (iC (iC (iC (iC trivial))))))) (And.intro rfl (And.intro rfl (And.intro rfl (And.intro rfl trivial)))) rfl bL rfl,pT,pU,(sub jV (ko.2) (jV.length:Int)),yj.fn,(mb++([ko.1]:List Item)),by omega,jG h,rfl⟩
         ·refine XK.fp (p:= .d (.iface 145 (.agg [.val (.int .i64 S4)]))) (H2:=cE _ 0 (some (.var [pI (yj.fn)]))) (lF:=4) rfl (cg [0] rfl rfl TT.wZ (fP jV (dX+(1:Int)) (⟨jF⟩:counter) _ S8) rfl rfl (by decide) (And.intro rfl trivial) bL) rfl rfl rfl (sx (Ks (sx (Ks (sx ?_)))))
          obtain rfl:=sG h
          exact fY.mZ (s':=⟨aF [],aj [.var [pI (yj.fn)]],1,[]⟩) (View.mk 1 [0] _ _ _ rfl rfl (by decide) trivial (And.intro rfl trivial) rfl bL rfl) rfl bL (fun i hi=>dR [.var [pI (yj.fn)]] [] i hi) rfl (by simp [HO.bf,HO.bK,PV.bf,PV.bK,cy,bB])
        ·replace h:=eY h N0
         refine QW.exit bL (eA (eA (jY (aY ?_))))
         refine lJ ?_
         refine xs 86 rfl (bx (v:= .agg [pB true,pS ([]:List UInt8), .own 3 (mb.map bu)]) rfl TT.ew rfl rfl ⟨⟨by simp,by simp⟩,rfl⟩ ?_)
         refine xm 87 (pI pU) ?_
         refine xm 88 (pI pT) ?_
         obtain ⟨Zi,h⟩:=gG h
         refine xs 89 rfl (bY (a:=pU) (b:=pT) rfl rfl rfl Zi ?_)
         refine XK.st none rfl rfl (bw (l':=[pB true,pS ([]:List UInt8), .own 3 (mb.map bu)]) rfl TT.ew rfl rfl rfl rfl rfl rfl (by simp) rfl ?_)
         refine xz 7 (pI (pU+pT)) ?_
         refine QW.ret bL ?_
         obtain rfl:=sG h
         exact fY.more (s':=⟨aF [(6, .aK 1 0),(7,pI (pU+pT))],aj [.var [pI jF], .var [pB true,pS ([]:List UInt8), .d (.slice (mb.map bu))]],2,[]⟩) (ps:=[.agg [pB true,pS ([]:List UInt8), .d (.slice (mb.map bu))],pI (pU+pT)]) (.inr rfl) (View.trans (View.Sv 1 2 rfl rfl rfl bL) (View.mk 2 [0,1] _ _ _ rfl rfl (by decide) (iC (iC trivial)) (And.intro rfl (And.intro rfl trivial)) rfl bL rfl)) rfl bL (fun i hi=>dR [.var [pI jF]] [.var [pB true,pS ([]:List UInt8), .d (.slice (mb.map bu))]] i hi) rfl (by simp [HO.bf,HO.bK,PV.bf,PV.bK,cy,bB]) (And.intro (aG.cell rfl rfl TT.ew ⟨⟨by simp,by simp⟩,rfl⟩) (And.intro (aG.tmp rfl) trivial)) (by simp [PV.bf,PV.bK,cy])
      ·refine XK.fp (p:= .d (.iface 145 (.agg [.val (.int .i64 S2)]))) (H2:=_) (lF:=2) rfl (cg [] rfl rfl TT.fE (dH (decide ((cw.1)≤((s1.length:Int)-(cw.2)))) (5) _ S5) rfl rfl (by decide) trivial bL) rfl rfl rfl (sx ?_)
       obtain rfl:=sG h
       exact fY.mZ (s':=⟨aF [],aj [.var [pI (dP.fn)]],1,[]⟩) (View.mk 1 [0] _ _ _ rfl rfl (by decide) trivial (And.intro rfl trivial) rfl bL rfl) rfl bL (fun i hi=>dR [.var [pI (dP.fn)]] [] i hi) rfl (by simp [HO.bf,HO.bK,PV.bf,PV.bK,cy,bB])
     ·refine XK.fp (p:= .d (.iface 145 (.agg [.val (.int .i64 S3)]))) (H2:=_) (lF:=2) rfl (cg [] rfl rfl TT.EU (zD s1 v9 _ KB) rfl rfl (by decide) trivial bL) rfl rfl rfl (sx ?_)
      obtain rfl:=sG h
      exact fY.mZ (s':=⟨aF [],aj [.var [pI (dP.fn)]],1,[]⟩) (View.mk 1 [0] _ _ _ rfl rfl (by decide) trivial (And.intro rfl trivial) rfl bL rfl) rfl bL (fun i hi=>dR [.var [pI (dP.fn)]] [] i hi) rfl (by simp [HO.bf,HO.bK,PV.bf,PV.bK,cy,bB])
  ·refine XK.fp (p:= .d (.iface 145 (.agg [.val (.int .i64 Ai)]))) (H2:=_) (lF:=2) rfl (cg [] rfl rfl TT.fE (dH (!(s1==([]:List UInt8))) (5) _ oo) rfl rfl (by decide) trivial bL) rfl rfl rfl (sx ?_)
   obtain rfl:=sG h
   exact fY.mZ (s':=⟨aF [],aj [.var [pI (dP.fn)]],1,[]⟩) (View.mk 1 [0] _ _ _ rfl rfl (by decide) trivial (And.intro rfl trivial) rfl bL rfl) rfl bL (fun i hi=>dR [.var [pI (dP.fn)]] [] i hi) rfl (by simp [HO.bf,HO.bK,PV.bf,PV.bK,cy,bB])
 ·refine XK.fp (p:= .d (.iface 145 (.agg [.val (.int .i64 e_5)]))) (H2:=cE _ 0 (some (.var [pI (dP.fn)]))) (lF:=2) rfl (cg [0] rfl rfl TT.yV (mE dX c0 _ fy) rfl rfl (by decide) (And.intro rfl trivial) bL) rfl rfl rfl (sx ?_)
  obtain rfl:=sG h
  exact fY.mZ (s':=⟨aF [],aj [.var [pI (dP.fn)]],1,[]⟩) (View.mk 1 [0] _ _ _ rfl rfl (by decide) trivial (And.intro rfl trivial) rfl bL rfl) rfl bL (fun i hi=>dR [.var [pI (dP.fn)]] [] i hi) rfl (by simp [HO.bf,HO.bK,PV.bf,PV.bK,cy,bB])
noncomputable def ic:Nat→(List UInt8)→Int→counter→Option (((Item×Int)⊕Int)×counter)
 | 0=>fun _ _ _=>none
 | n+1=>fun y0 y1 y2=>uz (ic n) y0 y1 y2
theorem sE:∀ (n:Nat) (y0:(List UInt8)) (y1:Int) (y2:counter) (rr:(((Item×Int)⊕Int)×counter)),ic n y0 y1 y2=some rr→Spec Tryz.prog 110 [.aK 0 0,pS y0,pI y1] (aj [.var [pI (y2.fn)]]) 1 (kF (match rr.1 with | .inl x=>Out.ret (.tuple [.agg [pB ((x.1).cD),pS ((x.1).fS), .d (.slice (((x.1).fL).map bu))],pI (x.2)]) | .inr e=>Out.mZ (.d (.iface 145 (.agg [.val (.int .i64 e)])))) (aj [.var [pI ((rr.2).fn)]]) 1)
 | 0,_,_,_,_,h=>by cases h
 | n+1,y0,y1,y2,rr,h=>zP (ic n) (sE n) y0 y1 y2 rr h
noncomputable def qz (y0:(List UInt8)) (y1:Int) (y2:counter):Option (((Item×Int)⊕Int)×counter):=wX (fun n=>ic n y0 y1 y2)
theorem tR (y0:(List UInt8)) (y1:Int) (y2:counter) (rr:(((Item×Int)⊕Int)×counter)) (h:qz y0 y1 y2=some rr):Spec Tryz.prog 110 [.aK 0 0,pS y0,pI y1] (aj [.var [pI (y2.fn)]]) 1 (kF (match rr.1 with | .inl x=>Out.ret (.tuple [.agg [pB ((x.1).cD),pS ((x.1).fS), .d (.slice (((x.1).fL).map bu))],pI (x.2)]) | .inr e=>Out.mZ (.d (.iface 145 (.agg [.val (.int .i64 e)])))) (aj [.var [pI ((rr.2).fn)]]) 1):=by
 obtain ⟨n,hn⟩:=nY h
 exact sE n y0 y1 y2 rr hn
noncomputable def vF (s0:(List UInt8)):Option (Item×Int×Int):=
  ((qz s0 (0) (⟨0⟩:counter)).bind fun xx=>match xx with
  | (.inl m3,dP)=>
    some (m3.1,m3.2,0)
  | (.inr e_5,dP)=>
    some ((⟨false,([]:List UInt8),([]:(List Item))⟩:Item),0,e_5))
theorem KD (s0:(List UInt8)) (r:(Item×Int×Int)) (h:vF s0=some r):bE Tryz.prog 101 [.val (sV s0)] (.tuple [.agg (dr (r.1)), .val (.int .i64 (r.2.1)), .val (.int .i64 (r.2.2))]):=by
 refine bE.ya Tryz.func101 rfl (by simp [Tryz.ntmps101]) TT.GH ?_
 rw [Tryz.ntmps101,TT.SN]
 refine QW.view (s':=⟨aF [(0,pS s0)],aj [],0,[]⟩) (View.init (by rfl)) zL ?_
 unfold vF at h
 refine sR ?_
 refine xs 2 rfl (bP (l:=[pB false,pS ([]:List UInt8), .full (([]:(List Item)).map bu)]) rfl TT.mm rfl rfl ?_)
 refine xa 3 (pI (0)) ?_
 refine xs 4 rfl (bP (l:=[pI (0)]) rfl TT.yd rfl rfl ?_)
 refine XK.nz ?_
 refine sR ?_
 refine XK.df (L:=[.aK 1 0]) none rfl rfl rfl rfl rfl ?_
 refine XK.nz ?_
 refine sR ?_
 refine xs 6 rfl (bP (l:=[pI (0)]) rfl TT.GJ rfl rfl ?_)
 refine xm 7 (pS s0) ?_
 obtain ⟨⟨m3 | e_5,dP⟩,fy,h⟩:=bO h
 ·refine XK.fr (p:= .tuple [.agg [pB ((m3.1).cD),pS ((m3.1).fS), .d (.slice (((m3.1).fL).map bu))],pI (m3.2)]) (H2:=cE _ 2 (some (.var [pI (dP.fn)]))) (lF:=3) (some 8) rfl rfl (cg [2] rfl rfl TT.wZ (tR s0 (0) (⟨0⟩:counter) _ fy) rfl rfl (by decide) (And.intro rfl trivial) bL) rfl rfl rfl ?_
  refine xm 5 (.tuple [.agg [pB ((m3.1).cD),pS ((m3.1).fS), .d (.slice (((m3.1).fL).map bu))],pI (m3.2)]) ?_
  refine xs 9 rfl (pz rfl rfl rfl ?_)
  refine xs 10 rfl (pz rfl rfl rfl ?_)
  refine XK.st none rfl rfl (bw (l':=[pB ((m3.1).cD),pS ((m3.1).fS), .d (.slice (((m3.1).fL).map bu))]) rfl TT.ew rfl rfl rfl rfl rfl rfl (by simp) rfl ?_)
  refine xz 3 (pI (m3.2)) ?_
  refine sR ?_
  refine XK.as (some 11) rfl rfl (bx (v:= .agg [pB ((m3.1).cD),pS ((m3.1).fS), .d (.slice (((m3.1).fL).map bu))]) rfl TT.ew rfl rfl ⟨⟨by simp,by simp⟩,rfl⟩ ⟨.d (.agg (dr (m3.1))),(iy.cW rfl),?_⟩)
  refine xm 12 (pI (m3.2)) ?_
  refine XK.st none rfl rfl (bw (l':=[pB ((m3.1).cD),pS ((m3.1).fS), .d (.slice (((m3.1).fL).map bu))]) rfl TT.ew rfl rfl rfl rfl rfl rfl (by simp) rfl ?_)
  refine xa 3 (pI (m3.2)) ?_
  refine XK.st none rfl rfl (bw (l':=[pI (0)]) rfl TT.kr rfl rfl rfl rfl rfl rfl (by simp) rfl ?_)
  refine XK.nz ?_
  refine QW.ret zL ?_
  obtain rfl:=sO h
  exact .inl (vu.more [.agg [pB ((m3.1).cD),pS ((m3.1).fS), .d (.slice (((m3.1).fL).map bu))],pI (m3.2),pI (0)] 1 (pI (0)) (pI (0)) none rfl rfl (q9 0) rfl rfl rfl (And.intro (aG.cell rfl rfl TT.ew ⟨⟨by simp,by simp⟩,rfl⟩) (And.intro (aG.tmp rfl) (And.intro (aG.cell rfl rfl TT.kr ⟨⟨by simp,by simp⟩,rfl⟩) trivial))) rfl)
 ·refine XK.fp (p:= .d (.iface 145 (.agg [.val (.int .i64 e_5)]))) (H2:=cE _ 2 (some (.var [pI (dP.fn)]))) (lF:=3) rfl (cg [2] rfl rfl TT.wZ (tR s0 (0) (⟨0⟩:counter) _ fy) rfl rfl (by decide) (And.intro rfl trivial) bL) rfl rfl rfl (sx ?_)
  obtain rfl:=sO h
  exact .inl (vu.more [.agg [pB false,pS ([]:List UInt8), .full (([]:(List Item)).map bu)],pI (0),pI e_5] 1 (pI (0)) (pI e_5) (some (.iface 145 (.agg [.val (.int .i64 e_5)]))) rfl rfl (ri 0 e_5) rfl rfl (⟨_,rfl,rfl⟩) (And.intro (aG.cell rfl rfl TT.ew ⟨⟨by simp,by simp⟩,rfl⟩) (And.intro (aG.tmp rfl) (And.intro (aG.cell rfl rfl TT.kr ⟨⟨by simp,by simp⟩,rfl⟩) trivial))) rfl)
noncomputable def ku (s0:(List UInt8)):Option (Item×Int):=
  ((vF s0).bind fun (x_1:(Item×Int×Int))=>
  (bif (!decide ((x_1.2.2)=(0:Int))) then
  some ((⟨false,([]:List UInt8),([]:(List Item))⟩:Item),x_1.2.2)
  else
  (bif (!decide ((x_1.2.1)=(s0.length:Int))) then
  some ((⟨false,([]:List UInt8),([]:(List Item))⟩:Item),6)
  else
  some (x_1.1,0))))
theorem Aj (s0:(List UInt8)) (r:(Item×Int)) (h:ku s0=some r):bE Tryz.prog 83 [.val (sV s0)] (.tuple [.agg (dr (r.1)), .val (.int .i64 (r.2))]):=by
 refine bE.aU Tryz.func83 rfl (by simp [Tryz.ntmps83]) ?_
 rw [Tryz.ntmps83,TT.Vc]
 refine QW.view (s':=⟨aF [(0,pS s0)],aj [],0,[]⟩) (View.init (by rfl)) zL ?_
 unfold ku at h
 refine sR ?_
 refine xs 2 rfl (bP (l:=[pB false,pS ([]:List UInt8), .full (([]:(List Item)).map bu)]) rfl TT.mm rfl rfl ?_)
 refine xz 3 (pI (0)) ?_
 refine sR ?_
 refine xm 8 (pS s0) ?_
 obtain ⟨x_1,fy,h⟩:=bO h
 refine xs 9 rfl (aA rfl rfl TT.LO rfl (KD s0 _ fy) ?_)
 refine xm 7 (.d (.tuple [.agg (dr (x_1.1)), .val (.int .i64 (x_1.2.1)), .val (.int .i64 (x_1.2.2))])) ?_
 refine xs 10 rfl (bz rfl rfl rfl ?_)
 refine xs 11 rfl (bz rfl rfl rfl ?_)
 refine xs 12 rfl (bz rfl rfl rfl ?_)
 refine xs 4 rfl (bP (l:=[pB false,pS ([]:List UInt8), .full (([]:(List Item)).map bu)]) rfl TT.mm rfl rfl ?_)
 refine XK.st none rfl rfl (bw (l':=[pB ((x_1.1).cD),pS ((x_1.1).fS), .d (.slice (((x_1.1).fL).map bu))]) rfl TT.ew rfl rfl rfl rfl rfl rfl (by simp) rfl ?_)
 refine xa 5 (pI (x_1.2.1)) ?_
 refine xz 6 (pI (x_1.2.2)) ?_
 refine QW.seq ?_
 refine QW.block ?_
 refine sR ?_
 refine xm 14 (pI (x_1.2.2)) ?_
 refine xs 15 rfl (oa (a:=(x_1.2.2)) (b:=(0:Int)) rfl rfl rfl ?_)
 refine xz 13 (pB (!decide ((x_1.2.2)=(0:Int)))) ?_
 refine QW.cond (t:=(!decide ((x_1.2.2)=(0:Int)))) rfl zL (fun dW=>?_) (fun dW=>?_)
 ·replace h:=bT h dW
  refine sR ?_
  refine xs 16 rfl (fk (v:= .agg [pB false,pS ([]:List UInt8), .full (([]:(List Item)).map bu)]) rfl TT.yc (dM rfl dL) ?_)
  refine xm 17 (pI (x_1.2.2)) ?_
  refine XK.st none rfl rfl (bw (l':=[pB false,pS ([]:List UInt8), .full (([]:(List Item)).map bu)]) rfl TT.ew rfl rfl rfl rfl rfl rfl (by simp) rfl ?_)
  refine xz 3 (pI (x_1.2.2)) ?_
  refine QW.ret zL (mO (eC ?_))
  obtain rfl:=sO h
  exact Ends.more (.inr rfl) rfl (ps:=[.agg [pB false,pS ([]:List UInt8), .full (([]:(List Item)).map bu)],pI (x_1.2.2)]) (And.intro (aG.cell rfl rfl TT.ew ⟨⟨by simp,by simp⟩,rfl⟩) (And.intro (aG.tmp rfl) trivial)) rfl rfl
 ·replace h:=bF h dW
  refine sR ?_
  refine xm 19 (pI (x_1.2.1)) ?_
  refine xm 20 (pS s0) ?_
  refine xs 21 rfl (gB (l:=s0) rfl TT.bZ rfl ?_)
  refine xs 22 rfl (oa (a:=(x_1.2.1)) (b:=(s0.length:Int)) rfl rfl rfl ?_)
  refine xz 18 (pB (!decide ((x_1.2.1)=(s0.length:Int)))) ?_
  refine QW.cond (t:=(!decide ((x_1.2.1)=(s0.length:Int)))) rfl zL (fun gD=>?_) (fun gD=>?_)
  ·replace h:=bT h gD
   refine sR ?_
   refine xs 23 rfl (fk (v:= .agg [pB false,pS ([]:List UInt8), .full (([]:(List Item)).map bu)]) rfl TT.yc (dM rfl dL) ?_)
   refine XK.st none rfl rfl (bw (l':=[pB false,pS ([]:List UInt8), .full (([]:(List Item)).map bu)]) rfl TT.ew rfl rfl rfl rfl rfl rfl (by simp) rfl ?_)
   refine xz 3 (pI (6)) ?_
   refine QW.ret zL (mO (eC ?_))
   obtain rfl:=sO h
   exact Ends.more (.inr rfl) rfl (ps:=[.agg [pB false,pS ([]:List UInt8), .full (([]:(List Item)).map bu)],pI (6)]) (And.intro (aG.cell rfl rfl TT.ew ⟨⟨by simp,by simp⟩,rfl⟩) (And.intro (aG.tmp rfl) trivial)) rfl rfl
  ·replace h:=bF h gD
   refine QW.skip zL (gC (aY ?_))
   refine sR ?_
   refine XK.as (some 24) rfl rfl (bx (v:= .agg [pB ((x_1.1).cD),pS ((x_1.1).fS), .d (.slice (((x_1.1).fL).map bu))]) rfl TT.ew rfl rfl ⟨⟨by simp,by simp⟩,rfl⟩ ⟨.d (.agg (dr (x_1.1))),(iy.cW rfl),?_⟩)
   refine XK.st none rfl rfl (bw (l':=[pB ((x_1.1).cD),pS ((x_1.1).fS), .d (.slice (((x_1.1).fL).map bu))]) rfl TT.ew rfl rfl rfl rfl rfl rfl (by simp) rfl ?_)
   refine xz 3 (pI (0)) ?_
   refine QW.ret zL ?_
   obtain rfl:=sO h
   exact Ends.more (.inr rfl) rfl (ps:=[.agg [pB ((x_1.1).cD),pS ((x_1.1).fS), .d (.slice (((x_1.1).fL).map bu))],pI (0)]) (And.intro (aG.cell rfl rfl TT.ew ⟨⟨by simp,by simp⟩,rfl⟩) (And.intro (aG.tmp rfl) trivial)) rfl rfl
noncomputable def qm (c0:UInt8) (v1:(List UInt8)):Option (Unit×(List UInt8)):=
  gO ((v1.length+([(mP c0 (4:Int)),(c0&&& (15:UInt8))]:List UInt8).length)*1≤140737488355328) (
  some ((),(v1++([(mP c0 (4:Int)),(c0&&& (15:UInt8))]:List UInt8))))
theorem De (c0:UInt8) (v1:(List UInt8)) (r:(Unit×(List UInt8))) (h:qm c0 v1=some r):Spec Tryz.prog 118 [.d (.val (.int .u8 (c0.toNat:Int))), .aK 0 0] (aj [.var [.own 1 (v1.map U)], .spare 1 v1.length]) 2 (kF (.ret (.tuple [])) (aj [.var [.own 2 ((r.2).map U)], .dead, .spare 1 (r.2).length]) 3):=by
 refine Spec.pE Tryz.func118 rfl (by simp [Tryz.ntmps118]) bL ?_
 rw [Tryz.ntmps118,TT.SS]
 refine QW.view (s':=⟨aF [(0, .d (.val (.int .u8 (c0.toNat:Int)))),(1, .aK 0 0)],aj [.var [.own 1 (v1.map U)], .spare 1 v1.length],2,[]⟩) (View.l8 bL (by rfl)) bL ?_
 unfold qm at h
 refine Fq ?_
 refine xs 3 rfl (bx (v:= .own 1 (v1.map U)) rfl TT.fB rfl rfl ⟨⟨by simp,by simp⟩,rfl⟩ ?_)
 refine xm 4 (.d (.val (.int .u8 (c0.toNat:Int)))) ?_
 refine xs 5 rfl (I8 (p:=c0) (c:=(4:Int)) rfl rfl rfl (by decide) ?_)
 refine xm 6 (.d (.val (.int .u8 (c0.toNat:Int)))) ?_
 refine xs 7 rfl (I7 (p:=c0) (q:=(15:UInt8)) rfl rfl rfl ?_)
 refine xs 8 rfl (dU (en:=U) (l:=([(mP c0 (4:Int)),(c0&&& (15:UInt8))]:List UInt8)) rfl TT.e9 bH rfl rfl (by decide) (by simp [dg,cQ,aB,dK,PV.cz,cu,aF,jz,iL,jP,bV,Value.oneCell']) ?_)
 obtain ⟨nM,h⟩:=bk h
 refine xs 9 rfl (iJ (en:=U) (l:=v1) (l2:=([(mP c0 (4:Int)),(c0&&& (15:UInt8))]:List UInt8)) rfl TT.e9 TT.bC rfl bH rfl rfl rfl nM (by decide) ?_)
 refine XK.st none rfl rfl (bw (l':=[.own 2 ((v1++([(mP c0 (4:Int)),(c0&&& (15:UInt8))]:List UInt8)).map U)]) rfl TT.fB rfl rfl rfl rfl rfl rfl (by simp) rfl ?_)
 refine XK.nil ?_
 obtain rfl:=sO h
 exact fY.none (s':=⟨aF [],aj [.var [.own 2 ((v1++([(mP c0 (4:Int)),(c0&&& (15:UInt8))]:List UInt8)).map U)], .dead, .spare 1 (v1++([(mP c0 (4:Int)),(c0&&& (15:UInt8))]:List UInt8)).length],3,[]⟩) (.inl rfl) (View.mk 3 [0,1,2] _ _ _ rfl rfl (by decide) trivial (And.intro rfl (And.intro trivial (And.intro rfl trivial))) rfl bL rfl) rfl bL (fun i hi=>dR [.var [.own 2 ((v1++([(mP c0 (4:Int)),(c0&&& (15:UInt8))]:List UInt8)).map U)], .dead, .spare 1 (v1++([(mP c0 (4:Int)),(c0&&& (15:UInt8))]:List UInt8)).length] [] i hi) rfl (by simp [HO.bf,HO.bK,PV.bf,PV.bK,cy,bB])
inductive BI where
 | S
 | L1 (wH:Int) (cO:(List UInt8))
noncomputable def j8 (s0:(List UInt8)):BI→Option (BI⊕((List UInt8)×Bool×Int))
 | .S=>
  (bif (s0==([]:List UInt8)) then
  some (.inr (([]:(List UInt8)),false,5))
  else
  some (.inl (.L1 (0) ([]:(List UInt8)))))
 | .L1 wH cO=>
  (bif (decide (wH<(e8 (s0.length:Int) (64:Int)))) then
  gO (0≤wH∧wH<(s0.length:Int)) (
  ((qm (idx s0 wH) cO).bind fun (N1:(Unit×(List UInt8)))=>
  gO (bA (wH+(1:Int))) (
  some (.inl (.L1 (wH+(1:Int)) (N1.2))))))
  else
  gO (0≤(0:Int)∧(0:Int)<(cO.length:Int)) (
  gO (bA ((2:Int)-(((idx cO (0:Int))%(2:UInt8)).toNat:Int))) (
  gO ((((decide ((3:Int)<((idx cO (0:Int)).toNat:Int)))==false)&&((decide ((((idx cO (0:Int))%(2:UInt8)).toNat:Int)=(0:Int)))==true))=true→0≤(1:Int)∧(1:Int)<(cO.length:Int)) (
  gO ((((decide ((3:Int)<((idx cO (0:Int)).toNat:Int)))||((decide ((((idx cO (0:Int))%(2:UInt8)).toNat:Int)=(0:Int)))&&(!decide (((idx cO (1:Int)).toNat:Int)=(0:Int)))))==false)=true→bA ((2:Int)*(s0.length:Int))) (
  gO ((((decide ((3:Int)<((idx cO (0:Int)).toNat:Int)))||((decide ((((idx cO (0:Int))%(2:UInt8)).toNat:Int)=(0:Int)))&&(!decide (((idx cO (1:Int)).toNat:Int)=(0:Int)))))==false)=true→bA (((2:Int)*(s0.length:Int))-((2:Int)-(((idx cO (0:Int))%(2:UInt8)).toNat:Int)))) (
  (bif (((decide ((3:Int)<((idx cO (0:Int)).toNat:Int)))||((decide ((((idx cO (0:Int))%(2:UInt8)).toNat:Int)=(0:Int)))&&(!decide (((idx cO (1:Int)).toNat:Int)=(0:Int)))))||(decide ((64:Int)<(((2:Int)*(s0.length:Int))-((2:Int)-(((idx cO (0:Int))%(2:UInt8)).toNat:Int)))))) then
  some (.inr (([]:(List UInt8)),false,6))
  else
  gO (0≤((2:Int)-(((idx cO (0:Int))%(2:UInt8)).toNat:Int))∧((2:Int)-(((idx cO (0:Int))%(2:UInt8)).toNat:Int))≤(cO.length:Int)∧(cO.length:Int)≤(cO.length:Int)) (
  some (.inr ((sub cO ((2:Int)-(((idx cO (0:Int))%(2:UInt8)).toNat:Int)) (cO.length:Int)),(decide ((2:Int)≤((idx cO (0:Int)).toNat:Int))),0))))))))))
noncomputable def xG (s0:(List UInt8)):Option ((List UInt8)×Bool×Int):=gU (j8 s0) .S
theorem Fs (s0:(List UInt8)) (r:((List UInt8)×Bool×Int)) (h:xG s0=some r):bE Tryz.prog 114 [.val (sV s0)] (.tuple [.slice ((r.1).map U), .val (.bool (r.2.1)), .val (.int .i64 (r.2.2))]):=by
 refine bE.aU Tryz.func114 rfl (by simp [Tryz.ntmps114]) ?_
 rw [Tryz.ntmps114,TT.SQ]
 refine QW.view (s':=⟨aF [(0,pS s0)],aj [],0,[]⟩) (View.init (by rfl)) zL ?_
 replace h:=cG h
 obtain ⟨_,h⟩:=h
 obtain ⟨c8,rfl,h9⟩:=aQ h;replace h:=h9;clear h9;rw [j8] at h
 refine sR ?_
 refine xa 2 (.full (([]:(List UInt8)).map U)) ?_
 refine xa 3 (pB false) ?_
 refine xz 4 (pI (0)) ?_
 refine QW.seq ?_
 refine sR ?_
 refine xm 10 (pS s0) ?_
 refine xs 11 rfl (qk (a:=s0) (b:=([]:List UInt8)) rfl rfl rfl ?_)
 refine XK.nz ?_
 refine QW.cond (t:=(s0==([]:List UInt8))) rfl zL (fun dm=>?_) (fun dm=>?_)
 ·replace h:=eX h dm
  refine sR ?_
  refine xa 2 (.full (([]:(List UInt8)).map U)) ?_
  refine xa 3 (pB false) ?_
  refine xz 4 (pI (5)) ?_
  refine QW.ret zL (eC ?_)
  obtain rfl:=sG h
  exact Ends.more (.inr rfl) rfl (ps:=[.full (([]:(List UInt8)).map U),pB false,pI (5)]) (And.intro (aG.tmp rfl) (And.intro (aG.tmp rfl) (And.intro (aG.tmp rfl) trivial))) rfl rfl
 ·replace h:=eY h dm
  refine QW.skip zL (aY ?_)
  refine sR ?_
  refine xs 5 rfl (bP (l:=[.full (([]:(List UInt8)).map U)]) rfl TT.QH rfl rfl ?_)
  refine XK.nz ?_
  refine QW.seq ?_
  refine QW.view (View.WR 0 0 1 rfl rfl zL) zL ?_
  refine rG ?_
  refine xs 12 rfl (Lw rfl rfl ?_)
  refine xz 6 (.gT 118 [.aK 0 0]) ?_
  refine QW.seq ?_
  refine sR ?_
  refine xm 13 (pS s0) ?_
  refine xs 14 rfl (gB (l:=s0) rfl TT.bZ rfl ?_)
  refine xs 15 rfl (FK (a:=(s0.length:Int)) (b:=(64:Int)) rfl rfl rfl ?_)
  refine xm 16 (pI (0)) ?_
  refine XK.nz ?_
  refine QW.block ?_
  refine QW.loop (fun k σ=>∃ wH:Int,∃ cO:(List UInt8),k≤c8∧run (j8 s0) k (.L1 wH cO)=some r∧σ=⟨aF [(0,pS s0),(5, .aK 0 0),(6, .gT 118 [.aK 0 0]),(15,pI (e8 (s0.length:Int) (64:Int))),(16,pI wH)],aj [.var [.own 1 (cO.map U)], .spare 1 cO.length],2,[]⟩) c8 zL ⟨⟨aF [(0,pS s0),(5, .aK 0 0),(6, .gT 118 [.aK 0 0]),(15,pI (e8 (s0.length:Int) (64:Int))),(16,pI (0))],aj [.var [.own 1 (([]:(List UInt8)).map U)], .spare 1 ([]:(List UInt8)).length],2,[]⟩,View.mk 2 [0,1] _ _ _ rfl rfl (by decide) (iC (iC (iC (iC (iC trivial))))) (And.intro rfl (And.intro rfl trivial)) rfl zL rfl,0,([]:(List UInt8)),Nat.le_refl _,jG h,rfl⟩ ?_
  rintro S9 _ ⟨wH,cO,Ta,h,rfl⟩
  obtain ⟨k_2,rfl,h9⟩:=aQ h;replace h:=h9;clear h9;rw [j8] at h
  refine sR ?_
  refine xs 17 rfl (cK (a:=wH) (b:=(e8 (s0.length:Int) (64:Int))) rfl rfl rfl ?_)
  refine XK.nz ?_
  refine QW.seq ?_
  refine QW.cond (t:=(decide (wH<(e8 (s0.length:Int) (64:Int))))) rfl zL (fun dW=>?_) (fun dW=>?_)
  ·replace h:=eX h dW
   refine QW.skip zL (aY ?_)
   refine QW.seq ?_
   refine QW.block ?_
   refine sR ?_
   refine xm 18 (pI wH) ?_
   refine xz 7 (pI wH) ?_
   refine rG ?_
   refine xm 19 (.gT 118 [.aK 0 0]) ?_
   refine xm 20 (pS s0) ?_
   refine xm 21 (pI wH) ?_
   obtain ⟨lY,h⟩:=gG h
   refine xs 22 rfl (lI (l:=s0) (i:=wH) rfl TT.bZ TT.nL rfl rfl lY ?_)
   obtain ⟨N1,rj,h⟩:=bG h
   refine XK.fr (p:= .tuple []) (H2:=cE (cE (cE _ 2 (some (.spare 1 (N1.2).length))) 1 none) 0 (some (.var [.own 2 ((N1.2).map U)]))) (lF:=3) (some 23) rfl rfl (LD [0,1] rfl rfl rfl TT.LQ (De (idx s0 wH) cO _ rj) rfl rfl (by decide) (And.intro rfl (And.intro rfl trivial)) bL) rfl rfl rfl ?_
   refine XK.nil (gC (aY ?_))
   refine rG ?_
   obtain ⟨rM,h⟩:=gG h
   refine xs 24 rfl (bY (a:=wH) (b:=(1:Int)) rfl rfl rfl rM ?_)
   refine xm 16 (pI (wH+(1:Int))) ?_
   refine XK.nz ?_
   exact ⟨k_2,by omega,⟨aF [(0,pS s0),(5, .aK 0 0),(6, .gT 118 [.aK 0 0]),(15,pI (e8 (s0.length:Int) (64:Int))),(16,pI (wH+(1:Int)))],aj [.var [.own 1 ((N1.2).map U)], .spare 1 (N1.2).length],2,[]⟩,View.mk 2 [0,2] _ _ _ rfl rfl (by decide) (iC (iC (iC (iC (iC trivial))))) (And.intro rfl (And.intro rfl trivial)) rfl zL rfl,(wH+(1:Int)),(N1.2),by omega,jG h,rfl⟩
  ·replace h:=eY h dW
   refine QW.exit zL (eA (eA (jY (aY ?_))))
   refine sR ?_
   refine xs 25 rfl (bx (v:= .own 1 (cO.map U)) rfl TT.fB rfl rfl ⟨⟨by simp,by simp⟩,rfl⟩ ?_)
   obtain ⟨rN,h⟩:=gG h
   refine xs 26 rfl (bN (l:=cO) (i:=(0:Int)) rfl TT.eD bH rfl rfl rN ?_)
   refine xs 27 rfl (aC (d:= .val (.int .u8 ((idx cO (0:Int)).toNat:Int))) rfl TT.kG rfl (di.one) ?_)
   refine xz 8 (.d (.val (.int .u8 ((idx cO (0:Int)).toNat:Int)))) ?_
   refine sR ?_
   refine xm 28 (.d (.val (.int .u8 ((idx cO (0:Int)).toNat:Int)))) ?_
   refine xs 29 rfl (D2 (p:=(idx cO (0:Int))) (q:=(2:UInt8)) rfl rfl rfl (by decide) ?_)
   refine xs 30 rfl (C4 (n:=(((idx cO (0:Int))%(2:UInt8)).toNat:Int)) rfl TT.dV TT.kY rfl (C6 _) ?_)
   obtain ⟨oq,h⟩:=gG h
   refine xs 31 rfl (nJ (a:=(2:Int)) (b:=(((idx cO (0:Int))%(2:UInt8)).toNat:Int)) rfl rfl rfl oq ?_)
   refine xz 9 (pI ((2:Int)-(((idx cO (0:Int))%(2:UInt8)).toNat:Int))) ?_
   refine QW.seq ?_
   refine sR ?_
   refine xm 32 (.d (.val (.int .u8 ((idx cO (0:Int)).toNat:Int)))) ?_
   refine xs 33 rfl (oh (a:=((idx cO (0:Int)).toNat:Int)) (b:=(3:Int)) rfl rfl rfl ?_)
   refine xm 34 (pB (decide ((3:Int)<((idx cO (0:Int)).toNat:Int)))) ?_
   refine xg 35 (.d (.val (.int .u8 ((idx cO (0:Int)).toNat:Int)))) rfl rfl (fun hg=>au (v:= .d (.val (.int .u8 ((idx cO (0:Int)).toNat:Int)))) rfl rfl g3) ?_
   refine xg 36 (.d (.val (.int .u8 (((idx cO (0:Int))%(2:UInt8)).toNat:Int)))) rfl rfl (fun hg=>D2 (p:=(idx cO (0:Int))) (q:=(2:UInt8)) rfl rfl rfl (by decide) g3) ?_
   refine xg 37 (pB (decide ((((idx cO (0:Int))%(2:UInt8)).toNat:Int)=(0:Int)))) rfl rfl (fun hg=>ej (a:=(((idx cO (0:Int))%(2:UInt8)).toNat:Int)) (b:=(0:Int)) rfl rfl rfl g3) ?_
   refine xg 38 (pB (decide ((((idx cO (0:Int))%(2:UInt8)).toNat:Int)=(0:Int)))) rfl rfl (fun hg=>au (v:=pB (decide ((((idx cO (0:Int))%(2:UInt8)).toNat:Int)=(0:Int)))) rfl rfl g3) ?_
   refine XK.gd (v:= .own 1 (cO.map U)) (T:=[0]) (some 39) rfl rfl (by repeat (first | exact trivial | refine ⟨fun q=>by first | rfl | exact q | exact jQ q | exact jZ q,?_⟩)) (fun hg=>bx (v:= .own 1 (cO.map U)) rfl TT.fB rfl rfl ⟨⟨by simp,by simp⟩,rfl⟩ g3) (fun _ i hi=>by simp only [List.mem_singleton] at hi;subst hi;decide) ?_
   obtain ⟨vG,h⟩:=gG h
   refine xg 40 (.d (.cr ([.val (.int .u8 ((idx cO (1:Int)).toNat:Int))]))) rfl rfl (fun hg=>bN (l:=cO) (i:=(1:Int)) rfl TT.eD bH rfl rfl (vG hg) g3) ?_
   refine xg 41 (.d (.val (.int .u8 ((idx cO (1:Int)).toNat:Int)))) rfl rfl (fun hg=>aC (d:= .val (.int .u8 ((idx cO (1:Int)).toNat:Int))) rfl TT.kG rfl (di.one) g3) ?_
   refine xg 42 (pB (!decide (((idx cO (1:Int)).toNat:Int)=(0:Int)))) rfl rfl (fun hg=>oa (a:=((idx cO (1:Int)).toNat:Int)) (b:=(0:Int)) rfl rfl rfl g3) ?_
   refine XK.gp (some 43) rfl rfl rfl rfl rfl rfl (fun h=>h) (fun hg hb=>by first | (rw [hg,hb];rfl) | (simp only [hg,hb];rfl) | simp_all) (fun _ _=>rfl) ((decide ((((idx cO (0:Int))%(2:UInt8)).toNat:Int)=(0:Int)))&&(!decide (((idx cO (1:Int)).toNat:Int)=(0:Int)))) (Gz _ _) ?_
   refine xs 44 rfl (gL rfl rfl rfl rfl (fun _=>rfl) (fun hb=>by rw [hb];rfl) ?_)
   refine xm 45 (pB ((decide ((3:Int)<((idx cO (0:Int)).toNat:Int)))||((decide ((((idx cO (0:Int))%(2:UInt8)).toNat:Int)=(0:Int)))&&(!decide (((idx cO (1:Int)).toNat:Int)=(0:Int)))))) ?_
   refine xg 46 (pS s0) rfl rfl (fun hg=>au (v:=pS s0) rfl rfl g3) ?_
   refine xg 47 (pI (s0.length:Int)) rfl rfl (fun hg=>gB (l:=s0) rfl TT.bZ rfl g3) ?_
   obtain ⟨mX,h⟩:=gG h
   refine xg 48 (pI ((2:Int)*(s0.length:Int))) rfl rfl (fun hg=>AV (a:=(2:Int)) (b:=(s0.length:Int)) rfl rfl rfl (mX hg) g3) ?_
   refine xg 49 (pI ((2:Int)-(((idx cO (0:Int))%(2:UInt8)).toNat:Int))) rfl rfl (fun hg=>au (v:=pI ((2:Int)-(((idx cO (0:Int))%(2:UInt8)).toNat:Int))) rfl rfl g3) ?_
   obtain ⟨nE,h⟩:=gG h
   refine xg 50 (pI (((2:Int)*(s0.length:Int))-((2:Int)-(((idx cO (0:Int))%(2:UInt8)).toNat:Int)))) rfl rfl (fun hg=>nJ (a:=((2:Int)*(s0.length:Int))) (b:=((2:Int)-(((idx cO (0:Int))%(2:UInt8)).toNat:Int))) rfl rfl rfl (nE hg) g3) ?_
   refine xg 51 (pB (decide ((64:Int)<(((2:Int)*(s0.length:Int))-((2:Int)-(((idx cO (0:Int))%(2:UInt8)).toNat:Int)))))) rfl rfl (fun hg=>oh (a:=(((2:Int)*(s0.length:Int))-((2:Int)-(((idx cO (0:Int))%(2:UInt8)).toNat:Int)))) (b:=(64:Int)) rfl rfl rfl g3) ?_
   refine xs 52 rfl (gL rfl rfl rfl rfl (fun _=>rfl) (fun hb=>by rw [hb];rfl) ?_)
   refine XK.nz ?_
   refine QW.cond (t:=(((decide ((3:Int)<((idx cO (0:Int)).toNat:Int)))||((decide ((((idx cO (0:Int))%(2:UInt8)).toNat:Int)=(0:Int)))&&(!decide (((idx cO (1:Int)).toNat:Int)=(0:Int)))))||(decide ((64:Int)<(((2:Int)*(s0.length:Int))-((2:Int)-(((idx cO (0:Int))%(2:UInt8)).toNat:Int))))))) rfl zL (fun qA=>?_) (fun qA=>?_)
   ·replace h:=eX h qA
    refine sR ?_
    refine xa 2 (.full (([]:(List UInt8)).map U)) ?_
    refine xa 3 (pB false) ?_
    refine xz 4 (pI (6)) ?_
    refine QW.ret zL (eC ?_)
    obtain rfl:=sG h
    exact Ends.more (.inr rfl) rfl (ps:=[.full (([]:(List UInt8)).map U),pB false,pI (6)]) (And.intro (aG.tmp rfl) (And.intro (aG.tmp rfl) (And.intro (aG.tmp rfl) trivial))) rfl rfl
   ·replace h:=eY h qA
    refine QW.skip zL (aY ?_)
    refine sR ?_
    refine xs 53 rfl (bx (v:= .own 1 (cO.map U)) rfl TT.fB rfl rfl ⟨⟨by simp,by simp⟩,rfl⟩ ?_)
    refine xm 54 (pI ((2:Int)-(((idx cO (0:Int))%(2:UInt8)).toNat:Int))) ?_
    refine xs 55 rfl (bx (v:= .own 1 (cO.map U)) rfl TT.fB rfl rfl ⟨⟨by simp,by simp⟩,rfl⟩ ?_)
    refine xs 56 rfl (cM (en:=U) (l:=cO) rfl TT.bC rfl ?_)
    refine xs 57 rfl (bx (v:= .own 1 (cO.map U)) rfl TT.fB rfl rfl ⟨⟨by simp,by simp⟩,rfl⟩ ?_)
    refine xs 58 rfl (cM (en:=U) (l:=cO) rfl TT.bC rfl ?_)
    obtain ⟨vH,h⟩:=gG h
    refine xs 59 rfl (Qg (l:=cO) (a:=((2:Int)-(((idx cO (0:Int))%(2:UInt8)).toNat:Int))) (b:=(cO.length:Int)) rfl TT.bC TT.eD bH rfl rfl rfl rfl vH ?_)
    refine xm 60 (.d (.val (.int .u8 ((idx cO (0:Int)).toNat:Int)))) ?_
    refine xs 61 rfl (wU (a:=((idx cO (0:Int)).toNat:Int)) (b:=(2:Int)) rfl rfl rfl ?_)
    refine xa 2 (.full ((sub cO ((2:Int)-(((idx cO (0:Int))%(2:UInt8)).toNat:Int)) (cO.length:Int)).map U)) ?_
    refine xa 3 (pB (decide ((2:Int)≤((idx cO (0:Int)).toNat:Int)))) ?_
    refine xz 4 (pI (0)) ?_
    refine QW.ret zL ?_
    obtain rfl:=sG h
    exact Ends.more (.inr rfl) rfl (ps:=[.full ((sub cO ((2:Int)-(((idx cO (0:Int))%(2:UInt8)).toNat:Int)) (cO.length:Int)).map U),pB (decide ((2:Int)≤((idx cO (0:Int)).toNat:Int))),pI (0)]) (And.intro (aG.tmp rfl) (And.intro (aG.tmp rfl) (And.intro (aG.tmp rfl) trivial))) rfl rfl
inductive EY where
 | S
 | L2 (jb:Int) (fN:Int) (v6:(List UInt8))
noncomputable def jc (n0:Int) (p6:Bool):EY→Option (EY⊕(List UInt8))
 | .S=>
  (((bif p6 then
  some (192)
  else
  some (128)):Option Int).bind fun (v5:Int)=>
  (bif (decide ((e8 (gQ n0 (0:Int)) (4294967296:Int))≤(55:Int))) then
  gO (bA (v5+(e8 (gQ n0 (0:Int)) (4294967296:Int)))) (
  some (.inr ([(gb (v5+(e8 (gQ n0 (0:Int)) (4294967296:Int))))]:List UInt8)))
  else
  some (.inl (.L2 (e8 (gQ n0 (0:Int)) (4294967296:Int)) v5 ([]:(List UInt8))))))
 | .L2 jb fN v6=>
  (bif (decide ((0:Int)<jb)) then
  gO ((([(gb jb)]:List UInt8).length+v6.length)*1≤140737488355328) (
  some (.inl (.L2 (Gl jb (8:Int)) fN (([(gb jb)]:List UInt8)++v6))))
  else
  gO (bA (fN+(55:Int))) (
  gO (bA ((fN+(55:Int))+(v6.length:Int))) (
  gO (([(gb ((fN+(55:Int))+(v6.length:Int)))]:List UInt8).length+v6.length≤9223372036854775807) (
  some (.inr (([(gb ((fN+(55:Int))+(v6.length:Int)))]:List UInt8)++v6))))))
noncomputable def tS (n0:Int) (p6:Bool):Option (List UInt8):=gU (jc n0 p6) .S
theorem BJ (n0:Int) (p6:Bool) (r:(List UInt8)) (h:tS n0 p6=some r):bE Tryz.prog 100 [.val (.int .i64 n0), .val (.bool p6)] (.val (sV r)):=by
 refine bE.aU Tryz.func100 rfl (by simp [Tryz.ntmps100]) ?_
 rw [Tryz.ntmps100,TT.SM]
 refine QW.view (s':=⟨aF [(0,pI n0),(1,pB p6)],aj [],0,[]⟩) (View.init (by rfl)) zL ?_
 replace h:=cG h
 obtain ⟨_,h⟩:=h
 obtain ⟨c8,rfl,h9⟩:=aQ h;replace h:=h9;clear h9;rw [jc] at h
 refine sR ?_
 refine xz 4 (pS ([]:List UInt8)) ?_
 refine sR ?_
 refine xm 7 (pI n0) ?_
 refine xs 8 rfl (Po (a:=n0) (b:=(0:Int)) rfl rfl rfl ?_)
 refine xs 9 rfl (FK (a:=(gQ n0 (0:Int))) (b:=(4294967296:Int)) rfl rfl rfl ?_)
 refine xz 0 (pI (e8 (gQ n0 (0:Int)) (4294967296:Int))) ?_
 refine sR ?_
 refine xz 5 (pI (128)) ?_
 obtain ⟨v5,hq,h⟩:=bG h
 refine QW.rH (fun s'=>s'=⟨aF [(0,pI (e8 (gQ n0 (0:Int)) (4294967296:Int))),(5,pI v5)],aj [],0,[]⟩) ?_ ?_
 ·replace h:=hq;clear hq
  refine sR ?_
  refine xm 10 (pB p6) ?_
  refine XK.nz ?_
  refine QW.cond (t:=p6) rfl zL (fun dm=>?_) (fun dm=>?_)
  ·replace h:=bT h dm
   refine rG ?_
   refine xz 5 (pI (192)) ?_
   obtain rfl:=sO h
   exact ⟨⟨aF [(0,pI (e8 (gQ n0 (0:Int)) (4294967296:Int))),(5,pI (192))],aj [],0,[]⟩,View.mk 0 [] _ _ _ rfl rfl (by decide) (iC (iC trivial)) trivial rfl zL rfl,rfl⟩
  ·replace h:=bF h dm
   refine QW.skip zL (aY ?_)
   obtain rfl:=sO h
   exact ⟨⟨aF [(0,pI (e8 (gQ n0 (0:Int)) (4294967296:Int))),(5,pI (128))],aj [],0,[]⟩,View.mk 0 [] _ _ _ rfl rfl (by decide) (iC (iC trivial)) trivial rfl zL rfl,rfl⟩
 ·rintro _ rfl
  refine QW.seq ?_
  refine sR ?_
  refine xm 11 (pI (e8 (gQ n0 (0:Int)) (4294967296:Int))) ?_
  refine xs 12 rfl (yQ (a:=(e8 (gQ n0 (0:Int)) (4294967296:Int))) (b:=(55:Int)) rfl rfl rfl ?_)
  refine XK.nz ?_
  refine QW.cond (t:=(decide ((e8 (gQ n0 (0:Int)) (4294967296:Int))≤(55:Int)))) rfl zL (fun cv=>?_) (fun cv=>?_)
  ·replace h:=eX h cv
   refine sR ?_
   refine xm 13 (pI v5) ?_
   refine xm 14 (pI (e8 (gQ n0 (0:Int)) (4294967296:Int))) ?_
   obtain ⟨dP,h⟩:=gG h
   refine xs 15 rfl (bY (a:=v5) (b:=(e8 (gQ n0 (0:Int)) (4294967296:Int))) rfl rfl rfl dP ?_)
   refine xs 16 rfl (nR (n:=(v5+(e8 (gQ n0 (0:Int)) (4294967296:Int)))) rfl TT.kY TT.dV rfl ?_)
   refine xs 17 rfl (dU (en:=U) (l:=([(gb (v5+(e8 (gQ n0 (0:Int)) (4294967296:Int))))]:List UInt8)) rfl TT.e9 bH rfl rfl (by decide) (by simp [dg,cQ,aB,dK,PV.cz,cu,aF,jz,iL,jP,bV,Value.oneCell']) ?_)
   refine xs 18 rfl (nK (l:=([(gb (v5+(e8 (gQ n0 (0:Int)) (4294967296:Int))))]:List UInt8)) rfl TT.bC TT.dV TT.bZ rfl ?_)
   refine xz 4 (pS ([(gb (v5+(e8 (gQ n0 (0:Int)) (4294967296:Int))))]:List UInt8)) ?_
   refine QW.ret zL (eC ?_)
   obtain rfl:=sG h
   exact Ends.one (.inr rfl) rfl (aG.tmp rfl) rfl rfl
  ·replace h:=eY h cv
   refine QW.skip zL (aY ?_)
   refine sR ?_
   refine xz 6 (.full (([]:(List UInt8)).map U)) ?_
   refine QW.seq ?_
   refine QW.block ?_
   refine QW.loop (fun k σ=>∃ jb:Int,∃ fN:Int,∃ v6:(List UInt8),k≤c8∧run (jc n0 p6) k (.L2 jb fN v6)=some r∧σ=⟨aF [(0,pI jb),(5,pI fN),(6, .d (.slice (v6.map U)))],aj [],0,[]⟩) c8 zL ⟨⟨aF [(0,pI (e8 (gQ n0 (0:Int)) (4294967296:Int))),(5,pI v5),(6, .d (.slice (([]:(List UInt8)).map U)))],aj [],0,[]⟩,View.mk 0 [] _ _ _ rfl rfl (by decide) (iC (iC (And.intro (iy.cW rfl) trivial))) trivial rfl zL rfl,(e8 (gQ n0 (0:Int)) (4294967296:Int)),v5,([]:(List UInt8)),Nat.le_refl _,jG h,rfl⟩ ?_
   rintro WV _ ⟨jb,fN,v6,WW,h,rfl⟩
   obtain ⟨L7,rfl,h9⟩:=aQ h;replace h:=h9;clear h9;rw [jc] at h
   refine QW.seq ?_
   refine sR ?_
   refine xm 19 (pI jb) ?_
   refine xs 20 rfl (oh (a:=jb) (b:=(0:Int)) rfl rfl rfl ?_)
   refine XK.nz ?_
   refine QW.cond (t:=(decide ((0:Int)<jb))) rfl zL (fun kI=>?_) (fun kI=>?_)
   ·replace h:=eX h kI
    refine QW.skip zL (aY ?_)
    refine QW.seq ?_
    refine QW.block ?_
    refine rG ?_
    refine xm 23 (pI jb) ?_
    refine xs 24 rfl (nR (n:=jb) rfl TT.kY TT.dV rfl ?_)
    refine xs 25 rfl (dU (en:=U) (l:=([(gb jb)]:List UInt8)) rfl TT.e9 bH rfl rfl (by decide) (by simp [dg,cQ,aB,dK,PV.cz,cu,aF,jz,iL,jP,bV,Value.oneCell']) ?_)
    refine xm 26 (.d (.slice (v6.map U))) ?_
    obtain ⟨lZ,h⟩:=gG h
    refine XK.pr (v:= .d (.slice ((([(gb jb)]:List UInt8)++v6).map U))) (some 27) rfl rfl (UN (en:=U) (l:=([(gb jb)]:List UInt8)) (l2:=v6) rfl TT.e9 TT.bC rfl bH rfl rfl lZ (by decide)) ?_
    refine xa 6 (.d (.slice ((([(gb jb)]:List UInt8)++v6).map U))) ?_
    refine XK.nil (gC (aY ?_))
    refine rG ?_
    refine xm 21 (pI jb) ?_
    refine xs 22 rfl (UG (a:=jb) (b:=(8:Int)) rfl rfl rfl (by decide) ?_)
    refine xz 0 (pI (Gl jb (8:Int))) ?_
    exact ⟨L7,by omega,⟨aF [(0,pI (Gl jb (8:Int))),(5,pI fN),(6, .d (.slice ((([(gb jb)]:List UInt8)++v6).map U)))],aj [],0,[]⟩,View.mk 0 [] _ _ _ rfl rfl (by decide) (iC (iC (iC trivial))) trivial rfl zL rfl,(Gl jb (8:Int)),fN,(([(gb jb)]:List UInt8)++v6),by omega,jG h,rfl⟩
   ·replace h:=eY h kI
    refine QW.exit zL (eA (eA (jY (aY ?_))))
    refine sR ?_
    refine xm 28 (pI fN) ?_
    obtain ⟨mc,h⟩:=gG h
    refine xs 29 rfl (bY (a:=fN) (b:=(55:Int)) rfl rfl rfl mc ?_)
    refine xm 30 (.d (.slice (v6.map U))) ?_
    refine xs 31 rfl (cM (en:=U) (l:=v6) rfl TT.bC rfl ?_)
    obtain ⟨rM,h⟩:=gG h
    refine xs 32 rfl (bY (a:=(fN+(55:Int))) (b:=(v6.length:Int)) rfl rfl rfl rM ?_)
    refine xs 33 rfl (nR (n:=((fN+(55:Int))+(v6.length:Int))) rfl TT.kY TT.dV rfl ?_)
    refine xs 34 rfl (dU (en:=U) (l:=([(gb ((fN+(55:Int))+(v6.length:Int)))]:List UInt8)) rfl TT.e9 bH rfl rfl (by decide) (by simp [dg,cQ,aB,dK,PV.cz,cu,aF,jz,iL,jP,bV,Value.oneCell']) ?_)
    refine xs 35 rfl (nK (l:=([(gb ((fN+(55:Int))+(v6.length:Int)))]:List UInt8)) rfl TT.bC TT.dV TT.bZ rfl ?_)
    refine xm 36 (.d (.slice (v6.map U))) ?_
    refine xs 37 rfl (nK (l:=v6) rfl TT.bC TT.dV TT.bZ rfl ?_)
    obtain ⟨rN,h⟩:=gG h
    refine xs 38 rfl (ld (a:=([(gb ((fN+(55:Int))+(v6.length:Int)))]:List UInt8)) (b:=v6) rfl rfl rfl rN ?_)
    refine xz 4 (pS (([(gb ((fN+(55:Int))+(v6.length:Int)))]:List UInt8)++v6)) ?_
    refine QW.ret zL ?_
    obtain rfl:=sG h
    exact Ends.one (.inr rfl) rfl (aG.tmp rfl) rfl rfl
inductive vI where
 | S
 | L1 (v7:(List UInt8)) (sA:Int) (jF:Int)
noncomputable def eM (self:Item→Int→counter→Option (((List UInt8)⊕Int)×counter)) (x1:Item) (dX:Int) (c0:counter):vI→Option (vI⊕(((List UInt8)⊕Int)×counter))
 | .S=>
  ((j7 dX c0).bind fun xx=>match xx with
  | (.inl m3,dP)=>
    ((iS ((x1.fS==([]:List UInt8))||(!(x1).cD)) (6)).bind fun xx=>match xx with
    | .inl LZ=>
      ((iS ((decide (((x1.fL).length:Int)=(0:Int)))||x1.cD) (6)).bind fun xx=>match xx with
      | .inl Zj=>
        (bif (!(x1).cD) then
        gO ((decide (((x1.fS).length:Int)=(1:Int)))=true→0≤(0:Int)∧(0:Int)<((x1.fS).length:Int)) (
        (bif ((decide (((x1.fS).length:Int)=(1:Int)))&&(decide (((idx (x1.fS) (0:Int)).toNat:Int)<(128:Int)))) then
        some (.inr ((.inl (x1.fS)),dP))
        else
        ((tS ((x1.fS).length:Int) false).bind fun (x_20:(List UInt8))=>
        gO (x_20.length+(x1.fS).length≤9223372036854775807) (
        some (.inr ((.inl (x_20++x1.fS)),dP))))))
        else
        some (.inl (.L1 ([]:(List UInt8)) (0) (dP.fn))))
      | .inr Tb=>
        some (.inr (.inr Tb,dP)))
    | .inr Ai=>
      some (.inr (.inr Ai,dP)))
  | (.inr e_5,dP)=>
    some (.inr (.inr e_5,dP)))
 | .L1 v7 sA jF=>
  (bif (decide (sA<((x1.fL).length:Int))) then
  gO (0≤sA∧sA<((x1.fL).length:Int)) (
  gO (bA (dX+(1:Int))) (
  ((self (idx (x1.fL) sA) (dX+(1:Int)) (⟨jF⟩:counter)).bind fun xx=>match xx with
  | (.inl Df,sF)=>
    gO ((v7.length+Df.length)*1≤140737488355328) (
    gO (bA (sA+(1:Int))) (
    some (.inl (.L1 (v7++Df) (sA+(1:Int)) (sF.fn)))))
  | (.inr Tc,sF)=>
    some (.inr (.inr Tc,sF)))))
  else
  ((tS (v7.length:Int) true).bind fun (yl:(List UInt8))=>
  gO (yl.length+v7.length≤9223372036854775807) (
  some (.inr ((.inl (yl++v7)),(⟨jF⟩:counter))))))
noncomputable def uA (self:Item→Int→counter→Option (((List UInt8)⊕Int)×counter)) (x1:Item) (dX:Int) (c0:counter):Option (((List UInt8)⊕Int)×counter):=gU (eM self x1 dX c0) .S
theorem zQ (self:Item→Int→counter→Option (((List UInt8)⊕Int)×counter)) (fP:∀ (y0:Item) (y1:Int) (y2:counter) (rr:(((List UInt8)⊕Int)×counter)),self y0 y1 y2=some rr→Spec Tryz.prog 82 [.aK 0 0, .d (.agg (dr y0)),pI y1] (aj [.var [pI (y2.fn)]]) 1 (kF (match rr.1 with | .inl x=>Out.ret (pS x) | .inr e=>Out.mZ (.d (.iface 145 (.agg [.val (.int .i64 e)])))) (aj [.var [pI ((rr.2).fn)]]) 1)) (x1:Item) (dX:Int) (c0:counter) (r:(((List UInt8)⊕Int)×counter)) (h:uA self x1 dX c0=some r):Spec Tryz.prog 82 [.aK 0 0, .d (.agg (dr x1)),pI dX] (aj [.var [pI (c0.fn)]]) 1 (kF (match r.1 with | .inl x=>Out.ret (pS x) | .inr e=>Out.mZ (.d (.iface 145 (.agg [.val (.int .i64 e)])))) (aj [.var [pI ((r.2).fn)]]) 1):=by
 refine Spec.pE Tryz.func82 rfl (by simp [Tryz.ntmps82]) bL ?_
 rw [Tryz.ntmps82,TT.Va]
 refine QW.view (s':=⟨aF [(0, .aK 0 0),(1, .d (.agg (dr x1))),(2,pI dX)],aj [.var [pI (c0.fn)]],1,[]⟩) (View.l8 bL (by rfl)) bL ?_
 replace h:=cG h
 obtain ⟨_,h⟩:=h
 obtain ⟨c8,rfl,h9⟩:=aQ h;replace h:=h9;clear h9;rw [eM] at h
 refine lJ ?_
 refine XK.fz (some 4) rfl rfl (eJ (ds:=dr x1) rfl rfl rfl rfl rfl ?_)
 refine xz 6 (pS ([]:List UInt8)) ?_
 refine lJ ?_
 refine xm 10 (.aK 0 0) ?_
 refine xm 11 (pI dX) ?_
 obtain ⟨⟨m3 | e_5,dP⟩,fy,h⟩:=bG h
 ·refine XK.fr (p:= .tuple []) (H2:=cE _ 0 (some (.var [pI (dP.fn)]))) (lF:=1) (some 12) rfl rfl (cg [0] rfl rfl TT.yV (mE dX c0 _ fy) rfl rfl (by decide) (And.intro rfl trivial) bL) rfl rfl rfl ?_
  refine XK.nz ?_
  refine lJ ?_
  refine xs 13 rfl (aO rfl TT.jE (by decide) rfl ?_)
  refine xs 14 rfl (aC (d:= .val (sV (x1.fS))) rfl TT.fF rfl (di.one) ?_)
  refine xs 15 rfl (qk (a:=x1.fS) (b:=([]:List UInt8)) rfl rfl rfl ?_)
  refine xm 16 (pB (x1.fS==([]:List UInt8))) ?_
  refine xg 17 (.d (.cr ((dr x1).drop 0))) rfl rfl (fun hg=>aO rfl TT.vz (by decide) rfl g3) ?_
  refine xg 18 (pB (x1.cD)) rfl rfl (fun hg=>aC (d:= .val (.bool (x1.cD))) rfl TT.GI rfl (di.one) g3) ?_
  refine xg 19 (pB (!(x1).cD)) rfl rfl (fun hg=>mC rfl rfl g3) ?_
  refine xs 20 rfl (gL rfl rfl rfl rfl (fun _=>rfl) (fun hb=>by rw [hb];rfl) ?_)
  obtain ⟨LZ | Ai,oo,h⟩:=bG h
  ·refine XK.fr (p:= .tuple []) (H2:=_) (lF:=1) (some 21) rfl rfl (cg [] rfl rfl TT.fE (dH ((x1.fS==([]:List UInt8))||(!(x1).cD)) (6) _ oo) rfl rfl (by decide) trivial bL) rfl rfl rfl ?_
   refine XK.nz ?_
   refine lJ ?_
   refine xs 22 rfl (aO rfl TT.mQ (by decide) rfl ?_)
   refine xs 23 rfl (aC (d:= .slice ((x1.fL).map bu)) rfl TT.tu rfl (di.one) ?_)
   refine xs 24 rfl (cM (en:=bu) (l:=x1.fL) rfl TT.qX rfl ?_)
   refine xs 25 rfl (ej (a:=((x1.fL).length:Int)) (b:=(0:Int)) rfl rfl rfl ?_)
   refine xm 26 (pB (decide (((x1.fL).length:Int)=(0:Int)))) ?_
   refine xg 27 (.d (.cr ((dr x1).drop 0))) rfl rfl (fun hg=>aO rfl TT.vz (by decide) rfl g3) ?_
   refine xg 28 (pB (x1.cD)) rfl rfl (fun hg=>aC (d:= .val (.bool (x1.cD))) rfl TT.GI rfl (di.one) g3) ?_
   refine xs 29 rfl (gL rfl rfl rfl rfl (fun _=>rfl) (fun hb=>by rw [hb];rfl) ?_)
   obtain ⟨Zj | Tb,rO,h⟩:=bG h
   ·refine XK.fr (p:= .tuple []) (H2:=_) (lF:=1) (some 30) rfl rfl (cg [] rfl rfl TT.fE (dH ((decide (((x1.fL).length:Int)=(0:Int)))||x1.cD) (6) _ rO) rfl rfl (by decide) trivial bL) rfl rfl rfl ?_
    refine XK.nz ?_
    refine QW.seq ?_
    refine QW.seq ?_
    refine QW.view (s':=⟨aF [(0, .aK 0 0),(2,pI dX),(4, .d (.cr (dr x1)))],aj [.var [pI (dP.fn)]],1,[]⟩) (View.mk 1 [0] _ _ _ rfl rfl (by decide) (iC (iC (iC trivial))) (And.intro rfl trivial) rfl bL rfl) bL ?_
    refine Fq ?_
    refine xs 31 rfl (aO rfl TT.vz (by decide) rfl ?_)
    refine xs 32 rfl (aC (d:= .val (.bool (x1.cD))) rfl TT.GI rfl (di.one) ?_)
    refine xs 33 rfl (mC rfl rfl ?_)
    refine XK.nz ?_
    refine QW.cond (t:=(!(x1).cD)) rfl bL (fun qy=>?_) (fun qy=>?_)
    ·replace h:=eX h qy
     refine QW.seq ?_
     refine lJ ?_
     refine xs 34 rfl (aO rfl TT.jE (by decide) rfl ?_)
     refine xs 35 rfl (aC (d:= .val (sV (x1.fS))) rfl TT.fF rfl (di.one) ?_)
     refine xs 36 rfl (gB (l:=x1.fS) rfl TT.bZ rfl ?_)
     refine xs 37 rfl (ej (a:=((x1.fS).length:Int)) (b:=(1:Int)) rfl rfl rfl ?_)
     refine xm 38 (pB (decide (((x1.fS).length:Int)=(1:Int)))) ?_
     refine xg 39 (.d (.cr ((dr x1).drop 1))) rfl rfl (fun hg=>aO rfl TT.jE (by decide) rfl g3) ?_
     refine xg 40 (pS (x1.fS)) rfl rfl (fun hg=>aC (d:= .val (sV (x1.fS))) rfl TT.fF rfl (di.one) g3) ?_
     obtain ⟨sH,h⟩:=gG h
     refine xg 41 (.d (.val (.int .u8 ((idx (x1.fS) (0:Int)).toNat:Int)))) rfl rfl (fun hg=>lI (l:=x1.fS) (i:=(0:Int)) rfl TT.bZ TT.nL rfl rfl (sH (Fo hg)) g3) ?_
     refine xg 42 (pB (decide (((idx (x1.fS) (0:Int)).toNat:Int)<(128:Int)))) rfl rfl (fun hg=>cK (a:=((idx (x1.fS) (0:Int)).toNat:Int)) (b:=(128:Int)) rfl rfl rfl g3) ?_
     refine xs 43 rfl (gK rfl rfl rfl rfl (fun hb=>by rw [hb];rfl) (fun _=>rfl) ?_)
     refine XK.nz ?_
     refine QW.cond (t:=((decide (((x1.fS).length:Int)=(1:Int)))&&(decide (((idx (x1.fS) (0:Int)).toNat:Int)<(128:Int))))) rfl bL (fun Ce=>?_) (fun Ce=>?_)
     ·replace h:=eX h Ce
      refine lJ ?_
      refine xs 44 rfl (aO rfl TT.jE (by decide) rfl ?_)
      refine xs 45 rfl (aC (d:= .val (sV (x1.fS))) rfl TT.fF rfl (di.one) ?_)
      refine xz 6 (pS (x1.fS)) ?_
      refine QW.ret bL (eC (eC ?_))
      obtain rfl:=sG h
      exact fY.one (s':=⟨aF [(6,pS (x1.fS))],aj [.var [pI (dP.fn)]],1,[]⟩) (.inr rfl) (View.mk 1 [0] _ _ _ rfl rfl (by decide) (iC trivial) (And.intro rfl trivial) rfl bL rfl) rfl bL (fun i hi=>dR [.var [pI (dP.fn)]] [] i hi) rfl (by simp [HO.bf,HO.bK,PV.bf,PV.bK,cy,bB]) (aG.tmp rfl) (by simp [PV.bf,PV.bK,cy])
     ·replace h:=eY h Ce
      refine QW.skip bL (aY ?_)
      refine QW.seq ?_
      refine QW.region bL (PW.kC (id:=7) dh (M:=_) rfl (by kernel_rfl) ?_)
      refine RQ.st (some 46) rfl rfl (aO rfl TT.jE (by decide) rfl ⟨⟨rfl,rfl⟩,?_⟩)
      refine RQ.st (some 47) rfl rfl (aC (d:= .val (sV (x1.fS))) rfl TT.fF rfl (di.one) ⟨⟨rfl,rfl⟩,?_⟩)
      refine RQ.st (some 48) rfl rfl (gB (l:=x1.fS) rfl TT.bZ rfl ⟨⟨rfl,rfl⟩,?_⟩)
      obtain ⟨x_20,yY,h⟩:=bG h
      refine RQ.st (some 49) rfl rfl (aA rfl rfl TT.ET rfl (BJ ((x1.fS).length:Int) false _ yY) ⟨⟨rfl,rfl⟩,?_⟩)
      refine RQ.st (some 50) rfl rfl (aO rfl TT.jE (by decide) rfl ⟨⟨rfl,rfl⟩,?_⟩)
      refine RQ.st (some 51) rfl rfl (aC (d:= .val (sV (x1.fS))) rfl TT.fF rfl (di.one) ⟨⟨rfl,rfl⟩,?_⟩)
      obtain ⟨Td,h⟩:=gG h
      refine RQ.st (some 52) rfl rfl (ld (a:=x_20) (b:=x1.fS) rfl rfl rfl Td ⟨⟨rfl,rfl⟩,?_⟩)
      refine RQ.st (some 6) rfl rfl (cq (v:=pS (x_20++x1.fS)) rfl rfl ⟨⟨rfl,rfl⟩,?_⟩)
      refine RQ.nil (aY ?_)
      refine QW.ret bL (eC ?_)
      obtain rfl:=sG h
      exact fY.one (s':=⟨aF [(6,pS (x_20++x1.fS))],aj [.var [pI (dP.fn)]],1,[]⟩) (.inr rfl) (View.mk 1 [0] _ _ _ rfl rfl (by decide) (iC trivial) (And.intro rfl trivial) rfl bL rfl) rfl bL (fun i hi=>dR [.var [pI (dP.fn)]] [] i hi) rfl (by simp [HO.bf,HO.bK,PV.bf,PV.bK,cy,bB]) (aG.tmp rfl) (by simp [PV.bf,PV.bK,cy])
    ·replace h:=eY h qy
     refine QW.skip bL (aY ?_)
     refine lJ ?_
     refine xz 7 (.full (([]:(List UInt8)).map U)) ?_
     refine QW.seq ?_
     refine lJ ?_
     refine xs 53 rfl (aO rfl TT.mQ (by decide) rfl ?_)
     refine xs 54 rfl (aC (d:= .slice ((x1.fL).map bu)) rfl TT.tu rfl (di.one) ?_)
     refine xs 55 rfl (cM (en:=bu) (l:=x1.fL) rfl TT.qX rfl ?_)
     refine xm 56 (pI (0)) ?_
     refine XK.nz ?_
     refine QW.block ?_
     refine QW.loop (fun k σ=>∃ v7:(List UInt8),∃ sA:Int,∃ jF:Int,k≤c8∧run (eM self x1 dX c0) k (.L1 v7 sA jF)=some r∧σ=⟨aF [(0, .aK 0 0),(2,pI dX),(7, .own 1 (v7.map U)),(54, .d (.slice ((x1.fL).map bu))),(55,pI ((x1.fL).length:Int)),(56,pI sA)],aj [.var [pI jF], .spare 1 v7.length],2,[]⟩) c8 bL ⟨⟨aF [(0, .aK 0 0),(2,pI dX),(7, .own 1 (([]:(List UInt8)).map U)),(54, .d (.slice ((x1.fL).map bu))),(55,pI ((x1.fL).length:Int)),(56,pI (0))],aj [.var [pI (dP.fn)], .spare 1 ([]:(List UInt8)).length],2,[]⟩,View.trans (View.buf 7 1 rfl bL) (View.mk 2 [0,1] _ _ _ rfl rfl (by decide) (iC (iC (iC (iC (iC (iC trivial)))))) (And.intro rfl (And.intro rfl trivial)) rfl bL rfl),([]:(List UInt8)),0,dP.fn,Nat.le_refl _,jG h,rfl⟩ ?_
     rintro aaZ _ ⟨v7,sA,jF,aa0,h,rfl⟩
     obtain ⟨Zk,rfl,h9⟩:=aQ h;replace h:=h9;clear h9;rw [eM] at h
     refine lJ ?_
     refine xs 57 rfl (cK (a:=sA) (b:=((x1.fL).length:Int)) rfl rfl rfl ?_)
     refine XK.nz ?_
     refine QW.seq ?_
     refine QW.cond (t:=(decide (sA<((x1.fL).length:Int)))) rfl bL (fun Cf=>?_) (fun Cf=>?_)
     ·replace h:=eX h Cf
      refine QW.skip bL (aY ?_)
      refine QW.seq ?_
      refine QW.block ?_
      refine lJ ?_
      obtain ⟨GO,h⟩:=gG h
      refine xs 58 rfl (bN (l:=x1.fL) (i:=sA) rfl TT.Ad kR rfl rfl GO ?_)
      refine xs 59 rfl (aC (d:= .agg (dr (idx (x1.fL) sA))) rfl TT.ew rfl (⟨by simp [dr],rfl⟩) ?_)
      refine xs 9 rfl (bP (l:=[pB false,pS ([]:List UInt8), .full (([]:(List Item)).map bu)]) rfl TT.mm rfl rfl ?_)
      refine XK.st none rfl rfl (bw (l':=[pB ((idx (x1.fL) sA).cD),pS ((idx (x1.fL) sA).fS), .d (.slice (((idx (x1.fL) sA).fL).map bu))]) rfl TT.ew rfl rfl rfl rfl rfl rfl (by simp) rfl ?_)
      refine XK.nz ?_
      refine Fq ?_
      refine xm 60 (.own 1 (v7.map U)) ?_
      refine xm 61 (.aK 0 0) ?_
      refine XK.as (some 62) rfl rfl (bx (v:= .agg [pB ((idx (x1.fL) sA).cD),pS ((idx (x1.fL) sA).fS), .d (.slice (((idx (x1.fL) sA).fL).map bu))]) rfl TT.ew rfl rfl ⟨⟨by simp,by simp⟩,rfl⟩ ⟨.d (.agg (dr (idx (x1.fL) sA))),(iy.cW rfl),?_⟩)
      refine xm 63 (pI dX) ?_
      obtain ⟨yh,h⟩:=gG h
      refine xs 64 rfl (bY (a:=dX) (b:=(1:Int)) rfl rfl rfl yh ?_)
      obtain ⟨⟨Df | Tc,sF⟩,yX,h⟩:=bG h
      ·refine XK.fr (p:=pS Df) (H2:=cE _ 0 (some (.var [pI (sF.fn)]))) (lF:=3) (some 65) rfl rfl (cg [0] rfl rfl TT.yU (fP (idx (x1.fL) sA) (dX+(1:Int)) (⟨jF⟩:counter) _ yX) rfl rfl (by decide) (And.intro rfl trivial) bL) rfl rfl rfl ?_
       obtain ⟨L6,h⟩:=gG h
       refine xs 66 rfl (iJ (en:=U) (l:=v7) (l2:=Df) rfl TT.e9 TT.bZ rfl bH rfl rfl rfl L6 (by decide) ?_)
       refine xa 7 (.own 3 ((v7++Df).map U)) ?_
       refine XK.nil (gC (aY ?_))
       refine Fq ?_
       obtain ⟨EZ,h⟩:=gG h
       refine xs 67 rfl (bY (a:=sA) (b:=(1:Int)) rfl rfl rfl EZ ?_)
       refine xm 56 (pI (sA+(1:Int))) ?_
       refine XK.nz ?_
       exact ⟨Zk,by omega,⟨aF [(0, .aK 0 0),(2,pI dX),(7, .own 1 ((v7++Df).map U)),(54, .d (.slice ((x1.fL).map bu))),(55,pI ((x1.fL).length:Int)),(56,pI (sA+(1:Int)))],aj [.var [pI (sF.fn)], .spare 1 (v7++Df).length],2,[]⟩,View.mk 2 [0,3] _ _ _ rfl rfl (by decide) (iC (iC (iC (iC (iC (iC trivial)))))) (And.intro rfl (And.intro rfl trivial)) rfl bL rfl,(v7++Df),(sA+(1:Int)),sF.fn,by omega,jG h,rfl⟩
      ·refine XK.fp (p:= .d (.iface 145 (.agg [.val (.int .i64 Tc)]))) (H2:=cE _ 0 (some (.var [pI (sF.fn)]))) (lF:=3) rfl (cg [0] rfl rfl TT.yU (fP (idx (x1.fL) sA) (dX+(1:Int)) (⟨jF⟩:counter) _ yX) rfl rfl (by decide) (And.intro rfl trivial) bL) rfl rfl rfl (Ks (sx (sx (Ks (sx ?_)))))
       obtain rfl:=sG h
       exact fY.mZ (s':=⟨aF [],aj [.var [pI (sF.fn)]],1,[]⟩) (View.mk 1 [0] _ _ _ rfl rfl (by decide) trivial (And.intro rfl trivial) rfl bL rfl) rfl bL (fun i hi=>dR [.var [pI (sF.fn)]] [] i hi) rfl (by simp [HO.bf,HO.bK,PV.bf,PV.bK,cy,bB])
     ·replace h:=eY h Cf
      refine QW.exit bL (eA (eA (jY (aY ?_))))
      refine QW.seq ?_
      refine QW.region bL (PW.kC (id:=14) dh (M:=_) rfl (by kernel_rfl) ?_)
      refine RQ.st (some 68) rfl rfl (au (v:= .own 1 (v7.map U)) rfl rfl ⟨⟨rfl,rfl⟩,?_⟩)
      refine RQ.st (some 69) rfl rfl (cM (en:=U) (l:=v7) rfl TT.bC rfl ⟨⟨rfl,rfl⟩,?_⟩)
      obtain ⟨yl,N2,h⟩:=bG h
      refine RQ.st (some 70) rfl rfl (aA rfl rfl TT.ET rfl (BJ (v7.length:Int) true _ N2) ⟨⟨rfl,rfl⟩,?_⟩)
      refine RQ.st (some 71) rfl rfl (au (v:= .own 1 (v7.map U)) rfl rfl ⟨⟨rfl,rfl⟩,?_⟩)
      refine RQ.st (some 72) rfl rfl (nK (l:=v7) rfl TT.bC TT.dV TT.bZ rfl ⟨⟨rfl,rfl⟩,?_⟩)
      obtain ⟨Te,h⟩:=gG h
      refine RQ.st (some 73) rfl rfl (ld (a:=yl) (b:=v7) rfl rfl rfl Te ⟨⟨rfl,rfl⟩,?_⟩)
      refine RQ.st (some 6) rfl rfl (cq (v:=pS (yl++v7)) rfl rfl ⟨⟨rfl,rfl⟩,?_⟩)
      refine RQ.nil (aY ?_)
      refine QW.ret bL ?_
      obtain rfl:=sG h
      exact fY.one (s':=⟨aF [(6,pS (yl++v7))],aj [.var [pI jF]],1,[]⟩) (.inr rfl) (View.mk 1 [0] _ _ _ rfl rfl (by decide) (iC trivial) (And.intro rfl trivial) rfl bL rfl) rfl bL (fun i hi=>dR [.var [pI jF]] [] i hi) rfl (by simp [HO.bf,HO.bK,PV.bf,PV.bK,cy,bB]) (aG.tmp rfl) (by simp [PV.bf,PV.bK,cy])
   ·refine XK.fp (p:= .d (.iface 145 (.agg [.val (.int .i64 Tb)]))) (H2:=_) (lF:=1) rfl (cg [] rfl rfl TT.fE (dH ((decide (((x1.fL).length:Int)=(0:Int)))||x1.cD) (6) _ rO) rfl rfl (by decide) trivial bL) rfl rfl rfl (sx ?_)
    obtain rfl:=sG h
    exact fY.mZ (s':=⟨aF [],aj [.var [pI (dP.fn)]],1,[]⟩) (View.mk 1 [0] _ _ _ rfl rfl (by decide) trivial (And.intro rfl trivial) rfl bL rfl) rfl bL (fun i hi=>dR [.var [pI (dP.fn)]] [] i hi) rfl (by simp [HO.bf,HO.bK,PV.bf,PV.bK,cy,bB])
  ·refine XK.fp (p:= .d (.iface 145 (.agg [.val (.int .i64 Ai)]))) (H2:=_) (lF:=1) rfl (cg [] rfl rfl TT.fE (dH ((x1.fS==([]:List UInt8))||(!(x1).cD)) (6) _ oo) rfl rfl (by decide) trivial bL) rfl rfl rfl (sx ?_)
   obtain rfl:=sG h
   exact fY.mZ (s':=⟨aF [],aj [.var [pI (dP.fn)]],1,[]⟩) (View.mk 1 [0] _ _ _ rfl rfl (by decide) trivial (And.intro rfl trivial) rfl bL rfl) rfl bL (fun i hi=>dR [.var [pI (dP.fn)]] [] i hi) rfl (by simp [HO.bf,HO.bK,PV.bf,PV.bK,cy,bB])
 ·refine XK.fp (p:= .d (.iface 145 (.agg [.val (.int .i64 e_5)]))) (H2:=cE _ 0 (some (.var [pI (dP.fn)]))) (lF:=1) rfl (cg [0] rfl rfl TT.yV (mE dX c0 _ fy) rfl rfl (by decide) (And.intro rfl trivial) bL) rfl rfl rfl (sx ?_)
  obtain rfl:=sG h
  exact fY.mZ (s':=⟨aF [],aj [.var [pI (dP.fn)]],1,[]⟩) (View.mk 1 [0] _ _ _ rfl rfl (by decide) trivial (And.intro rfl trivial) rfl bL rfl) rfl bL (fun i hi=>dR [.var [pI (dP.fn)]] [] i hi) rfl (by simp [HO.bf,HO.bK,PV.bf,PV.bK,cy,bB])
noncomputable def ig:Nat→Item→Int→counter→Option (((List UInt8)⊕Int)×counter)
 | 0=>fun _ _ _=>none
 | n+1=>fun y0 y1 y2=>uA (ig n) y0 y1 y2
theorem sI:∀ (n:Nat) (y0:Item) (y1:Int) (y2:counter) (rr:(((List UInt8)⊕Int)×counter)),ig n y0 y1 y2=some rr→Spec Tryz.prog 82 [.aK 0 0, .d (.agg (dr y0)),pI y1] (aj [.var [pI (y2.fn)]]) 1 (kF (match rr.1 with | .inl x=>Out.ret (pS x) | .inr e=>Out.mZ (.d (.iface 145 (.agg [.val (.int .i64 e)])))) (aj [.var [pI ((rr.2).fn)]]) 1)
 | 0,_,_,_,_,h=>by cases h
 | n+1,y0,y1,y2,rr,h=>zQ (ig n) (sI n) y0 y1 y2 rr h
noncomputable def qB (y0:Item) (y1:Int) (y2:counter):Option (((List UInt8)⊕Int)×counter):=wX (fun n=>ig n y0 y1 y2)
theorem tT (y0:Item) (y1:Int) (y2:counter) (rr:(((List UInt8)⊕Int)×counter)) (h:qB y0 y1 y2=some rr):Spec Tryz.prog 82 [.aK 0 0, .d (.agg (dr y0)),pI y1] (aj [.var [pI (y2.fn)]]) 1 (kF (match rr.1 with | .inl x=>Out.ret (pS x) | .inr e=>Out.mZ (.d (.iface 145 (.agg [.val (.int .i64 e)])))) (aj [.var [pI ((rr.2).fn)]]) 1):=by
 obtain ⟨n,hn⟩:=nY h
 exact sI n y0 y1 y2 rr hn
noncomputable def lN (x0:Item):Option ((List UInt8)×Int):=
  ((qB x0 (0) (⟨0⟩:counter)).bind fun xx=>match xx with
  | (.inl m3,dP)=>
    some (m3,0)
  | (.inr e_5,dP)=>
    some (([]:List UInt8),e_5))
theorem uS (x0:Item) (r:((List UInt8)×Int)) (h:lN x0=some r):bE Tryz.prog 52 [.agg (dr x0)] (.tuple [.val (sV (r.1)), .val (.int .i64 (r.2))]):=by
 refine bE.ya Tryz.func52 rfl (by simp [Tryz.ntmps52]) TT.GH ?_
 rw [Tryz.ntmps52,TT.U4]
 refine QW.view (s':=⟨aF [(0, .d (.agg (dr x0)))],aj [],0,[]⟩) (View.init (by rfl)) zL ?_
 unfold lN at h
 refine sR ?_
 refine XK.fz (some 1) rfl rfl (eJ (ds:=dr x0) rfl rfl rfl rfl rfl ?_)
 refine xa 2 (pS ([]:List UInt8)) ?_
 refine xs 3 rfl (bP (l:=[pI (0)]) rfl TT.yd rfl rfl ?_)
 refine XK.nz ?_
 refine sR ?_
 refine XK.df (L:=[.aK 0 0]) none rfl rfl rfl rfl rfl ?_
 refine XK.nz ?_
 refine sR ?_
 refine xs 4 rfl (bP (l:=[pI (0)]) rfl TT.GJ rfl rfl ?_)
 refine xs 5 rfl (aC (d:= .agg (dr x0)) rfl TT.ew rfl (⟨by simp [dr],rfl⟩) ?_)
 obtain ⟨⟨m3 | e_5,dP⟩,fy,h⟩:=bO h
 ·refine XK.fr (p:=pS m3) (H2:=cE _ 1 (some (.var [pI (dP.fn)]))) (lF:=2) (some 6) rfl rfl (cg [1] rfl rfl TT.yU (tT x0 (0) (⟨0⟩:counter) _ fy) rfl rfl (by decide) (And.intro rfl trivial) bL) rfl rfl rfl ?_
  refine xz 2 (pS m3) ?_
  refine sR ?_
  refine xm 7 (pS m3) ?_
  refine xa 2 (pS m3) ?_
  refine XK.st none rfl rfl (bw (l':=[pI (0)]) rfl TT.kr rfl rfl rfl rfl rfl rfl (by simp) rfl ?_)
  refine XK.nz ?_
  refine QW.ret zL ?_
  obtain rfl:=sO h
  exact .inl (vu.more [pS m3,pI (0)] 0 (pI (0)) (pI (0)) none rfl rfl (q9 0) rfl rfl rfl (And.intro (aG.tmp rfl) (And.intro (aG.cell rfl rfl TT.kr ⟨⟨by simp,by simp⟩,rfl⟩) trivial)) rfl)
 ·refine XK.fp (p:= .d (.iface 145 (.agg [.val (.int .i64 e_5)]))) (H2:=cE _ 1 (some (.var [pI (dP.fn)]))) (lF:=2) rfl (cg [1] rfl rfl TT.yU (tT x0 (0) (⟨0⟩:counter) _ fy) rfl rfl (by decide) (And.intro rfl trivial) bL) rfl rfl rfl (sx ?_)
  obtain rfl:=sO h
  exact .inl (vu.more [pS ([]:List UInt8),pI e_5] 0 (pI (0)) (pI e_5) (some (.iface 145 (.agg [.val (.int .i64 e_5)]))) rfl rfl (ri 0 e_5) rfl rfl (⟨_,rfl,rfl⟩) (And.intro (aG.tmp rfl) (And.intro (aG.cell rfl rfl TT.kr ⟨⟨by simp,by simp⟩,rfl⟩) trivial)) rfl)
inductive nF where
 | S
 | L1 (v8:Int)
noncomputable def cY (v0:(List UInt8)) (f1:UInt8→Option Bool):nF→Option (nF⊕Int)
 | .S=>
  some (.inl (.L1 (0)))
 | .L1 v8=>
  (bif (decide (v8<(v0.length:Int))) then
  gO (0≤v8∧v8<(v0.length:Int)) (
  ((f1 (idx v0 v8)).bind fun (x_4:Bool)=>
  (bif x_4 then
  some (.inr v8)
  else
  gO (bA (v8+(1:Int))) (
  some (.inl (.L1 (v8+(1:Int))))))))
  else
  some (.inr (-1)))
noncomputable def kJ (v0:(List UInt8)) (f1:UInt8→Option Bool):Option Int:=gU (cY v0 f1) .S
theorem sB (v0:(List UInt8)) (f1:UInt8→Option Bool) (me:Nat) (ny:List D) (Iz:aN Tryz.prog me=true) (IA:∀ y0 r,f1 y0=some r→bE Tryz.prog me ([.val (.int .u8 (y0.toNat:Int))]++ny) (.val (.bool r))) (r:Int) (h:kJ v0 f1=some r):bE Tryz.prog 109 [.slice (v0.map U), .gT me ny] (.val (.int .i64 r)):=by
 refine bE.aU Tryz.func109 rfl (by simp [Tryz.ntmps109]) ?_
 rw [Tryz.ntmps109,TT.SO]
 refine QW.view (s':=⟨aF [(0, .d (.slice (v0.map U))),(1, .d (.gT me ny))],aj [],0,[]⟩) (View.init (by rfl)) zL ?_
 replace h:=cG h
 obtain ⟨_,h⟩:=h
 obtain ⟨c8,rfl,h9⟩:=aQ h;replace h:=h9;clear h9;rw [cY] at h
 refine sR ?_
 refine xz 4 (pI (0)) ?_
 refine QW.seq ?_
 refine sR ?_
 refine xm 6 (.d (.slice (v0.map U))) ?_
 refine xs 7 rfl (cM (en:=U) (l:=v0) rfl TT.bC rfl ?_)
 refine xm 8 (pI (0)) ?_
 refine XK.nz ?_
 refine QW.block ?_
 refine QW.loop (fun k σ=>∃ v8:Int,k≤c8∧run (cY v0 f1) k (.L1 v8)=some r∧σ=⟨aF [(0, .d (.slice (v0.map U))),(1, .d (.gT me ny)),(7,pI (v0.length:Int)),(8,pI v8)],aj [],0,[]⟩) c8 zL ⟨⟨aF [(0, .d (.slice (v0.map U))),(1, .d (.gT me ny)),(7,pI (v0.length:Int)),(8,pI (0))],aj [],0,[]⟩,View.mk 0 [] _ _ _ rfl rfl (by decide) (iC (iC (iC (iC trivial)))) trivial rfl zL rfl,0,Nat.le_refl _,jG h,rfl⟩ ?_
 rintro pZ _ ⟨v8,p4,h,rfl⟩
 obtain ⟨k_1,rfl,h9⟩:=aQ h;replace h:=h9;clear h9;rw [cY] at h
 refine sR ?_
 refine xs 9 rfl (cK (a:=v8) (b:=(v0.length:Int)) rfl rfl rfl ?_)
 refine XK.nz ?_
 refine QW.seq ?_
 refine QW.cond (t:=(decide (v8<(v0.length:Int)))) rfl zL (fun cv=>?_) (fun cv=>?_)
 ·replace h:=eX h cv
  refine QW.skip zL (aY ?_)
  refine QW.seq ?_
  refine QW.block ?_
  refine sR ?_
  refine xm 10 (pI v8) ?_
  refine xz 5 (pI v8) ?_
  refine sR ?_
  refine xm 11 (.d (.gT me ny)) ?_
  refine xm 12 (.d (.slice (v0.map U))) ?_
  refine xm 13 (pI v8) ?_
  obtain ⟨dP,h⟩:=gG h
  refine xs 14 rfl (bN (l:=v0) (i:=v8) rfl TT.eD bH rfl rfl dP ?_)
  refine xs 15 rfl (aC (d:= .val (.int .u8 ((idx v0 v8).toNat:Int))) rfl TT.kG rfl (di.one) ?_)
  obtain ⟨x_4,kZ,h⟩:=bG h
  refine xs 16 rfl (wW rfl rfl rfl Iz rfl (IA (idx v0 v8) _ kZ) ?_)
  refine XK.nz ?_
  refine QW.cond (t:=x_4) rfl zL (fun lO=>?_) (fun lO=>?_)
  ·replace h:=eX h lO
   refine sR ?_
   refine xm 17 (pI v8) ?_
   refine xz 4 (pI v8) ?_
   refine QW.ret zL (mO (eC (eC (mO (eC ?_)))))
   obtain rfl:=sG h
   exact Ends.one (.inr rfl) rfl (aG.tmp rfl) rfl rfl
  ·replace h:=eY h lO
   refine QW.skip zL (gC (aY ?_))
   refine rG ?_
   obtain ⟨mc,h⟩:=gG h
   refine xs 18 rfl (bY (a:=v8) (b:=(1:Int)) rfl rfl rfl mc ?_)
   refine xm 8 (pI (v8+(1:Int))) ?_
   refine XK.nz ?_
   exact ⟨k_1,by omega,⟨aF [(0, .d (.slice (v0.map U))),(1, .d (.gT me ny)),(7,pI (v0.length:Int)),(8,pI (v8+(1:Int)))],aj [],0,[]⟩,View.mk 0 [] _ _ _ rfl rfl (by decide) (iC (iC (iC (iC trivial)))) trivial rfl zL rfl,(v8+(1:Int)),by omega,jG h,rfl⟩
 ·replace h:=eY h cv
  refine QW.exit zL (eA (eA (jY (aY ?_))))
  refine sR ?_
  refine xz 4 (pI (-1)) ?_
  refine QW.ret zL ?_
  obtain rfl:=sG h
  exact Ends.one (.inr rfl) rfl (aG.tmp rfl) rfl rfl
noncomputable def fK (v0:(List UInt8)) (f1:UInt8→Option Bool):Option Bool:=
  ((kJ v0 f1).bind fun (x_1:Int)=>
  some (decide ((0:Int)≤x_1)))
theorem qC (v0:(List UInt8)) (f1:UInt8→Option Bool) (me:Nat) (ny:List D) (Iz:aN Tryz.prog me=true) (IA:∀ y0 r,f1 y0=some r→bE Tryz.prog me ([.val (.int .u8 (y0.toNat:Int))]++ny) (.val (.bool r))) (r:Bool) (h:fK v0 f1=some r):bE Tryz.prog 95 [.slice (v0.map U), .gT me ny] (.val (.bool r)):=by
 refine bE.aU Tryz.func95 rfl (by simp [Tryz.ntmps95]) ?_
 rw [Tryz.ntmps95,TT.Vd]
 refine QW.view (s':=⟨aF [(0, .d (.slice (v0.map U))),(1, .d (.gT me ny))],aj [],0,[]⟩) (View.init (by rfl)) zL ?_
 unfold fK at h
 refine sR ?_
 refine xz 4 (pB false) ?_
 refine sR ?_
 refine xm 5 (.d (.slice (v0.map U))) ?_
 refine xm 6 (.d (.gT me ny)) ?_
 obtain ⟨x_1,fy,h⟩:=bO h
 refine xs 7 rfl (aA rfl rfl TT.LP rfl (sB v0 f1 me ny Iz IA _ fy) ?_)
 refine xs 8 rfl (wU (a:=x_1) (b:=(0:Int)) rfl rfl rfl ?_)
 refine xz 4 (pB (decide ((0:Int)≤x_1))) ?_
 refine QW.ret zL ?_
 obtain rfl:=sO h
 exact Ends.one (.inr rfl) rfl (aG.tmp rfl) rfl rfl
noncomputable def oL (c0:UInt8):Option Bool:=
  some (decide ((15:Int)<(c0.toNat:Int)))
theorem Ea (c0:UInt8) (r:Bool) (h:oL c0=some r):bE Tryz.prog 96 [.val (.int .u8 (c0.toNat:Int))] (.val (.bool r)):=by
 refine bE.aU Tryz.func96 rfl (by simp [Tryz.ntmps96]) ?_
 rw [Tryz.ntmps96,TT.Ve]
 refine QW.view (s':=⟨aF [(0, .d (.val (.int .u8 (c0.toNat:Int))))],aj [],0,[]⟩) (View.init (by rfl)) zL ?_
 unfold oL at h
 refine sR ?_
 refine xz 2 (pB false) ?_
 refine sR ?_
 refine xm 3 (.d (.val (.int .u8 (c0.toNat:Int)))) ?_
 refine xs 4 rfl (oh (a:=(c0.toNat:Int)) (b:=(15:Int)) rfl rfl rfl ?_)
 refine xz 2 (pB (decide ((15:Int)<(c0.toNat:Int)))) ?_
 refine QW.ret zL ?_
 obtain rfl:=sO h
 exact Ends.one (.inr rfl) rfl (aG.tmp rfl) rfl rfl
noncomputable def pF (p0:(List UInt8)):Option Bool:=
  ((fK p0 (fun y0=>oL y0)).bind fun (x_1:Bool)=>
  some (!x_1))
theorem Ak (p0:(List UInt8)) (r:Bool) (h:pF p0=some r):bE Tryz.prog 74 [.slice (p0.map U)] (.val (.bool r)):=by
 refine bE.aU Tryz.func74 rfl (by simp [Tryz.ntmps74]) ?_
 rw [Tryz.ntmps74,TT.U7]
 refine QW.view (s':=⟨aF [(0, .d (.slice (p0.map U)))],aj [],0,[]⟩) (View.init (by rfl)) zL ?_
 unfold pF at h
 refine sR ?_
 refine xz 2 (pB false) ?_
 refine sR ?_
 refine xm 3 (.d (.slice (p0.map U))) ?_
 obtain ⟨x_1,fy,h⟩:=bO h
 refine xs 4 rfl (aA rfl rfl TT.NR rfl (qC p0 (fun y0=>oL y0) 96 [] TT.NS (fun y0 _ h=>Ea y0 _ h) _ fy) ?_)
 refine xs 5 rfl (mC rfl rfl ?_)
 refine xz 2 (pB (!x_1)) ?_
 refine QW.ret zL ?_
 obtain rfl:=sO h
 exact Ends.one (.inr rfl) rfl (aG.tmp rfl) rfl rfl
inductive Dg where
 | S
 | L1 (v3:(List UInt8)) (v4:Int)
noncomputable def jS (p0:(List UInt8)):Dg→Option (Dg⊕(List UInt8))
 | .S=>
  some (.inl (.L1 ([]:(List UInt8)) (0)))
 | .L1 v3 v4=>
  gO (bA (v4+(1:Int))) (
  (bif (decide ((v4+(1:Int))<(p0.length:Int))) then
  gO (0≤v4∧v4<(p0.length:Int)) (
  gO (bA (v4+(1:Int))) (
  gO (0≤(v4+(1:Int))∧(v4+(1:Int))<(p0.length:Int)) (
  gO ((v3.length+([((qw (idx p0 v4) (4:Int))||| (idx p0 (v4+(1:Int))))]:List UInt8).length)*1≤140737488355328) (
  gO (bA (v4+(2:Int))) (
  some (.inl (.L1 (v3++([((qw (idx p0 v4) (4:Int))||| (idx p0 (v4+(1:Int))))]:List UInt8)) (v4+(2:Int)))))))))
  else
  some (.inr v3)))
noncomputable def uT (p0:(List UInt8)):Option (List UInt8):=gU (jS p0) .S
theorem Al (p0:(List UInt8)) (r:(List UInt8)) (h:uT p0=some r):bE Tryz.prog 80 [.slice (p0.map U)] (.slice (r.map U)):=by
 refine bE.aU Tryz.func80 rfl (by simp [Tryz.ntmps80]) ?_
 rw [Tryz.ntmps80,TT.U9]
 refine QW.view (s':=⟨aF [(0, .d (.slice (p0.map U)))],aj [],0,[]⟩) (View.init (by rfl)) zL ?_
 replace h:=cG h
 obtain ⟨_,h⟩:=h
 obtain ⟨c8,rfl,h9⟩:=aQ h;replace h:=h9;clear h9;rw [jS] at h
 refine sR ?_
 refine xz 2 (.full (([]:(List UInt8)).map U)) ?_
 refine sR ?_
 refine xz 3 (.full (([]:(List UInt8)).map U)) ?_
 refine QW.seq ?_
 refine sR ?_
 refine xz 4 (pI (0)) ?_
 refine QW.block ?_
 refine QW.loop (fun k σ=>∃ v3:(List UInt8),∃ v4:Int,k≤c8∧run (jS p0) k (.L1 v3 v4)=some r∧σ=⟨aF [(0, .d (.slice (p0.map U))),(3, .own 0 (v3.map U)),(4,pI v4)],aj [.spare 1 v3.length],1,[]⟩) c8 zL ⟨⟨aF [(0, .d (.slice (p0.map U))),(3, .own 0 (([]:(List UInt8)).map U)),(4,pI (0))],aj [.spare 1 ([]:(List UInt8)).length],1,[]⟩,View.trans (View.buf 3 1 rfl zL) (View.mk 1 [0] _ _ _ rfl rfl (by decide) (iC (iC (iC trivial))) (And.intro rfl trivial) rfl zL rfl),([]:(List UInt8)),0,Nat.le_refl _,jG h,rfl⟩ ?_
 rintro pZ _ ⟨v3,v4,p4,h,rfl⟩
 obtain ⟨k_1,rfl,h9⟩:=aQ h;replace h:=h9;clear h9;rw [jS] at h
 refine QW.seq ?_
 refine sR ?_
 refine xm 5 (pI v4) ?_
 obtain ⟨xE,h⟩:=gG h
 refine xs 6 rfl (bY (a:=v4) (b:=(1:Int)) rfl rfl rfl xE ?_)
 refine xm 7 (.d (.slice (p0.map U))) ?_
 refine xs 8 rfl (cM (en:=U) (l:=p0) rfl TT.bC rfl ?_)
 refine xs 9 rfl (cK (a:=(v4+(1:Int))) (b:=(p0.length:Int)) rfl rfl rfl ?_)
 refine XK.nz ?_
 refine QW.cond (t:=(decide ((v4+(1:Int))<(p0.length:Int)))) rfl zL (fun dW=>?_) (fun dW=>?_)
 ·replace h:=eX h dW
  refine QW.skip zL (aY ?_)
  refine QW.seq ?_
  refine QW.block ?_
  refine QW.region zL (PW.tN (id:=5) dh (M:=_) rfl (by kernel_rfl) ?_)
  refine RK.st (some 12) rfl rfl (au (v:= .own 0 (v3.map U)) rfl rfl ?_)
  refine RK.st (some 13) rfl rfl (au (v:= .d (.slice (p0.map U))) rfl rfl ?_)
  refine RK.st (some 14) rfl rfl (au (v:=pI v4) rfl rfl ?_)
  obtain ⟨lY,h⟩:=gG h
  refine RK.st (some 15) rfl rfl (bN (l:=p0) (i:=v4) rfl TT.eD bH rfl rfl lY ?_)
  refine RK.st (some 16) rfl rfl (aC (d:= .val (.int .u8 ((idx p0 v4).toNat:Int))) rfl TT.kG rfl (di.one) ?_)
  refine RK.st (some 17) rfl rfl (Ql (p:=(idx p0 v4)) (c:=(4:Int)) rfl rfl rfl (by decide) ?_)
  refine RK.st (some 18) rfl rfl (au (v:= .d (.slice (p0.map U))) rfl rfl ?_)
  refine RK.st (some 19) rfl rfl (au (v:=pI v4) rfl rfl ?_)
  obtain ⟨mR,h⟩:=gG h
  refine RK.st (some 20) rfl rfl (bY (a:=v4) (b:=(1:Int)) rfl rfl rfl mR ?_)
  obtain ⟨lZ,h⟩:=gG h
  refine RK.st (some 21) rfl rfl (bN (l:=p0) (i:=(v4+(1:Int))) rfl TT.eD bH rfl rfl lZ ?_)
  refine RK.st (some 22) rfl rfl (aC (d:= .val (.int .u8 ((idx p0 (v4+(1:Int))).toNat:Int))) rfl TT.kG rfl (di.one) ?_)
  refine RK.st (some 23) rfl rfl (Sn (p:=(qw (idx p0 v4) (4:Int))) (q:=(idx p0 (v4+(1:Int)))) rfl rfl rfl ?_)
  refine RK.st (some 24) rfl rfl (dU (en:=U) (l:=([((qw (idx p0 v4) (4:Int))||| (idx p0 (v4+(1:Int))))]:List UInt8)) rfl TT.e9 bH rfl rfl (by decide) (by simp [dg,cQ,aB,dK,PV.cz,cu,aF,jz,iL,jP,bV,Value.oneCell']) ?_)
  obtain ⟨mc,h⟩:=gG h
  refine RK.st (some 25) rfl rfl (iJ (en:=U) (l:=v3) (l2:=([((qw (idx p0 v4) (4:Int))||| (idx p0 (v4+(1:Int))))]:List UInt8)) rfl TT.e9 TT.bC rfl bH rfl rfl rfl mc (by decide) ?_)
  refine RK.st (some 3) rfl rfl (cq (v:= .own 1 ((v3++([((qw (idx p0 v4) (4:Int))||| (idx p0 (v4+(1:Int))))]:List UInt8)).map U)) rfl rfl ?_)
  refine RK.nil ⟨gl.last 13 (by simp) (by simp) (by rfl),(gC (aY ?_))⟩
  refine QW.view (s':=⟨aF [(0, .d (.slice (p0.map U))),(3, .own 0 ((v3++([((qw (idx p0 v4) (4:Int))||| (idx p0 (v4+(1:Int))))]:List UInt8)).map U)),(4,pI v4)],aj [.spare 1 (v3++([((qw (idx p0 v4) (4:Int))||| (idx p0 (v4+(1:Int))))]:List UInt8)).length],1,[]⟩) (View.mk 1 [1] _ _ _ rfl rfl (by decide) (iC (iC (iC trivial))) (And.intro rfl trivial) rfl zL rfl) zL ?_
  refine rG ?_
  refine xm 10 (pI v4) ?_
  obtain ⟨rM,h⟩:=gG h
  refine xs 11 rfl (bY (a:=v4) (b:=(2:Int)) rfl rfl rfl rM ?_)
  refine xz 4 (pI (v4+(2:Int))) ?_
  exact ⟨k_1,by omega,⟨aF [(0, .d (.slice (p0.map U))),(3, .own 0 ((v3++([((qw (idx p0 v4) (4:Int))||| (idx p0 (v4+(1:Int))))]:List UInt8)).map U)),(4,pI (v4+(2:Int)))],aj [.spare 1 (v3++([((qw (idx p0 v4) (4:Int))||| (idx p0 (v4+(1:Int))))]:List UInt8)).length],1,[]⟩,View.mk 1 [0] _ _ _ rfl rfl (by decide) (iC (iC (iC trivial))) (And.intro rfl trivial) rfl zL rfl,(v3++([((qw (idx p0 v4) (4:Int))||| (idx p0 (v4+(1:Int))))]:List UInt8)),(v4+(2:Int)),by omega,jG h,rfl⟩
 ·replace h:=eY h dW
  refine QW.exit zL (eA (eA (jY (aY ?_))))
  refine sR ?_
  refine xm 26 (.own 0 (v3.map U)) ?_
  refine xz 2 (.own 0 (v3.map U)) ?_
  refine QW.ret zL ?_
  obtain rfl:=sG h
  exact Ends.one (.inr rfl) rfl (aG.tmp rfl) rfl rfl
noncomputable def tU (p0:(List UInt8)) (oc:Bool):Option ((List UInt8)×Int):=
  ((pF p0).bind fun (x_1:Bool)=>
  (bif ((!x_1)||(decide ((64:Int)<(p0.length:Int)))) then
  some (([]:List UInt8),2)
  else
  (((bif oc then
  some (2:UInt8)
  else
  some (0:UInt8)):Option UInt8).bind fun (v6:UInt8)=>
  (bif (decide (((p0.length:Int).tmod (2:Int))=(1:Int))) then
  ((q8 ([([(v6+(1:UInt8))]:List UInt8),p0]:List (List UInt8))).bind fun (x_6:(List UInt8))=>
  ((uT x_6).bind fun (x_8:(List UInt8))=>
  some (x_8,0)))
  else
  ((q8 ([([v6,(0:UInt8)]:List UInt8),p0]:List (List UInt8))).bind fun (x_10:(List UInt8))=>
  ((uT x_10).bind fun (x_12:(List UInt8))=>
  some (x_12,0)))))))
theorem IB (p0:(List UInt8)) (oc:Bool) (r:((List UInt8)×Int)) (h:tU p0 oc=some r):bE Tryz.prog 51 [.slice (p0.map U), .val (.bool oc)] (.tuple [.val (sV (r.1)), .val (.int .i64 (r.2))]):=by
 refine bE.aU Tryz.func51 rfl (by simp [Tryz.ntmps51]) ?_
 rw [Tryz.ntmps51,TT.U3]
 refine QW.view (s':=⟨aF [(0, .d (.slice (p0.map U))),(1,pB oc)],aj [],0,[]⟩) (View.init (by rfl)) zL ?_
 unfold tU at h
 refine sR ?_
 refine xa 4 (pS ([]:List UInt8)) ?_
 refine xz 5 (pI (0)) ?_
 refine QW.seq ?_
 refine sR ?_
 refine xm 7 (.d (.slice (p0.map U))) ?_
 obtain ⟨x_1,fy,h⟩:=bO h
 refine xs 8 rfl (aA rfl rfl TT.GF rfl (Ak p0 _ fy) ?_)
 refine xs 9 rfl (mC rfl rfl ?_)
 refine xm 10 (pB (!x_1)) ?_
 refine xg 11 (.d (.slice (p0.map U))) rfl rfl (fun hg=>au (v:= .d (.slice (p0.map U))) rfl rfl g3) ?_
 refine xg 12 (pI (p0.length:Int)) rfl rfl (fun hg=>cM (en:=U) (l:=p0) rfl TT.bC rfl g3) ?_
 refine xg 13 (pB (decide ((64:Int)<(p0.length:Int)))) rfl rfl (fun hg=>oh (a:=(p0.length:Int)) (b:=(64:Int)) rfl rfl rfl g3) ?_
 refine xs 14 rfl (gL rfl rfl rfl rfl (fun _=>rfl) (fun hb=>by rw [hb];rfl) ?_)
 refine XK.nz ?_
 refine QW.cond (t:=((!x_1)||(decide ((64:Int)<(p0.length:Int))))) rfl zL (fun dW=>?_) (fun dW=>?_)
 ·replace h:=bT h dW
  refine sR ?_
  refine xa 4 (pS ([]:List UInt8)) ?_
  refine xz 5 (pI (2)) ?_
  refine QW.ret zL (eC ?_)
  obtain rfl:=sO h
  exact Ends.more (.inr rfl) rfl (ps:=[pS ([]:List UInt8),pI (2)]) (And.intro (aG.tmp rfl) (And.intro (aG.tmp rfl) trivial)) rfl rfl
 ·replace h:=bF h dW
  refine QW.skip zL (aY ?_)
  refine sR ?_
  refine xz 6 (.d (.val (.int .u8 ((0:UInt8).toNat:Int)))) ?_
  obtain ⟨v6,hq,h⟩:=bO h
  refine QW.rH (fun s'=>s'=⟨aF [(0, .d (.slice (p0.map U))),(6, .d (.val (.int .u8 (v6.toNat:Int))))],aj [],0,[]⟩) ?_ ?_
  ·replace h:=hq;clear hq
   refine sR ?_
   refine xm 15 (pB oc) ?_
   refine XK.nz ?_
   refine QW.cond (t:=oc) rfl zL (fun gD=>?_) (fun gD=>?_)
   ·replace h:=bT h gD
    refine rG ?_
    refine xz 6 (.d (.val (.int .u8 ((2:UInt8).toNat:Int)))) ?_
    obtain rfl:=sO h
    exact ⟨⟨aF [(0, .d (.slice (p0.map U))),(6, .d (.val (.int .u8 ((2:UInt8).toNat:Int))))],aj [],0,[]⟩,View.mk 0 [] _ _ _ rfl rfl (by decide) (iC (iC trivial)) trivial rfl zL rfl,rfl⟩
   ·replace h:=bF h gD
    refine QW.skip zL (aY ?_)
    obtain rfl:=sO h
    exact ⟨⟨aF [(0, .d (.slice (p0.map U))),(6, .d (.val (.int .u8 ((0:UInt8).toNat:Int))))],aj [],0,[]⟩,View.mk 0 [] _ _ _ rfl rfl (by decide) (iC (iC trivial)) trivial rfl zL rfl,rfl⟩
  ·rintro _ rfl
   refine QW.seq ?_
   refine sR ?_
   refine xm 16 (.d (.slice (p0.map U))) ?_
   refine xs 17 rfl (cM (en:=U) (l:=p0) rfl TT.bC rfl ?_)
   refine xs 18 rfl (wS (a:=(p0.length:Int)) (b:=(2:Int)) rfl rfl rfl (by decide) ?_)
   refine xs 19 rfl (ej (a:=((p0.length:Int).tmod (2:Int))) (b:=(1:Int)) rfl rfl rfl ?_)
   refine XK.nz ?_
   refine QW.cond (t:=(decide (((p0.length:Int).tmod (2:Int))=(1:Int)))) rfl zL (fun kI=>?_) (fun kI=>?_)
   ·replace h:=bT h kI
    refine sR ?_
    refine xm 20 (.d (.val (.int .u8 (v6.toNat:Int)))) ?_
    refine xs 21 rfl (I6 (p:=v6) (q:=(1:UInt8)) rfl rfl rfl ?_)
    refine xs 22 rfl (dU (en:=U) (l:=([(v6+(1:UInt8))]:List UInt8)) rfl TT.e9 bH rfl rfl (by decide) (by simp [dg,cQ,aB,dK,PV.cz,cu,aF,jz,iL,jP,bV,Value.oneCell']) ?_)
    refine xm 23 (.d (.slice (p0.map U))) ?_
    refine xs 24 rfl (dU (en:=(eL U)) (l:=([([(v6+(1:UInt8))]:List UInt8),p0]:List (List UInt8))) rfl TT.A5 Gn rfl rfl (by decide) (by simp [dg,cQ,aB,dK,PV.cz,cu,aF,jz,iL,jP,bV,Value.oneCell']) ?_)
    obtain ⟨x_6,ym,h⟩:=bO h
    refine xs 25 rfl (aA rfl rfl TT.yT rfl (tw ([([(v6+(1:UInt8))]:List UInt8),p0]:List (List UInt8)) _ ym) ?_)
    obtain ⟨x_8,Am,h⟩:=bO h
    refine xs 26 rfl (aA rfl rfl TT.GG rfl (Al x_6 _ Am) ?_)
    refine xs 27 rfl (nK (l:=x_8) rfl TT.bC TT.dV TT.bZ rfl ?_)
    refine xa 4 (pS x_8) ?_
    refine xz 5 (pI (0)) ?_
    refine QW.ret zL (eC ?_)
    obtain rfl:=sO h
    exact Ends.more (.inr rfl) rfl (ps:=[pS x_8,pI (0)]) (And.intro (aG.tmp rfl) (And.intro (aG.tmp rfl) trivial)) rfl rfl
   ·replace h:=bF h kI
    refine QW.skip zL (aY ?_)
    refine sR ?_
    refine xm 28 (.d (.val (.int .u8 (v6.toNat:Int)))) ?_
    refine xs 29 rfl (dU (en:=U) (l:=([v6,(0:UInt8)]:List UInt8)) rfl TT.e9 bH rfl rfl (by decide) (by simp [dg,cQ,aB,dK,PV.cz,cu,aF,jz,iL,jP,bV,Value.oneCell']) ?_)
    refine xm 30 (.d (.slice (p0.map U))) ?_
    refine xs 31 rfl (dU (en:=(eL U)) (l:=([([v6,(0:UInt8)]:List UInt8),p0]:List (List UInt8))) rfl TT.A5 Gn rfl rfl (by decide) (by simp [dg,cQ,aB,dK,PV.cz,cu,aF,jz,iL,jP,bV,Value.oneCell']) ?_)
    obtain ⟨x_10,qD,h⟩:=bO h
    refine xs 32 rfl (aA rfl rfl TT.yT rfl (tw ([([v6,(0:UInt8)]:List UInt8),p0]:List (List UInt8)) _ qD) ?_)
    obtain ⟨x_12,rO,h⟩:=bO h
    refine xs 33 rfl (aA rfl rfl TT.GG rfl (Al x_10 _ rO) ?_)
    refine xs 34 rfl (nK (l:=x_12) rfl TT.bC TT.dV TT.bZ rfl ?_)
    refine xa 4 (pS x_12) ?_
    refine xz 5 (pI (0)) ?_
    refine QW.ret zL ?_
    obtain rfl:=sO h
    exact Ends.more (.inr rfl) rfl (ps:=[pS x_12,pI (0)]) (And.intro (aG.tmp rfl) (And.intro (aG.tmp rfl) trivial)) rfl rfl
noncomputable def oM (l0:(List Item)):Option Item:=
  gO ((([]:(List Item)).length+l0.length)*48≤140737488355328) (
  some (⟨true,([]:List UInt8),(([]:(List Item))++l0)⟩:Item))
theorem xH (l0:(List Item)) (r:Item) (h:oM l0=some r):bE Tryz.prog 53 [.slice (l0.map bu)] (.agg (dr r)):=by
 refine bE.aU Tryz.func53 rfl (by simp [Tryz.ntmps53]) ?_
 rw [Tryz.ntmps53,TT.U5]
 refine QW.view (s':=⟨aF [(0, .d (.slice (l0.map bu)))],aj [],0,[]⟩) (View.init (by rfl)) zL ?_
 unfold oM at h
 refine sR ?_
 refine xs 2 rfl (bP (l:=[pB false,pS ([]:List UInt8), .full (([]:(List Item)).map bu)]) rfl TT.mm rfl rfl ?_)
 refine XK.nz ?_
 refine sR ?_
 refine xm 3 (.d (.slice (l0.map bu))) ?_
 obtain ⟨nM,h⟩:=bk h
 refine xs 4 rfl (Gp (en:=bu) (l:=([]:(List Item))) (l2:=l0) rfl TT.rJ TT.qX rfl kR rfl rfl ⟨nM,fun _=>rfl⟩ (by decide) ?_)
 refine xs 5 rfl (fk (v:= .agg [pB true,pS ([]:List UInt8), .own 1 ((([]:(List Item))++l0).map bu)]) rfl TT.yc (dM rfl (cx (cells':=[pB true,pS ([]:List UInt8), .full (([]:(List Item)).map bu)]) rfl rfl rfl bL rfl (cx (cells':=[pB true,pS ([]:List UInt8), .own 1 ((([]:(List Item))++l0).map bu)]) rfl rfl rfl bL rfl dL))) ?_)
 refine XK.st none rfl rfl (bw (l':=[pB true,pS ([]:List UInt8), .own 1 ((([]:(List Item))++l0).map bu)]) rfl TT.ew rfl rfl rfl rfl rfl rfl (by simp) rfl ?_)
 refine XK.nz ?_
 refine QW.ret zL ?_
 obtain rfl:=sO h
 exact Ends.one (.inr rfl) rfl (aG.cell rfl rfl TT.ew ⟨⟨by simp,by simp⟩,rfl⟩) rfl rfl
end Go.Proofs.YtlfjfoknbjcncaaGreat.K
