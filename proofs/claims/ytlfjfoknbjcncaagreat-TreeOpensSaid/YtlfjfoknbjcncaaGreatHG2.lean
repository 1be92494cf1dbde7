/- The reckoner over lists of operations, and its soundness. -/
import Derived.Test.YtlfjfoknbjcncaaGreatHG1
import Derived.KernelRfl
import Derived.IntWalk
import Derived.ProofKit
import Derived.OpenShut
import Derived.Below
import Derived.ChangeSame
import Derived.WideKeyArgs
import Derived.ChangeArms
import Derived.ChangeKeysEq
import Derived.Recover
namespace Go.Proofs.YtlfjfoknbjcncaaGreat.K
open Go Go.RowKit
variable {P:Program}
def cG (H:HM) (k:Nat) (v:Option HO):HM:=fun i=>if i=k then v else H i
def RV (P:Program) (f:Nat) (ds:List D) (k:PV→Prop):Prop:=∃ res,cD P f ds res∧k (.d res)
def EqK (P:Program) (t:TypeId) (x y:D) (k:Bool→Prop):Prop:=∃ b,G8 P t x y b∧k b
def RW (p:Prop):Prop:=p
def isEq:BinOp→Bool
 | .eql=>true
 | .neq=>true
 | _=>false
def CE:PV→Bool
 | .d (.agg _)=>true
 | .agg _=>true
 | _=>false
def yN (P:Program) (s:St) (x y:PV) (t u:TypeId) (k:PV→HM→Nat→List Nat→List Nat→Prop):Prop:=
 match qH P t,P.underlying u,y.more with
 | some (sz,jq),some d,some l2=>
  match x with
  | .own ix l=>(ni d=true∧s.H ix=some (.spare sz l.length)∧(∀ z∈l,z.cells.length=sz)∧(∀ z∈l2,z.cells.length=sz))∧RW ((l.length+l2.length)*jq≤140737488355328∧l.length+l2.length≤maxLen)∧
    k (.own s.nx (l++l2)) (cG (cG s.H ix none) s.nx (some (.spare sz (l.length+l2.length)))) (s.nx+1) [ix] [ix]
  | .full l=>(ni d=true∧(∀ z∈l,z.cells.length=sz)∧(∀ z∈l2,z.cells.length=sz))∧RW ((l.length+l2.length)*jq≤140737488355328∧l.length+l2.length≤maxLen∧(l2=[]→l=[]))∧
    k (.own s.nx (l++l2)) (cG s.H s.nx (some (.spare sz (l.length+l2.length)))) (s.nx+1) [] []
  | _=>False
 | _,_,_=>False
def zB (eR:List Nat):Option Nat→Bool
 | some d=>eR.contains d
 | none=>false
def aU (P:Program) (eR:List Nat) (o:Oper) (s:St) (k:PV→HM→Nat→List Nat→List Nat→Prop):Prop:=
 match o.op with
 | .load t x=>match aH s.S x with
  | .aR ix off=>match s.H ix with
   | some (.var l)=>(yj (jU P t) l off).2∧k (yj (jU P t) l off).1 s.H s.nx [ix] []
   | _=>False
  | .d (.cF l)=>(C8 (jU P t) l).2∧k (C8 (jU P t) l).1 s.H s.nx [] []
  | _=>False
 | .store t x y=>match aH s.S x,jU P t with
  | .aR ix off,some (_,n)=>match s.H ix with
   | some (.var l)=>((aH s.S y).ir=true∧(aH s.S y).iF.length=n∧off+n≤l.length)∧k .dJ (cG s.H ix (some (.var (m4 l off (aH s.S y).iF)))) s.nx [ix] [ix]
   | _=>False
  | _,_=>False
 | .alloc t=>match m7 P t with
  | some z=>z.all Value.oneCell'=true∧k (.aR s.nx 0) (cG s.H s.nx (some (.var (z.map oF)))) (s.nx+1) [] []
  | none=>False
 | .box _ x=>
  if zB eR o.dst=true then
   match PV.dW (aH s.S x).iF with
   | some ds=>(aH s.S x).ir=true∧k (.d (.cF ds)) s.H s.nx [] []
   | none=>False
  else (aH s.S x).ir=true∧k (.aR s.nx 0) (cG s.H s.nx (some (.var (aH s.S x).iF))) (s.nx+1) [] []
 | .binOp op t x y _=>
  if isEq op&&CE (aH s.S x) then
   match (aH s.S x).cN,(aH s.S y).cN with
   | some dx,some dy=>EqK P t dx dy fun b=>k (.d (.val (.bool (pH op b)))) s.H s.nx [] []
   | _,_=>False
  else (xO P op t (aH s.S x) (aH s.S y)).2∧k (xO P op t (aH s.S x) (aH s.S y)).1 s.H s.nx [] []
 | .call c=>match c.callee with
  | .builtin .append=>match c.args.toList,c.argTypes.toList with
   | [x,y],[t,u]=>yN P s (aH s.S x) (aH s.S y) t u k
   | _,_=>False
  | .builtin b=>(jJ P s.S b c.args.toList c.argTypes.toList).2∧k (jJ P s.S b c.args.toList c.argTypes.toList).1 s.H s.nx [] []
  | .value (.func f)=>match PV.dW (c.args.toList.map (aH s.S)) with
   | some ds=>e8 P f=true∧RV P f ds fun p=>k p s.H s.nx [] []
   | none=>False
  | .value t=>match aH s.S t,PV.dW (c.args.toList.map (aH s.S)) with
   | .d (.jT f caps),some ds=>e8 P f=true∧RV P f (ds++caps) fun p=>k p s.H s.nx [] []
   | _,_=>False
  | _=>False
 | op=>(jV P s.S op).2∧k (jV P s.S op).1 s.H s.nx [] []
theorem mH {o:Oper} {s:St} {v:PV} (hn:∀ i,s.nx≤i→s.H i=none) (h:BP P o s.S v):n4 P o s v s.H s.nx [] []:=h.sem [] (by simp) hn
theorem I7 {o:Oper} {s:St} {x y:Operand} {t u:TypeId} {k:PV→HM→Nat→List Nat→List Nat→Prop} (ho:o.op= .call {callee:= .builtin .append,args:= #[x,y],argTypes:= #[t,u]}) (hn:∀ i,s.nx≤i→s.H i=none)
  (h:yN P s (aH s.S x) (aH s.S y) t u k):∃ v H' cw T W,n4 P o s v H' cw T W∧k v H' cw T W:=by
 unfold yN at h
 split at h
 ·rename_i sz jq d l2 h1 h2 h3
  split at h
  ·rename_i ix l hx
   obtain ⟨⟨c1,c2,c3,c4⟩,⟨c5,c6⟩,hk⟩:=h
   exact ⟨_,_,_,_,_,Gg ho h1 h2 c1 hx c2 h3 hn c3 c4 c5 c6,hk⟩
  ·rename_i l hx
   obtain ⟨⟨c1,c3,c4⟩,⟨c5,c6,c7⟩,hk⟩:=h
   exact ⟨_,_,_,_,_,EV ho h1 h2 c1 hx h3 hn c3 c4 c5 c6 c7,hk⟩
  ·exact h.elim
 ·exact h.elim
theorem kT {eR:List Nat} {o:Oper} {s:St} {k:PV→HM→Nat→List Nat→List Nat→Prop} (hn:∀ i,s.nx≤i→s.H i=none) (h:aU P eR o s k):∃ v H' cw T W,n4 P o s v H' cw T W∧k v H' cw T W:=by
 have RY:(jV P s.S o.op).2→k (jV P s.S o.op).1 s.H s.nx [] []→∃ v H' cw T W,n4 P o s v H' cw T W∧k v H' cw T W:=
  fun h1 h2=>⟨_,_,_,_,_,mH hn (K0 h1).op,h2⟩
 unfold aU at h
 split at h
 ·rename_i t x ho
  split at h
  ·rename_i ix off hp
   split at h
   ·rename_i l hH
    exact ⟨_,_,_,_,_,NP ho hp hH hn h.1,h.2⟩
   ·exact h.elim
  ·rename_i l hp
   exact ⟨_,_,_,_,_,mH hn (FE ho hp h.1).op,h.2⟩
  ·exact h.elim
 ·rename_i t x y ho
  split at h
  ·rename_i ix off ag n hp ht
   split at h
   ·rename_i l hH
    exact ⟨_,_,_,_,_,LU ho hp hH hn ht h.1.1 h.1.2.1 h.1.2.2,h.2⟩
   ·exact h.elim
  ·exact h.elim
 ·rename_i t ho
  split at h
  ·rename_i z hz
   exact ⟨_,_,_,_,_,LV ho hn hz h.1,h.2⟩
  ·exact h.elim
 ·rename_i t x ho
  split at h
  ·split at h
   ·rename_i ds hd
    exact ⟨_,_,_,_,_,mH hn (LW ho h.1 hd).op,h.2⟩
   ·exact h.elim
  ·exact ⟨_,_,_,_,_,Qb ho hn h.1,h.2⟩
 ·rename_i op t x y u ho
  split at h
  ·rename_i he
   simp only [Bool.and_eq_true] at he
   split at h
   ·rename_i dx dy hx hy
    obtain ⟨b,hb,hk⟩:=h
    have hop:op= .eql∨op= .neq:=by cases op<;>simp_all [isEq]
    exact ⟨_,_,_,_,_,mH hn (NV ho hop hx hy hb).op,hk⟩
   ·exact h.elim
  ·exact ⟨_,_,_,_,_,mH hn (FI ho h.1).op,h.2⟩
 ·rename_i c ho
  split at h
  ·rename_i hc
   split at h
   ·rename_i x y t u ha ht
    obtain ⟨callee,args,ts⟩:=c
    simp only at hc ha ht
    subst hc
    rw [BT ha,BT ht] at ho
    exact I7 ho hn h
   ·exact h.elim
  ·rename_i b hb hc
   exact ⟨_,_,_,_,_,mH hn (AR ho hc h.1).op,h.2⟩
  ·rename_i f hc
   split at h
   ·rename_i ds hd
    obtain ⟨he,res,hF,hk⟩:=h
    exact ⟨_,_,_,_,_,mH hn (Qc ho hc he hd hF),hk⟩
   ·exact h.elim
  ·rename_i t hne hc
   split at h
   ·rename_i f caps ds ht hd
    obtain ⟨he,res,hF,hk⟩:=h
    exact ⟨_,_,_,_,_,mH hn (Qd ho hc ht he hd hF),hk⟩
   ·exact h.elim
  ·exact h.elim
 ·exact RY h.1 h.2
def AS (S:Nat→PV):Nat→PV:=fun t=>(fE (S t)).2
theorem I8 (v:Value):fE (qP v)=(true,qP v):=by
 unfold qP
 split
 ·rfl
 ·rfl
 ·split<;>rfl
 ·rfl
theorem RZ (S:Nat→PV) (x:Operand):aH (AS S) x=(fE (aH S x)).2:=by
 cases x with
 | tmp t=>rfl
 | const v=>simp only [aH,I8]
 | global g=>rfl
 | func f=>rfl
def s4 (g:Bool) (S:Nat→PV):List Operand→Prop
 | []=>True
 | x::r=>(g=true→(fE (aH S x)).1=true)∧s4 g S r
theorem K2 {m:Mem} {ρ:dA}:∀ {l:List D} {vs:List Value},bP m l vs→bC m ρ (l.map .d) vs
 | [],vs,h=>by simpa [bC,bP] using h
 | x::r,vs,h=>by
  simp only [bP,List.map_cons,bC] at h ⊢
  obtain ⟨v,vr,e1,e2,e3⟩:=h
  exact ⟨v,vr,e1,by simpa [aO] using e2,K2 e3⟩
end Go.Proofs.YtlfjfoknbjcncaaGreat.K
namespace Go.Proofs.YtlfjfoknbjcncaaGreat.K
open Go Go.RowKit
variable {P:Program} {N:Nat}
end Go.Proofs.YtlfjfoknbjcncaaGreat.K
namespace Go.Proofs.YtlfjfoknbjcncaaGreat.K
open Go Go.RowKit
variable {P:Program} {N:Nat}
theorem p4 {S:Nat→PV} {d t:Nat} {v:PV}:eK S (some d) v t=if t=d then v else S t:=rfl
theorem p5 {H:HM} {k i:Nat} {v:Option HO}:cG H k v i=if i=k then v else H i:=rfl
theorem wrap_i64 {n:Int} (h: -9223372036854775808≤n∧n≤9223372036854775807):IntKind.i64.wrap n=n:=IntWalk.i64_in n h
theorem wrap_u8 {n:Int} (h:0≤n∧n≤255):IntKind.u8.wrap n=n:=IntWalk.u8_in n h
theorem wrap_u64 {n:Int} (h:0≤n∧n≤18446744073709551615):IntKind.u64.wrap n=n:=IntWalk.u64_in n h
theorem Hg {v:Value}:(D.val v).cells=[.val v]:=rfl
end Go.Proofs.YtlfjfoknbjcncaaGreat.K
namespace Go.Proofs.YtlfjfoknbjcncaaGreat.K
open Go Go.RowKit
variable {P:Program} {N:Nat} {ops:Array Oper} {o:Oper} {r:List Oper} {s:St}
def Gh:PV→PV
 | .cond true p=>p
 | p=>p
def ym (S:Nat→PV):Nat→PV:=fun t=>Gh (S t)
theorem R0 {m:Mem} {ρ:dA} {p:PV} {v:Value} (h:aO m ρ p v):aO m ρ (Gh p) v:=by
 unfold Gh
 split
 ·rw [aO] at h;exact h.1 rfl
 ·exact h
theorem NX (v:Value):Gh (qP v)=qP v:=by
 unfold qP
 split
 ·rfl
 ·rfl
 ·split<;>rfl
 ·rfl
theorem L6 (S:Nat→PV) (x:Operand):aH (ym S) x=Gh (aH S x):=by
 cases x with
 | tmp t=>rfl
 | const v=>simp only [aH,NX]
 | global g=>rfl
 | func f=>rfl
def XK (P:Program) (ops:Array Oper) (r:List Oper) (s:St) (Q:PX→St→Prop):Prop:=(∀ i,s.nx≤i→s.H i=none)→CB P ops r s Q
def RK (P:Program) (ops:Array Oper) (r:List Oper) (s:St) (acc:List Rec) (K:St→List Rec→Prop):Prop:=
 (∀ i,s.nx≤i→s.H i=none)→∃ s' L,DN P ops r s s' L∧K s' (acc.reverse++L)
def RQ (P:Program) (ops:Array Oper) (r:List Oper) (s:St) (Q:St→Prop):Prop:=
 (∀ i,s.nx≤i→s.H i=none)→∃ s' L,DN P ops r s s' L∧(∀ R∈L,R.W=[]∧R.lo=R.hi)∧Q s'
theorem XK.nil {Q:PX→St→Prop} (h:Q .normal s):XK P ops [] s Q:=fun _=> .nil h
theorem RK.nil {acc:List Rec} {K:St→List Rec→Prop} (h:K s acc.reverse):RK P ops [] s acc K:=fun _=>⟨s,[], .nil s,by simpa using h⟩
theorem RQ.nil {Q:St→Prop} (h:Q s):RQ P ops [] s Q:=fun _=>⟨s,[], .nil s,by simp,h⟩
theorem XK.step {Q:PX→St→Prop} (hg:o.guard=none) (h:aU P [] o s fun v H' cw _ _=>XK P ops r ⟨eK s.S o.dst v,H',cw,s.df⟩ Q):XK P ops (o::r) s Q:=by
 intro hn
 obtain ⟨v,H',cw,T,W,hs,hk⟩:=kT hn h
 exact .step (R:=⟨T,W,s.nx,cw⟩) (.run hg hs) (hk hs.nil)
theorem XK.frozen {Q:PX→St→Prop} (hg:o.guard=none) (h:aU P o.dst.toList o s fun v H' cw _ _=>XK P ops r ⟨eK s.S o.dst v,H',cw,s.df⟩ Q):XK P ops (o::r) s Q:=by
 intro hn
 obtain ⟨v,H',cw,T,W,hs,hk⟩:=kT hn h
 exact .step (R:=⟨T,W,s.nx,cw⟩) (.run hg hs) (hk hs.nil)
theorem XK.defer {Q:PX→St→Prop} {c:Call} {f:Nat} (hg:o.guard=none) (ho:o.op= .defer c) (hc:c.callee= .value (.func f)) (h:XK P ops r ⟨eK s.S o.dst .dJ,s.H,s.nx,(f,c.args.toList.map (aH s.S))::s.df⟩ Q):XK P ops (o::r) s Q:=
 fun hn=> .defer hg ho hc (h hn)
theorem RK.step {acc:List Rec} {K:St→List Rec→Prop} (hg:o.guard=none) (h:aU P [] o s fun v H' cw T W=>RK P ops r ⟨eK s.S o.dst v,H',cw,s.df⟩ (⟨T,W,s.nx,cw⟩::acc) K):RK P ops (o::r) s acc K:=by
 intro hn
 obtain ⟨v,H',cw,T,W,hs,hk⟩:=kT hn h
 obtain ⟨s',L,hr,hK⟩:=hk hs.nil
 exact ⟨s',_, .cons (.run hg hs) hr,by simpa using hK⟩
theorem RQ.step {Q:St→Prop} (hg:o.guard=none) (h:aU P [] o s fun v H' cw _ W=>(W=[]∧cw=s.nx)∧RQ P ops r ⟨eK s.S o.dst v,H',cw,s.df⟩ Q):RQ P ops (o::r) s Q:=by
 intro hn
 obtain ⟨v,H',cw,T,W,hs,⟨hW,hx⟩,hk⟩:=kT hn h
 obtain ⟨s',L,hr,hK,hQ⟩:=hk hs.nil
 refine ⟨s',_, .cons (.run hg hs) hr,?_,hQ⟩
 intro R hR
 rcases List.mem_cons.1 hR with rfl | hR
 ·exact ⟨hW,hx.symm⟩
 ·exact hK R hR
theorem PW.WM {id:Nat} {Q:PX→St→Prop} (hok:rK ops N=true) (h:XK P ops ops.toList s Q):PW P N (.region id ops false) s Q:=
 fun m ρ a w hI=>PW.region hok (h hI.iq) m ρ a w hI
theorem PW.qX {id:Nat} {Q:PX→St→Prop} (hm:P.follows .mixedOrders=true) {M:List Nat} (hM:M=masks ops.toList []) (hok:BN ops N M=true)
  (h:RK P ops ops.toList s [] fun s' L=>fH M L∧Q .normal s'):PW P N (.region id ops true) s Q:=by
 intro m ρ a w hI
 obtain ⟨s',L,hr,hL,hQ⟩:=h hI.iq
 exact PW.draw hm M hok hM hr (by simpa using hL) hQ m ρ a w hI
theorem fH.quiet {M:List Nat} {L:List Rec} (h:∀ R∈L,R.W=[]∧R.lo=R.hi):fH M L:=by
 intro i j a b _ ha hb hx
 have h1:=h a (List.mem_of_getElem? ha)
 have h2:=h b (List.mem_of_getElem? hb)
 rcases hx with ⟨x,_,hx | hx⟩ | ⟨x,_,hx⟩
 ·rw [h1.1] at hx;cases hx
 ·omega
 ·rw [h2.1] at hx;cases hx
theorem PW.nj {id:Nat} {Q:PX→St→Prop} (hm:P.follows .mixedOrders=true) {M:List Nat} (hM:M=masks ops.toList []) (hok:BN ops N M=true)
  (h:RQ P ops ops.toList s fun s'=>Q .normal s'):PW P N (.region id ops true) s Q:=by
 intro m ρ a w hI
 obtain ⟨s',L,hr,hL,hQ⟩:=h hI.iq
 exact PW.draw hm M hok hM hr (fH.quiet hL) hQ m ρ a w hI
end Go.Proofs.YtlfjfoknbjcncaaGreat.K
namespace Go.Proofs.YtlfjfoknbjcncaaGreat.K
open Go Go.RowKit Go.ChangeShapes Go.WideShapes Go.ChangeAt
variable {P:Program}
theorem Ext.below {m m':Mem} {w w':World} (h:Ext (fun _=>False) m w m' w'):Below w.heap.size w w':=⟨h.os,h.tape,h.output,h.size,fun k hk=>h.block k hk fun f=>f⟩
def wJ (w:World):Mem:=fun b o=>match w.cell? ⟨b,o,none⟩ with
 | some v=>if v.oneCell'=true then some v else none
 | none=>none
theorem Qg (w:World):gr (wJ w) w:=by
 intro b o v h
 unfold wJ at h
 split at h
 ·rename_i u hu
  split at h
  ·rename_i h1
   simp only [Option.some.injEq] at h
   subst h
   exact ⟨hu,h1⟩
  ·cases h
 ·cases h
theorem AT {H:Type} {enc:TypeId×Value→H} (hl:laidOutB P=true) {W W':World} (hb:Below W.heap.size W W') {sp':Nat→Bool}:∀ {ts:List TypeId} {vs:List Value} {ds:List (DataW H)} {ps:List MemPlace},
  (∀ t∈ts,P.readableRec t=true∧t<P.types.size)→DataW.TrodAll enc P W 0 (fun _=>true) true ts vs ds ps→(∀ p∈ps,sp' p.block=true)→DataW.TrodAll enc P W' 0 sp' true ts vs ds ps
 | [],[],[],_,_,h,_=>h
 | t::ts,v::vs,d::ds,ps,ht,h,hs=>by
  have hlt:=DataW.TrodAll.lt h
  obtain ⟨p,q,h1,h2,rfl⟩:=h
  refine ⟨p,q,?_,AT hl hb (fun t' h'=>ht t' (List.mem_cons_of_mem _ h')) h2 (fun x hx=>hs x (by simp [hx])),rfl⟩
  exact WideElems.Trod_stays hl (ht t (List.mem_cons_self ..)).1 (ht t (List.mem_cons_self ..)).2 h1 (fun x hx=>hb.same (hlt x (by simp [hx]))) (fun x hx=>hs x (by simp [hx]))
 | [],_::_,_,_,_,h,_=>by cases h
 | [],[],_::_,_,_,h,_=>by cases h
 | _::_,[],_,_,_,h,_=>by cases h
 | _::_,_::_,[],_,_,h,_=>by cases h
theorem NY {H:Type} {enc:TypeId×Value→H} {f:Func} {s:ChangeSpec} {fresh handsOn again:Bool} {W W':World} {args:Array Value} {ds gs:List (DataW H)} {before:List MemPlace} {t:TypeId}
  (hl:laidOutB P=true) (hp:∀ t∈f.params.toList,P.readableRec t=true∧t<P.types.size) (hW:DataW.Whole enc P f.params.toList s.vars false W args.toList ds gs before) (hv:s.vars=[])
  (hres:(s.fn H (ds++gs)).results=[.lit (.bool true)]) (hargs:(s.fn H (ds++gs)).args=ds) (hvs:(s.fn H (ds++gs)).vars=[]) (Uq:f.resultTypes= #[t]) (ht:P.underlying t=some .bool)
  (hb:Below W.heap.size W W'):s.post enc P f false fresh handsOn again W args (.bool true) W':=by
 have Ur:=hW
 have hlt:=fun p hp=>hW.lt p hp
 obtain ⟨p,q,hA,hV,rfl,hz,hn⟩:=hW
 rw [hv] at hV
 obtain ⟨rfl,rfl⟩:=trodVars_none hV
 have hold:∀ x∈p,(fun b=>decide (b<W.heap.size)) x.block=true:=fun x hx=>by simpa using hlt x (by simp [hx])
 have R1:∀ (b:Nat) (sp:Nat→Bool) (hd:Bool),DataW.TrodAll enc P W' b sp hd f.resultTypes.toList ((Value.bool true).resultList f.resultTypes.size) (s.fn H (ds++[])).results []:=by
  intro b sp hd
  rw [hres,Uq]
  exact trodAll_cons_mk (shut_bool ht _) trodAll_mk0
 have Pm:∀ sp:Nat→Bool,(∀ x∈p,sp x.block=true)→DataW.TrodAll enc P W' 0 sp true f.params.toList args.toList (s.fn H (ds++[])).args p:=by
  intro sp hs
  rw [hargs]
  exact AT hl hb hp hA hs
 have Pn:∀ sp:Nat→Bool,DataW.TrodVars enc P W' sp s.vars (s.fn H (ds++[])).vars []:=by
  intro sp
  rw [hv,hvs]
  rfl
 have hok:∀ (j:Nat) (t':TypeId) (r:Value),f.resultTypes[j]? =some t'→((Value.bool true).resultList f.resultTypes.size)[j]? =some r→Value.okWide P W' .any 0 t' r:=ok_one Uq rfl (okWide_bool_mk ht _)
 refine ⟨ds,[],p++[],[],p,[],Ur,R1 _ _ _,Pm _ hold,Pn _,World.keptBut_mono (fun x hx=>⟨hx, .inr (by simpa using hx)⟩) (hb.frame _),fun _=>⟨hok,_,_,([]++p)++[],⟨[]++p,[],trodAll_append (Pm _ (fun _ _=>rfl)) (R1 _ _ _),Pn _,rfl,?_,?_⟩,?_⟩⟩
 ·intro b off hx
  have hb':b<W.heap.size:=hlt (.cell b off) (by simpa using hx)
  have e:W'.frozen? ⟨b,off,none⟩=W.frozen? ⟨b,off,none⟩:=by
   unfold World.frozen?
   rw [hb.block b hb']
  rw [e]
  exact hz b off (by simpa using hx)
 ·intro ha
  cases ha
 ·intro x hx _
  simpa using hx
theorem NZ {H:Type} {enc:TypeId×Value→H} {f:Func} {n:Nat} {s:ChangeSpec} {fresh handsOn again:Bool} {W:World} {args:Array Value} {ds gs:List (DataW H)} {before:List MemPlace} {t:TypeId} {data:List D}
  (hF:cD P n data (.val (.bool true))) (iY:bP (wJ W) data args.toList)
  (hl:laidOutB P=true) (hp:∀ t∈f.params.toList,P.readableRec t=true∧t<P.types.size) (hW:DataW.Whole enc P f.params.toList s.vars false W args.toList ds gs before) (hv:s.vars=[])
  (hres:(s.fn H (ds++gs)).results=[.lit (.bool true)]) (hargs:(s.fn H (ds++gs)).args=ds) (hvs:(s.fn H (ds++gs)).vars=[]) (Uq:f.resultTypes= #[t]) (ht:P.underlying t=some .bool):
  Calls P n args W fun e W'=>∃ v,e= .returned v∧s.post enc P f false fresh handsOn again W args v W':=by
 have:=hF (wJ W) W args.toList (Qg W) iY
 refine this.mono ?_
 rintro e W' ⟨v,m',rfl,YL,_,hE⟩
 simp only [bk] at YL
 subst YL
 exact ⟨_,rfl,NY hl hp hW hv hres hargs hvs Uq ht hE.below⟩
end Go.Proofs.YtlfjfoknbjcncaaGreat.K
namespace Go.Proofs.YtlfjfoknbjcncaaGreat.K
open Go Go.RowKit Go.ChangeShapes Go.WideShapes Go.ChangeAt
variable {P:Program}
inductive Ty where
 | bool
 | int (k:IntKind)
 | str
 | slice (e:Ty)
 | st (l:List Ty)
 | arr (n:Nat) (e:Ty)
def Ty.isAgg:Ty→Bool
 | .st _=>true
 | .arr _ _=>true
 | _=>false
mutual
def Ty.size:Ty→Nat
 | .st l=>Ty.sizes l
 | .arr n e=>n*e.size
 | _=>1
def Ty.sizes:List Ty→Nat
 | []=>0
 | t::r=>t.size+Ty.sizes r
end
mutual
def lI:Ty→List D→Prop
 | .bool,l=>∃ b,l=[.val (.bool b)]
 | .int k,l=>∃ n,l=[.val (.int k n)]∧(Lit.int k n).wf=true
 | .str,l=>∃ s:ByteArray,l=[.val (.string s)]∧s.size≤maxLen
 | .slice e,l=>∃ xs:List D,l=[.slice xs]∧xs.length≤maxLen∧∀ x∈xs,lI e x.cells∧(∃ c,x= .agg c)=(e.isAgg=true)
 | .st ts,l=>Hh ts l
 | .arr n e,l=>∃ ls:List (List D),ls.length=n∧l=ls.flatten∧∀ c∈ls,lI e c
def Hh:List Ty→List D→Prop
 | [],l=>l=[]
 | t::r,l=>∃ a b,l=a++b∧lI t a∧Hh r b
end
mutual
def DZ (P:Program):Ty→TypeId→Bool
 | .bool,t=>match P.underlying t with
  | some .bool=>true
  | _=>false
 | .int k,t=>match P.underlying t with
  | some (.int k')=>k'==k
  | _=>false
 | .str,t=>match P.underlying t with
  | some .string=>true
  | _=>false
 | .slice e,t=>match P.underlying t with
  | some (.slice u)=>DZ P e u&&(P.cellsOf u==e.size&&decide (0<e.size))
  | _=>false
 | .st ts,t=>match P.underlying t with
  | some (.struct fs)=>(P.cellsOf t==Ty.sizes ts)&&JA P ts fs.toList 0
  | _=>false
 | .arr n e,t=>match P.underlying t with
  | some (.array k u)=>(k==n)&&(DZ P e u&&(P.cellsOf u==e.size&&P.cellsOf t==n*e.size))
  | _=>false
def JA (P:Program):List Ty→List Field→Nat→Bool
 | [],[],_=>true
 | T::r,f::q,off=>(f.offset==off)&&((P.cellsOf f.type==T.size)&&(DZ P T f.type&&JA P r q (off+T.size)))
 | _,_,_=>false
end
def AU (e:Ty) (l:List D):D:=if e.isAgg then .agg l else l.headD default
theorem D0 {e:Ty} {l:List D} (h:lI e l):(AU e l).cells=l:=by
 cases e<;>simp only [lI] at h<;>simp only [AU,Ty.isAgg,if_true,Bool.false_eq_true,if_false]
 ·obtain ⟨b,rfl⟩:=h;rfl
 ·obtain ⟨n,rfl,_⟩:=h;rfl
 ·obtain ⟨n,rfl,_⟩:=h;rfl
 ·obtain ⟨n,rfl,_⟩:=h;rfl
 ·rfl
 ·rfl
theorem N0 {e:Ty} {l:List D} (h:lI e l):(∃ c,AU e l= .agg c)=(e.isAgg=true):=by
 cases e<;>simp only [lI] at h<;>simp only [AU,Ty.isAgg,if_true,Bool.false_eq_true,if_false]
 ·obtain ⟨b,rfl⟩:=h;simp
 ·obtain ⟨n,rfl,_⟩:=h;simp
 ·obtain ⟨n,rfl,_⟩:=h;simp
 ·obtain ⟨n,rfl,_⟩:=h;simp
 ·simp
 ·simp
theorem trod_array {H:Type} {enc:TypeId×Value→H} {w:World} {base:Nat} {sp:Nat→Bool} {held:Bool} {fuel:Nat} {t e:TypeId} {n:Nat} {cs:List Value} {x:DataW H×List MemPlace} (ht:P.underlying t=some (.array n e))
  (h:DataW.trod enc P w base sp held fuel t cs=some x):
  ∃ (xs:List (DataW H×List MemPlace)) (k:Nat),fuel=k+1∧cs.length=P.cellsOf t∧xs.length=n∧∀ i,i<n→DataW.trod enc P w base sp held k e ((cs.drop (i*P.cellsOf e)).take (P.cellsOf e))=xs[i]? :=by
 cases fuel with
 | zero=>simp [DataW.trod] at h
 | succ k=>
  unfold DataW.trod at h
  rw [ht] at h
  split at h<;>simp_all
  obtain ⟨hl,xs,hp,hd⟩:=h
  exact ⟨xs,by simpa using mapM_some_length hp,fun i hi=>mapM_some_get hp i i (by simp [hi])⟩
theorem L7 {W:World} {b o:Nat} {v:Value} (h:W.cell? ⟨b,o,none⟩=some v) (h1:v.oneCell'=true):wJ W b o=some v:=by
 unfold wJ
 rw [h]
 simp [h1]
theorem N1 {m:Mem} {e:Ty} {sz:Nat}:∀ (n:Nat) (cs:List Value),cs.length=n*sz→
  (∀ i,i<n→∃ l,lI e l∧bP m l ((cs.drop (i*sz)).take sz)∧∀ u∈(cs.drop (i*sz)).take sz,u.oneCell'=true)→
  ∃ ls:List (List D),ls.length=n∧(∀ c∈ls,lI e c)∧bP m ls.flatten cs∧∀ u∈cs,u.oneCell'=true:=by
 intro n
 induction n with
 | zero=>
  intro cs hl _
  have:cs=[]:=by simpa using hl
  subst this
  exact ⟨[],rfl,by simp,by simp [bP],by simp⟩
 | succ n ih=>
  intro cs hl h
  obtain ⟨l,h1,h2,h3⟩:=h 0 (by omega)
  simp only [Nat.zero_mul,List.drop_zero] at h2 h3
  have hlen:(cs.drop sz).length=n*sz:=by
   rw [List.length_drop,hl,Nat.succ_mul]
   omega
  obtain ⟨ls,e1,e2,e3,e4⟩:=ih (cs.drop sz) hlen (fun i hi=>by
   have:=h (i+1) (by omega)
   rw [Nat.succ_mul] at this
   rw [List.drop_drop]
   rwa [Nat.add_comm sz (i*sz)])
  refine ⟨l::ls,by simp [e1],?_,?_,?_⟩
  ·intro c hc
   rcases List.mem_cons.1 hc with rfl | hc
   ·exact h1
   ·exact e2 c hc
  ·rw [List.flatten_cons, ← List.take_append_drop sz cs]
   exact qp h2 e3
  ·intro u hu
   rw [← List.take_append_drop sz cs] at hu
   rcases List.mem_append.1 hu with hu | hu
   ·exact h3 u hu
   ·exact e4 u hu
theorem N2 {m:Mem} {b:Nat} {e:Ty} {sz:Nat}:∀ (n o:Nat),
  (∀ i,i<n→∃ l vs,lI e l∧bP m l vs∧vs.length=sz∧∀ j v,vs[j]? =some v→m b (o+i*sz+j)=some v)→
  ∃ xs:List D,xs.length=n∧gY m b xs o∧∀ x∈xs,lI e x.cells∧(∃ c,x= .agg c)=(e.isAgg=true):=by
 intro n
 induction n with
 | zero=>intro o _;exact ⟨[],rfl,by simp [gY],by simp⟩
 | succ n ih=>
  intro o h
  obtain ⟨l,vs,h1,h2,h3,h4⟩:=h 0 (by omega)
  obtain ⟨xs,e1,e2,e3⟩:=ih (o+sz) (fun i hi=>by
   obtain ⟨l',vs',k1,k2,k3,k4⟩:=h (i+1) (by omega)
   refine ⟨l',vs',k1,k2,k3,fun j v hv=>?_⟩
   have:=k4 j v hv
   rw [Nat.succ_mul] at this
   rwa [show o+sz+i*sz+j=o+(i*sz+sz)+j from by omega])
  have hc:=D0 h1
  have hlen:l.length=sz:=by rw [← n6 h2];exact h3
  refine ⟨AU e l::xs,by simp [e1],?_,?_⟩
  ·rw [nI,hc,hlen]
   refine ⟨yh h2 fun j v hv=>?_,e2⟩
   have:=h4 j v hv
   rwa [Nat.zero_mul,Nat.add_zero] at this
  ·intro x hx
   rcases List.mem_cons.1 hx with rfl | hx
   ·rw [hc];exact ⟨h1,N0 h1⟩
   ·exact e3 x hx
theorem L8 {W:World} {base:Nat} {a:Addr} {n:Nat} {cs:List Value} (h:W.cells? base a n=some cs) (hn:0<n):a.spot=none:=by
 unfold World.cells? at h
 split at h
 ·have h0:=mapM_some_get h 0 0 (by simp [hn])
  have hl:=mapM_some_length h
  simp only [List.length_range] at hl
  have:cs[0]? ≠none:=fun hc=>by have:=List.getElem?_eq_none_iff.1 hc;omega
  rw [← h0] at this
  cases hs:a.spot with
  | none=>rfl
  | some s=>
   refine absurd ?_ this
   have:a.add 0=a:=by simp [Addr.add]
   rw [this]
   simp only [World.cell?]
   split
   ·simp [hs]
   ·rfl
 ·cases h
theorem N4 {W:World} {base b o n:Nat} {cs:List Value} (h:W.cells? base ⟨b,o,none⟩ n=some cs):cs.length=n∧∀ j v,cs[j]? =some v→W.cell? ⟨b,o+j,none⟩=some v:=by
 unfold World.cells? at h
 split at h
 ·have hl:=mapM_some_length h
  simp only [List.length_range] at hl
  refine ⟨hl,fun j v hv=>?_⟩
  have hj:j<n:=by
   have:=(List.getElem?_eq_some_iff.1 hv).1
   omega
  have:=mapM_some_get h j j (by simp [hj])
  rw [jh] at this
  rw [this,hv]
 ·cases h
mutual
theorem xP {H:Type} {enc:TypeId×Value→H} {W:World} {sp:Nat→Bool}:∀ (T:Ty) (t:TypeId) (fuel:Nat) (cs:List Value) (x:DataW H×List MemPlace),
  DZ P T t=true→DataW.trod enc P W 0 sp true fuel t cs=some x→∃ l,lI T l∧bP (wJ W) l cs∧∀ u∈cs,u.oneCell'=true
 | .bool,t,fuel,cs,x,hs,h=>by
  simp only [DZ] at hs
  split at hs
  ·rename_i hu
   obtain ⟨b,rfl,_⟩:=DataW.trod_bool hu h
   exact ⟨_,⟨b,rfl⟩,by simp [bP,bk],by simp [Value.oneCell']⟩
  ·cases hs
 | .int k,t,fuel,cs,x,hs,h=>by
  simp only [DZ] at hs
  split at hs
  ·rename_i k' hu
   have hk:k'=k:=by simpa using hs
   subst hk
   obtain ⟨n,rfl,_,hw⟩:=DataW.trod_int hu h
   exact ⟨_,⟨n,rfl,hw⟩,by simp [bP,bk],by simp [Value.oneCell']⟩
  ·cases hs
 | .str,t,fuel,cs,x,hs,h=>by
  simp only [DZ] at hs
  split at hs
  ·rename_i hu
   obtain ⟨s,rfl,_,hw⟩:=DataW.trod_string hu h
   exact ⟨_,⟨s,rfl,hw⟩,by simp [bP,bk],by simp [Value.oneCell']⟩
  ·cases hs
 | .slice e,t,fuel,cs,x,hs,h=>by
  simp only [DZ] at hs
  split at hs
  ·rename_i u hu
   simp only [Bool.and_eq_true,beq_iff_eq,decide_eq_true_eq] at hs
   obtain ⟨h1,h2,h3⟩:=hs
   rcases DataW.trod_slice hu h with ⟨rfl,_⟩ | ⟨a,len,cap,elems,rest,n,rfl,rfl,_,_,hlc,I6,hel,CF,_⟩
   ·exact ⟨_,⟨[],rfl,by simp,by simp⟩,by simp [bP,bk],by simp [Value.oneCell']⟩
   ·rw [h2] at CF
    have each:∀ i,i<len→∃ L9 xi,W.cells? 0 (a.add (i*e.size)) e.size=some L9∧DataW.trod enc P W 0 sp true n u L9=some xi:=by
     intro i hi
     have:=CF i hi
     have hx:elems[i]? =some (elems[i]'(by omega)):=List.getElem?_eq_getElem (by omega)
     rw [hx,Option.bind_eq_some_iff] at this
     obtain ⟨L9,k1,k2⟩:=this
     exact ⟨L9,_,k1,k2⟩
    by_cases h0:len=0
    ·subst h0
     exact ⟨_,⟨[],rfl,by simp,by simp⟩,by simp [bP,bk],by simp [Value.oneCell']⟩
    ·have R2:a.spot=none:=by
      obtain ⟨L9,_,k1,_⟩:=each 0 (by omega)
      have:=L8 k1 h3
      simpa [Addr.add] using this
     obtain ⟨b,o,s⟩:=a
     simp only at R2
     subst R2
     obtain ⟨xs,e1,e2,e3⟩:=N2 (m:=wJ W) (b:=b) (e:=e) (sz:=e.size) len o (fun i hi=>by
      obtain ⟨L9,xi,k1,k2⟩:=each i hi
      obtain ⟨l,l1,l2,l3⟩:=xP e u n L9 xi h1 k2
      rw [jh] at k1
      obtain ⟨k3,k4⟩:=N4 k1
      exact ⟨l,L9,l1,l2,k3,fun j v hv=>L7 (k4 j v hv) (l3 v (List.mem_of_getElem? hv))⟩)
     refine ⟨[.slice xs],⟨xs,rfl,by omega,e3⟩,?_,by simp [Value.oneCell']⟩
     simp only [bP,bk]
     exact ⟨_,[],rfl,⟨some ⟨b,o,none⟩,cap,by rw [e1],by omega, .inr ⟨b,o,rfl,e2⟩⟩,rfl⟩
  ·cases hs
 | .st ts,t,fuel,cs,x,hs,h=>by
  simp only [DZ] at hs
  split at hs
  ·rename_i fs hu
   simp only [Bool.and_eq_true,beq_iff_eq] at hs
   obtain ⟨h1,h2⟩:=hs
   obtain ⟨xs,n,rfl,_,hl,hx,CF⟩:=DataW.trod_struct hu h
   obtain ⟨l,l1,l2,l3⟩:=Hi ts fs.toList 0 n cs h2 (fun f hf=>by
    obtain ⟨i,hi⟩:=List.mem_iff_getElem?.1 hf
    have hi':fs[i]? =some f:=by simpa using hi
    have:=CF i f hi'
    have hlt:i<fs.size:=(Array.getElem?_eq_some_iff.1 hi').1
    exact ⟨xs[i]'(by omega),by rw [this];exact List.getElem?_eq_getElem (by omega)⟩) (by omega)
   have e:(cs.drop 0).take (Ty.sizes ts)=cs:=by rw [List.drop_zero,List.take_of_length_le (by omega)]
   rw [e] at l2 l3
   exact ⟨l,by simpa only [lI] using l1,l2,l3⟩
  ·cases hs
 | .arr k e,t,fuel,cs,x,hs,h=>by
  simp only [DZ] at hs
  split at hs
  ·rename_i k' u hu
   simp only [Bool.and_eq_true,beq_iff_eq] at hs
   obtain ⟨rfl,h1,h2,h3⟩:=hs
   obtain ⟨xs,n,rfl,hl,hx,CF⟩:=trod_array hu h
   rw [h2] at CF
   obtain ⟨ls,e1,e2,e3,e4⟩:=N1 (m:=wJ W) (e:=e) (sz:=e.size) k' cs (by omega) (fun i hi=>by
    have:=CF i hi
    rw [List.getElem?_eq_getElem (by omega)] at this
    exact xP e u n _ _ h1 this)
   exact ⟨_,⟨ls,e1,rfl,e2⟩,e3,e4⟩
  ·cases hs
theorem Hi {H:Type} {enc:TypeId×Value→H} {W:World} {sp:Nat→Bool}:∀ (Ts:List Ty) (fs:List Field) (off n:Nat) (cs:List Value),
  JA P Ts fs off=true→(∀ f∈fs,∃ x,DataW.trod enc P W 0 sp true n f.type ((cs.drop f.offset).take (P.cellsOf f.type))=some x)→off+Ty.sizes Ts≤cs.length→
  ∃ l,Hh Ts l∧bP (wJ W) l ((cs.drop off).take (Ty.sizes Ts))∧∀ u∈(cs.drop off).take (Ty.sizes Ts),u.oneCell'=true
 | [],[],off,n,cs,_,_,_=>⟨[],rfl,by simp [bP,Ty.sizes],by simp [Ty.sizes]⟩
 | T::r,f::q,off,n,cs,hs,h,hl=>by
  simp only [JA,Bool.and_eq_true,beq_iff_eq] at hs
  obtain ⟨h1,h2,h3,h4⟩:=hs
  obtain ⟨x,hx⟩:=h f (List.mem_cons_self ..)
  rw [h1,h2] at hx
  simp only [Ty.sizes] at hl
  obtain ⟨a,a1,a2,a3⟩:=xP T f.type n _ x h3 hx
  obtain ⟨b,b1,b2,b3⟩:=Hi r q (off+T.size) n cs h4 (fun g hg=>h g (List.mem_cons_of_mem _ hg)) (by omega)
  have e:(cs.drop off).take (Ty.sizes (T::r))=(cs.drop off).take T.size++(cs.drop (off+T.size)).take (Ty.sizes r):=by
   simp only [Ty.sizes]
   rw [List.take_add,List.drop_drop]
  refine ⟨a++b,?_,?_,?_⟩
  ·simp only [Hh];exact ⟨a,b,rfl,a1,b1⟩
  ·rw [e];exact qp a2 b2
  ·intro u hu
   rw [e] at hu
   rcases List.mem_append.1 hu with hu | hu
   ·exact a3 u hu
   ·exact b3 u hu
 | [],_::_,_,_,_,hs,_,_=>by simp [JA] at hs
 | _::_,[],_,_,_,hs,_,_=>by simp [JA] at hs
end
end Go.Proofs.YtlfjfoknbjcncaaGreat.K
namespace Go.Proofs.YtlfjfoknbjcncaaGreat.K
open Go Go.RowKit Go.ChangeShapes Go.WideShapes Go.ChangeAt
variable {P:Program}
theorem Ut {W:World} {r:Reach} {b0:Nat} {t:TypeId} {v:Value} {T:Ty} (hT:T.isAgg=false) (hs:DZ P T t=true) (hv:Value.okWide P W r b0 t v):v.cells.toList=[v]:=by
 have key:∀ cs,v≠ .agg cs:=by
  intro cs e
  subst e
  cases T<;>simp only [Ty.isAgg,Bool.true_eq_false] at hT<;>simp only [DZ] at hs<;>split at hs<;>first | (cases hs;done) | (rename_i hu;simp [Value.okWide,hu,Cell.okWide,Cell.ok] at hv)
 cases v<;>simp_all [Value.cells]
theorem JB {H:Type} {enc:TypeId×Value→H} {W:World} {sp:Nat→Bool} {r:Reach} {b0:Nat} {t:TypeId} {v:Value} {d:DataW H} {ps:List MemPlace} (T:Ty) (hs:DZ P T t=true) (hv:Value.okWide P W r b0 t v) (h:DataW.Trod enc P W 0 sp true t v d ps):
  ∃ l,lI T l∧bk (wJ W) (AU T l) v:=by
 obtain ⟨fuel,h⟩:=h
 obtain ⟨l,h1,h2,h3⟩:=xP T t fuel _ _ hs h
 refine ⟨l,h1,?_⟩
 cases hT:T.isAgg with
 | true=>
  have:∃ cs,v= .agg cs:=by
   cases T<;>simp only [Ty.isAgg,Bool.false_eq_true] at hT<;>simp only [DZ] at hs<;>split at hs<;>first | (cases hs;done) | (rename_i hu;simp only [Value.okWide,hu] at hv;obtain ⟨cs,e,_⟩:=hv;exact ⟨cs,e⟩)
  obtain ⟨cs,rfl⟩:=this
  simp only [AU,hT,if_true,bk]
  exact ⟨cs.toList,rfl,by simpa [Value.cells] using h2,by simpa [Value.cells] using h3⟩
 | false=>
  have hc:=Ut hT hs hv
  rw [hc] at h2
  have hw:=D0 h1
  simp only [AU,hT,Bool.false_eq_true,if_false] at hw ⊢
  cases l with
  | nil=>simp [bP] at h2
  | cons x q=>
   simp only [bP] at h2
   obtain ⟨v',vr,e,e1,e2⟩:=h2
   simp only [List.cons.injEq] at e
   obtain ⟨rfl,_⟩:=e
   simpa using e1
theorem Po {l:List D} (h:lI (.int .u8) l):∃ b:UInt8,l=[aa b]:=by
 simp only [lI] at h
 obtain ⟨n,rfl,hw⟩:=h
 have hr:0≤n∧n≤255:=by
  simp only [Lit.wf,Bool.and_eq_true,decide_eq_true_eq] at hw
  have h1:IntKind.u8.min=0:=by decide
  have h2:IntKind.u8.max=255:=by decide
  rw [h1,h2] at hw
  exact hw
 refine ⟨UInt8.ofNat n.toNat,?_⟩
 have:((UInt8.ofNat n.toNat).toNat:Int)=n:=by
  rw [UInt8.toNat_ofNat']
  omega
 rw [aa,this]
theorem Hj {α:Type} {e:Ty} {f:α→D} (one:∀ x:D,lI e x.cells→(∃ c,x= .agg c)=(e.isAgg=true)→∃ a,x=f a):∀ {xs:List D},(∀ x∈xs,lI e x.cells∧(∃ c,x= .agg c)=(e.isAgg=true))→∃ U:List α,U.length=xs.length∧xs=U.map f
 | [],_=>⟨[],rfl,rfl⟩
 | x::r,h=>by
  obtain ⟨a,e1⟩:=one x (h x (List.mem_cons_self ..)).1 (h x (List.mem_cons_self ..)).2
  obtain ⟨U,h1,h2⟩:=Hj one (xs:=r) fun y hy=>h y (List.mem_cons_of_mem _ hy)
  exact ⟨a::U,by simp [h1],by simp [e1,h2]⟩
theorem Ma {x y:D} (h:x.cells=[y]) (ha:(∃ c,x= .agg c)=(false=true)):x=y:=by
 cases x with
 | agg c=>
  have:(false=true):=ha▸⟨c,rfl⟩
  cases this
 | _=>simpa [D.cells] using h
end Go.Proofs.YtlfjfoknbjcncaaGreat.K
namespace Go.Proofs.YtlfjfoknbjcncaaGreat.K
open Go Go.RowKit
theorem ofInt_u8 (a:UInt8):BitVec.ofInt IntKind.u8.bits (a.toNat:Int)=a.toBitVec:=by
 apply BitVec.eq_of_toNat_eq
 simp [IntKind.bits]
theorem Xe (a:UInt8):(0:Int)≤a.toNat∧(a.toNat:Int)≤255:=by
 have:a.toNat<256:=a.toNat_lt
 omega
theorem xQ (a:UInt8):IntKind.u8.wrap (a.toNat:Int)=a.toNat:=wrap_u8 (Xe a)
theorem Xf (a b:UInt8):IntKind.u8.wrap ((BitVec.ofInt IntKind.u8.bits (a.toNat:Int)||| BitVec.ofInt IntKind.u8.bits (b.toNat:Int)).toNat:Int)=(a||| b).toNat:=by
 rw [ofInt_u8,ofInt_u8]
 exact xQ (a||| b)
theorem Uu (a b:UInt8):IntKind.u8.wrap ((BitVec.ofInt IntKind.u8.bits (a.toNat:Int)&&& BitVec.ofInt IntKind.u8.bits (b.toNat:Int)).toNat:Int)=(a&&& b).toNat:=by
 rw [ofInt_u8,ofInt_u8]
 exact xQ (a&&& b)
theorem Uv (a b:UInt8):IntKind.u8.wrap ((a.toNat:Int)+(b.toNat:Int))=(a+b).toNat:=by
 rw [IntKind.wrap_u8,UInt8.toNat_add]
 omega
theorem xR:∀ l:List D,PV.dW (l.map .d)=some l
 | []=>rfl
 | x::r=>by simp only [List.map_cons,PV.dW,PV.cN,xR r,Option.map_some]
theorem xU:maxLen=9223372036854775807:=rfl
theorem fH.lone {M:List Nat} {L:List Rec} (n:Nat) (h1:∀ R∈L.take n,R.T=[]∧R.W=[]∧R.lo=R.hi) (h2:∀ R∈L.drop (n+1),R.T=[]∧R.W=[]):fH M L:=by
 intro i j a b hij ha hb hx
 have front:∀ (k:Nat) (R:Rec),k<n→L[k]? =some R→R.T=[]∧R.W=[]∧R.lo=R.hi:=fun k R hk hR=>h1 R (List.mem_of_getElem? (i:=k) (by rw [List.getElem?_take,if_pos hk];exact hR))
 have back:∀ (k:Nat) (R:Rec),n<k→L[k]? =some R→R.T=[]∧R.W=[]:=fun k R hk hR=>h2 R (List.mem_of_getElem? (i:=k-(n+1)) (by rw [List.getElem?_drop,show n+1+(k-(n+1))=k from by omega];exact hR))
 rcases Nat.lt_trichotomy j n with hj | hj | hj
 ·have hB:=front j b hj hb
  rcases hx with ⟨x,hx,_⟩ | ⟨x,_,hx⟩
  ·rw [hB.1] at hx;cases hx
  ·rw [hB.2.1] at hx;cases hx
 ·have hA:=front i a (by omega) ha
  rcases hx with ⟨x,_,hx | hx⟩ | ⟨x,hx,_⟩
  ·rw [hA.2.1] at hx;cases hx
  ·rw [hA.2.2] at hx;omega
  ·rw [hA.1] at hx;cases hx
 ·have hB:=back j b hj hb
  rcases hx with ⟨x,hx,_⟩ | ⟨x,_,hx⟩
  ·rw [hB.1] at hx;cases hx
  ·rw [hB.2] at hx;cases hx
end Go.Proofs.YtlfjfoknbjcncaaGreat.K
namespace Go.Proofs.YtlfjfoknbjcncaaGreat.K
open Go Go.RowKit
variable {P:Program} {N:Nat} {ops:Array Oper} {o:Oper} {r:List Oper} {s:St}
def AtS (S:Nat→PV):List (Nat×PV)→Prop
 | []=>True
 | x::r=>S x.1=x.2∧AtS S r
theorem K3 (bs:ByteArray):∀ (n i:Nat) (r:List UInt8),bs.size-i=n→ByteArray.toList.loop bs i r=r.reverse++bs.data.toList.drop i:=by
 have e:bs.data.size=bs.size:=rfl
 intro n
 induction n with
 | zero=>
  intro i r h
  rw [ByteArray.toList.loop,if_neg (by omega),List.drop_eq_nil_of_le (by simp;omega),List.append_nil]
 | succ n ih=>
  intro i r h
  rw [ByteArray.toList.loop,if_pos (by omega),ih (i+1) _ (by omega)]
  have hi:i<bs.data.toList.length:=by simp;omega
  rw [List.drop_eq_getElem_cons hi,List.reverse_cons,List.append_assoc]
  congr 2
  rw [ByteArray.get!,getElem!_pos bs.data i (by simpa using hi)]
  simp
theorem uT (l:List UInt8):(ByteArray.mk l.toArray).toList=l:=by
 rw [ByteArray.toList,K3 _ _ 0 [] rfl]
 simp
theorem uj (l:List UInt8):(ByteArray.mk l.toArray).size=l.length:=by simp [ByteArray.size]
theorem FK (a b:List UInt8):ByteArray.mk a.toArray++ByteArray.mk b.toArray=ByteArray.mk (a++b).toArray:=by
 apply WideShapes.bytes_inj
 simp
theorem D1 (l:List UInt8) (i j:Nat):(ByteArray.mk l.toArray).extract i j=ByteArray.mk ((l.drop i).take (j-i)).toArray:=by
 apply WideShapes.bytes_inj
 simp
theorem Mb:IntKind.i64.max=9223372036854775807:=rfl
theorem EW {m:Mem} {ρ:dA} {p q:PV} (h:∀ v,aO m ρ p v→aO m ρ q v):∀ (l:List PV) (vs:List Value) (j:Nat),l[j]? =some p→bC m ρ l vs→bC m ρ (l.set j q) vs
 | [],vs,j,hj,_=>by simp at hj
 | x::r,vs,0,hj,hr=>by
  simp only [List.getElem?_cons_zero,Option.some.injEq] at hj
  subst hj
  simp only [List.set_cons_zero,bC] at hr ⊢
  obtain ⟨v,vr,e1,e2,e3⟩:=hr
  exact ⟨v,vr,e1,h v e2,e3⟩
 | x::r,vs,j+1,hj,hr=>by
  simp only [List.getElem?_cons_succ] at hj
  simp only [List.set_cons_succ,bC] at hr ⊢
  obtain ⟨v,vr,e1,e2,e3⟩:=hr
  exact ⟨v,vr,e1,e2,EW h r vr j hj e3⟩
theorem n7 (a:UInt8):a.toNat<256:=a.toNat_lt
theorem N5 (b:UInt8):IntKind.i64.wrap (b.toNat:Int)=(b.toNat:Int):=wrap_i64 (by have:=n7 b;omega)
attribute [go_sem] Int.natCast_zero Int.cast_ofNat_Int List.all_cons List.all_nil N5 UInt8.ofNat_toNat List.size_toArray Int.tdiv_eq_ediv_of_nonneg Int.tmod_eq_emod_of_nonneg xQ uT uj FK D1 Mb aU uG pN BU BV eq_self true_implies false_implies Int.toNat_natCast Op.operands Call.operands Array.toList_append List.nil_append List.append_nil s4 fE AS ym Gh jV aH qP isEq CE zB xO Ak pH bin un zn uf jJ AQ PV.elems C8 yj oF pY oy DR xK AL oH C9 vp DY pV lX lW placeOf LR PV.iF PV.ir PV.cN PV.dW PV.more Hg p4 p5 Nat.one_ne_zero Nat.zero_ne_one if_true if_false and_true true_and and_self Bool.and_true Bool.true_and Bool.and_false Bool.false_and Bool.false_eq_true beq_self_eq_true Bool.not_true Bool.not_false Bool.not_eq_true Bool.not_eq_false Bool.cond_true Bool.cond_false List.map_cons List.map_nil List.length_cons List.length_nil List.length_map decide_true decide_false List.drop_zero List.drop_succ_cons List.headD_cons List.getD_cons_zero List.getD_cons_succ forall_const imp_self ne_eq not_true not_false_eq_true Option.map_some Option.map_none List.cons_append and_assoc yN RW ni xR Nat.mul_one List.forall_mem_cons List.not_mem_nil List.mem_cons forall_eq_or_imp forall_eq implies_true Option.some.injEq HO.spare.injEq Value.oneCell' List.length_replicate xU DV DX wrap_i64 wrap_u64 wrap_u8
end Go.Proofs.YtlfjfoknbjcncaaGreat.K
namespace Go.Proofs.YtlfjfoknbjcncaaGreat.K
open Go Go.RowKit
abbrev Wd:=BitVec 32
def D2 (m:Nat):List Rec→Nat→Bool
 | [],_=>true
 | R::r,i=>(R.T.isEmpty||m.testBit i)&&D2 m r (i+1)
theorem FL {m:Nat}:∀ {L:List Rec} {k i:Nat} {R:Rec},D2 m L k=true→L[i]? =some R→R.T≠[]→m.testBit (k+i)=true
 | R'::r,k,0,R,h,e,hT=>by
  simp only [List.getElem?_cons_zero,Option.some.injEq] at e
  subst e
  simp only [D2,Bool.and_eq_true,Bool.or_eq_true,List.isEmpty_iff] at h
  exact h.1.resolve_left hT
 | R'::r,k,i+1,R,h,e,hT=>by
  simp only [List.getElem?_cons_succ] at e
  simp only [D2,Bool.and_eq_true] at h
  have:=FL h.2 e hT
  rwa [show k+1+i=k+(i+1) by omega] at this
 | [],_,_,_,_,e,_=>by simp at e
theorem fH.last {M:List Nat} {L:List Rec} (n:Nat) (h1:∀ R∈L.take n,R.W=[]∧R.lo=R.hi) (h2:∀ R∈L.drop (n+1),R.T=[]∧R.W=[]) (h3:D2 (M.getD n 0) (L.take n) 0=true):fH M L:=by
 intro i j a b hij ha hb hx
 have front:∀ (k:Nat) (R:Rec),k<n→L[k]? =some R→R.W=[]∧R.lo=R.hi:=fun k R hk hR=>h1 R (List.mem_of_getElem? (i:=k) (by rw [List.getElem?_take,if_pos hk];exact hR))
 have back:∀ (k:Nat) (R:Rec),n<k→L[k]? =some R→R.T=[]∧R.W=[]:=fun k R hk hR=>h2 R (List.mem_of_getElem? (i:=k-(n+1)) (by rw [List.getElem?_drop,show n+1+(k-(n+1))=k from by omega];exact hR))
 rcases Nat.lt_trichotomy j n with hj | hj | hj
 ·have hB:=front j b hj hb
  have hA:=front i a (by omega) ha
  rcases hx with ⟨x,_,hx | hx⟩ | ⟨x,_,hx⟩
  ·rw [hA.1] at hx;cases hx
  ·omega
  ·rw [hB.1] at hx;cases hx
 ·subst hj
  have hA:=front i a hij ha
  rcases hx with ⟨x,_,hx | hx⟩ | ⟨x,hx,_⟩
  ·rw [hA.1] at hx;cases hx
  ·omega
  ·have:=FL h3 (i:=i) (R:=a) (by rw [List.getElem?_take,if_pos hij];exact ha) (by intro e;rw [e] at hx;cases hx)
   simpa using this
 ·have hB:=back j b hj hb
  rcases hx with ⟨x,hx,_⟩ | ⟨x,_,hx⟩
  ·rw [hB.1] at hx;cases hx
  ·rw [hB.2] at hx;cases hx
attribute [go_sem] Nat.zero_add
end Go.Proofs.YtlfjfoknbjcncaaGreat.K
namespace Go.Proofs.YtlfjfoknbjcncaaGreat.K
open Go Go.RowKit
variable {P:Program} {N:Nat} {ops:Array Oper} {o:Oper} {r:List Oper} {s:St}
theorem Mc {s:St} {m:Mem} {ρ:dA} {w:World} (T:List Nat) (V:eu (· ∈T) m ρ w s.H) (hf:∀ i,s.nx≤i→i<s.nx+1→ρ i=none) {vals rest:List Value} {sz n cap:Nat} (h1:∀ v∈vals,v.oneCell'=true) (hv:vals.length=n*sz)
  (hr:vals.length+rest.length=cap*sz) (hc:n≤cap) (hm:cap≤maxLen) (e:TypeId) (fr:Nat×Nat) (hfr:(vals++rest).length≤fr.1) (Hd:HM) (hd:∀ i,Hd i=none∨Hd i=s.H i):
  Ah (· ∈T) s.nx (s.nx+1) m ρ w s.H (m.with w.heap.size vals) (fun i=>if i=s.nx then some (w.heap.size,cap) else ρ i) (w.drew.alloc (.cells ⟨vals++rest⟩ e fr)) (fun i=>if i=s.nx then some (.spare sz n) else Hd i):=by
 have hle:ρ.le (fun i=>if i=s.nx then some (w.heap.size,cap) else ρ i):=by
  intro i x e
  have:i≠s.nx:=by intro h;subst h;rw [hf _ (Nat.le_refl _) (by omega)] at e;cases e
  simp [this,e]
 have hml:=Mem.uQ (vs:=vals) (uR V.mem)
 have hold:∀ k,k<w.heap.size→(w.drew.alloc (.cells ⟨vals++rest⟩ e fr)).heap[k]? =w.heap[k]? :=fun k hk=>heap_alloc_old w.drew _ hk
 have hnew:(w.drew.alloc (.cells ⟨vals++rest⟩ e fr)).heap[w.heap.size]? =some (.cells ⟨vals++rest⟩ e fr):=heap_alloc_new w.drew _
 have hnm:∀ b o v,(m.with w.heap.size vals) b o=some v→m b o=some v∨w.heap.size≤b:=by
  intro b o v h
  unfold Mem.with at h
  split at h
  ·exact .inr (by omega)
  ·exact .inl h
 have hmem:gr (m.with w.heap.size vals) (w.drew.alloc (.cells ⟨vals++rest⟩ e fr)):=by
  refine V.mem.with (fun b ⟨_,_,h⟩=>hold b (V.mem.lt h)) (fun o v h=>?_) h1
  rw [iH hnew,List.getElem?_append_left (List.getElem?_eq_some_iff.1 h).1]
  exact h
 refine ⟨⟨hml,by simp,fun b hb _=>hold b hb,rfl,rfl,rfl,fun b o v h=>(hnm b o v h).imp id .inr⟩,hle,fun i=>?_,⟨hmem,?_,?_⟩,?_⟩
 ·by_cases h:i=s.nx
  ·exact .inr ⟨by omega,by omega⟩
  ·simp [h]
 ·intro i o hi hH
  by_cases h:i=s.nx
  ·subst h
   simp only [if_true,Option.some.injEq] at hH
   subst hH
   refine .inr ⟨w.heap.size,cap,_,e,fr,by simp,hnew,by simp;omega,hc,hm,by simp only [List.size_toArray] at hfr ⊢;omega,fun o ho=>?_⟩
   simp only [Mem.with,if_true]
   exact List.getElem?_eq_none (by omega)
  ·simp only [h,if_false] at hH
   have vo:s.H i=some o:=by
    rcases hd i with h' | h'
    ·rw [h'] at hH;cases hH
    ·rw [← h'];exact hH
   have hE:=V.entry i o (hi.elim id (by omega)) vo
   refine hE.move hml hle (by simp [h]) (fun b c hr=>hold b (hE.pU hr)) (fun b c hr o' v h'=>?_)
   rcases hnm b o' v h' with h'' | h''
   ·exact h''
   ·have:=hE.pU hr;omega
 ·intro i j b c c' hi hj Cq zx gi kn
  have old:∀ k,(k∈T∨(s.nx≤k∧k<s.nx+1))→k≠s.nx→(if k=s.nx then some (HO.spare sz n) else Hd k)≠none→∀ b c,(if k=s.nx then some (w.heap.size,cap) else ρ k)=some (b,c)→k∈T∧s.H k≠none∧ρ k=some (b,c)∧b<w.heap.size:=by
   intro k hk hne hl b c hr
   simp only [hne,if_false] at hl hr
   have G6:k∈T:=hk.elim id (by omega)
   have hl':s.H k≠none:=by
    rcases hd k with h' | h'
    ·exact absurd h' hl
    ·rw [← h'];exact hl
   refine ⟨G6,hl',hr,?_⟩
   cases e:s.H k with
   | none=>exact absurd e hl'
   | some o=>exact (V.entry k o G6 e).pU hr
  by_cases h:i=s.nx<;>by_cases h':j=s.nx
  ·rw [h,h']
  ·subst h
   have:=old j hj h' zx b c' kn
   simp at gi
   omega
  ·subst h'
   have:=old i hi h Cq b c gi
   simp at kn
   omega
  ·have e1:=old i hi h Cq b c gi
   have e2:=old j hj h' zx b c' kn
   exact V.apart i j b c c' e1.1 e2.1 e1.2.1 e2.2.1 e1.2.2.1 e2.2.2.1
 ·rintro b ⟨i,c,hi,hl,hr⟩
  by_cases h:i=s.nx
  ·subst h
   simp at hr
   exact .inr (by omega)
  ·simp only [h,if_false] at hl hr
   have hl':s.H i≠none:=by
    rcases hd i with h' | h'
    ·exact absurd h' hl
    ·rw [← h'];exact hl
   exact .inl ⟨i,c,hi.elim id (by omega),hl',hr⟩
theorem Md {t u e:TypeId} {x:Operand} {l:List UInt8} (ho:o.op= .convert t u x) (hs:P.underlying t=some .string) (hd:P.underlying u=some (.slice e)) (he:P.underlying e=some (.int .u8))
  (hx:aH s.S x= .d (.val (.string ⟨l.toArray⟩))) (hn:∀ i,s.nx≤i→s.H i=none) (hl:l.length≤maxLen):
  n4 P o s (.own s.nx (l.map aa)) (fun i=>if i=s.nx then some (.spare 1 l.length) else s.H i) (s.nx+1) [] []:=by
 refine ⟨by omega,fun i _ hi=>?_,fun i hi=>?_,by simp,by simp,?_⟩
 ·have:i≠s.nx:=by omega
  simp [this]
 ·have:i≠s.nx:=by omega
  simp [this,hn i (by omega)]
 intro m ρ a w K Q V hf hxs hK
 have h1:=hxs x (by simp [ho,Op.operands])
 rw [hx] at h1
 simp only [aO,bk] at h1
 have hz:(ByteArray.mk l.toArray).size=l.length:=uj l
 have hrun:=run_bytes_of_string (P:=P) w t u e ⟨l.toArray⟩ hs hd he
 have hge:=grownCap_ge w (ByteArray.mk l.toArray).size 0 e
 have I6:=grownCap_le_maxLen w (ByteArray.mk l.toArray).size 0 e (by rw [hz];exact hl)
 have hb:bytesRow ⟨l.toArray⟩ (grownCap w (ByteArray.mk l.toArray).size 0 e)=⟨(l.map fun b=>Value.int .u8 b.toNat)++List.replicate (grownCap w (ByteArray.mk l.toArray).size 0 e-l.length) (.int .u8 0)⟩:=by
  apply Array.ext'
  simp [bytesRow,hz]
 rw [hb] at hrun
 generalize grownCap w (ByteArray.mk l.toArray).size 0 e=cap at*
 rw [hz] at hge hrun
 have hD:=Mc (s:=s) (w:=w) [] V hf (vals:=l.map fun b=>Value.int .u8 b.toNat) (rest:=List.replicate (cap-l.length) (.int .u8 0)) (sz:=1) (n:=l.length) (cap:=cap)
  (fun v hv=>by obtain ⟨b,_,rfl⟩:=List.mem_map.1 hv;rfl) (by simp) (by simp;omega) hge I6 e (((l.map fun b=>Value.int .u8 b.toNat)++List.replicate (cap-l.length) (Value.int .u8 0)).length,((l.map fun b=>Value.int .u8 b.toNat)++List.replicate (cap-l.length) (Value.int .u8 0)).length+1) (Nat.le_refl _) s.H (fun i=> .inr rfl)
 unfold Oper.wp
 have N6:(execOp a.eval o).run P w= .ok (.value (.slice (some ⟨w.heap.size,0,none⟩) l.length cap)) (w.drew.alloc (.cells ⟨(l.map fun b=>Value.int .u8 b.toNat)++List.replicate (cap-l.length) (.int .u8 0)⟩ e (((l.map fun b=>Value.int .u8 b.toNat)++List.replicate (cap-l.length) (Value.int .u8 0)).length,((l.map fun b=>Value.int .u8 b.toNat)++List.replicate (cap-l.length) (Value.int .u8 0)).length+1))):=by
  obtain ⟨dst,op',type,pos,after,guard⟩:=o
  simp only at ho
  subst ho
  simp only [execOp,h1,Sem.run_bind,hrun,Result.andThen_ok]
  rfl
 rw [N6,Oper.upon_value]
 refine hK _ _ _ _ hD ?_
 simp only [aO]
 refine .inl ⟨w.heap.size,cap,by simp,by simp,by simpa using hge,?_⟩
 refine kR (vs:=l.map fun b=>Value.int .u8 b.toNat) ?_ (fun j v hj=>by simp [Mem.with,hj])
 have:∀ bs:List UInt8,bP (m.with w.heap.size (l.map fun b=>Value.int .u8 b.toNat)) ((bs.map aa).flatMap D.cells) (bs.map fun b=> .int .u8 b.toNat):=by
  intro bs
  induction bs with
  | nil=>simp [bP]
  | cons b r ih=>simp only [List.map_cons,List.flatMap_cons,aa,Hg,List.singleton_append,bP,bk];exact ⟨_,_,rfl,rfl,by simpa [aa] using ih⟩
 exact this l
theorem XK.Uw {Q:PX→St→Prop} {t u e:TypeId} {x:Operand} {l:List UInt8} (hg:o.guard=none) (ho:o.op= .convert t u x) (hs:P.underlying t=some .string) (hd:P.underlying u=some (.slice e)) (he:P.underlying e=some (.int .u8))
  (hx:aH s.S x= .d (.val (.string ⟨l.toArray⟩))) (hl:l.length≤maxLen) (h:XK P ops r ⟨eK s.S o.dst (.own s.nx (l.map aa)),cG s.H s.nx (some (.spare 1 l.length)),s.nx+1,s.df⟩ Q):XK P ops (o::r) s Q:=by
 intro hn
 have WN:=Md (P:=P) ho hs hd he hx hn hl
 exact .step (R:=⟨[],[],s.nx,s.nx+1⟩) (.run hg WN) (h WN.nil)
theorem Me (k:Nat):IntKind.u8.wrap (k:Int)=((UInt8.ofNat k).toNat:Int):=by
 rw [IntKind.wrap_u8,UInt8.toNat_ofNat']
 omega
attribute [go_sem] Option.isSome_some Option.isSome_none Int.sub_zero
end Go.Proofs.YtlfjfoknbjcncaaGreat.K
namespace Go.Proofs.YtlfjfoknbjcncaaGreat.K
open Go Go.RowKit
variable {P:Program} {N:Nat} {ops:Array Oper} {o:Oper} {r:List Oper} {s:St}
theorem Mf {t e:TypeId} {w:World} (hu:P.underlying t=some (.slice e)) (a:Option Addr) (n c:Nat):(Op.equal t (.slice a n c) (.slice none 0 0)).run P w= .ok a.isNone w:=by
 have:∀ k,(Op.equalIn (k+1) t (.slice a n c) (.slice none 0 0)).run P w= .ok a.isNone w:=fun k=>by cases a<;>simp [Op.equalIn,run_underlying hu]
 exact this 9999
theorem K4 {t e u:TypeId} {x:Operand} {op:BinOp} (ho:o.op= .binOp op t x (.const (.slice none 0 0)) u) (hop:op= .eql∨op= .neq) (hu:P.underlying t=some (.slice e)) {l:List D} (hx:aH s.S x= .d (.slice l)):
  ES P o s fun out H' cw=>∃ b:Bool,(l≠[]→b=false)∧out= .ret (.d (.val (.bool (pH op b))))∧H'=s.H∧cw=s.nx:=by
 intro m ρ a w K Q V hn hρ hxs h1 _
 have h2:=hxs x (by simp [ho,Op.operands])
 rw [hx] at h2
 simp only [aO,bk] at h2
 obtain ⟨ad,c,ev,_,hl⟩:=h2
 have hb:l≠[]→ad.isNone=false:=by
  intro hne
  rcases hl with rfl | ⟨b,o',rfl,_⟩
  ·exact absurd rfl hne
  ·rfl
 have N6:(execOp a.eval o).run P w= .ok (.value (.bool (pH op ad.isNone))) w:=by
  obtain ⟨dst,op',type,pos,after,guard⟩:=o
  simp only at ho
  subst ho
  have hc:a.eval (.const (.slice none 0 0))= .slice none 0 0:=rfl
  rcases hop with rfl | rfl<;>simp [execOp,ev,hc,eqGuard,binOp,Mf hu,pH]
 unfold Oper.wp
 rw [N6,Oper.upon_value]
 exact h1 _ s.H s.nx m ρ w _ ⟨_,hb,rfl,rfl,rfl⟩ V hn hρ (oG.refl _ _ _ _ _) (by simp [aO,bk])
theorem XK.R3 {Q:PX→St→Prop} {t e u:TypeId} {x:Operand} {op:BinOp} {l:List D} (hg:o.guard=none) (ho:o.op= .binOp op t x (.const (.slice none 0 0)) u) (hop:op= .eql∨op= .neq) (hu:P.underlying t=some (.slice e)) (hx:aH s.S x= .d (.slice l))
  (h:∀ b:Bool,(l≠[]→b=false)→XK P ops r ⟨eK s.S o.dst (.d (.val (.bool (pH op b)))),s.H,s.nx,s.df⟩ Q):XK P ops (o::r) s Q:=by
 intro hn
 refine .call hg (K4 ho hop hu hx) ?_ ?_
 ·rintro p H' cw ⟨b,hb,e,rfl,rfl⟩ hn'
  cases e
  exact h b hb hn
 ·rintro p H' cw ⟨b,_,e,_⟩
  cases e
end Go.Proofs.YtlfjfoknbjcncaaGreat.K
namespace Go.Proofs.YtlfjfoknbjcncaaGreat.K
open Go Go.RowKit
variable {P:Program} {N:Nat} {ops:Array Oper} {o:Oper} {r:List Oper} {s:St}
def Xg (nx sz:Nat) (l:List D):Out→HM→Nat→Prop:=fun out H' cw=>∃ j,nx≤j∧j<cw∧out= .ret (.own j l)∧H'=fun i=>if i=j then some (.spare sz l.length) else none
def YN (P:Program) (f:Nat) (ds:List D) (sz:Nat) (l:List D):Prop:=∀ nx,Spec P f (ds.map .d) (fun _=>none) nx (Xg nx sz l)
theorem Xh {c:Call} {f sz:Nat} {ds l:List D} (ho:o.op= .call c) (hc:c.callee= .value (.func f)) (he:e8 P f=true) (hd:PV.dW (c.args.toList.map (aH s.S))=some ds) (hF:YN P f ds sz l) (hn:∀ i,s.nx≤i→s.H i=none):
  n4 P o s (.own s.nx l) (cG s.H s.nx (some (.spare sz l.length))) (s.nx+1) [] []:=by
 refine ⟨by omega,fun i _ hi=>?_,fun i hi=>?_,by simp,by simp,?_⟩
 ·have:i≠s.nx:=by omega
  simp [cG,this]
 ·have:i≠s.nx:=by omega
  simp [cG,this,hn i (by omega)]
 intro m ρ a w K Q V hf hx hK
 have hx':∀ x∈c.args.toList,aO m ρ (aH s.S x) (a.eval x):=fun x hx'=>hx x (by simp only [ho,Op.operands,Call.operands];simp only [Array.mem_append];exact .inr (by simpa using hx'))
 unfold Oper.wp
 rw [sZ ho hc he,Oper.upon_enter]
 have hr:=xM hx' hd
 have:=hF s.nx m (fun _=>none) w _ ⟨V.mem,fun i o _ h=>(by cases h),fun i j b c c' _ _ h _ _ _=>absurd rfl h⟩ (fun _ _=>rfl) (fun _ _=>rfl) (K2 hr)
 have e:(⟨c.args.toList.map a.eval⟩:Array Value)=c.args.map a.eval:=by apply Array.ext';simp
 rw [e] at this
 refine this.mono ?_
 rintro e w' ⟨out,H',cw,m',ρ',⟨j,YO,hj2,rfl,rfl⟩,V',hn',hr',hA,I9⟩
 obtain ⟨v,rfl,hv⟩:=I9
 have YP:ρ s.nx=none:=hf _ (Nat.le_refl _) (by omega)
 refine hK v m' (fun i=>if i=s.nx then ρ' j else ρ i) w' ⟨hA.ext.mono (by rintro b ⟨i,c,_,h,_⟩;exact absurd rfl h),fun i x e=>?_,fun i=>?_,⟨V'.mem,fun i o hi hH=>?_,fun i k b c1 c2 hi hk _ _ _ _=>?_⟩,?_⟩ ?_
 ·have:i≠s.nx:=by intro h;subst h;rw [YP] at e;cases e
  simp [this,e]
 ·by_cases h:i=s.nx
  ·exact .inr ⟨by omega,by omega⟩
  ·simp [h]
 ·have h:i=s.nx:=hi.elim (fun h=>by cases h) (by omega)
  subst h
  simp only [cG,if_true,Option.some.injEq] at hH
  subst hH
  have hE:=V'.entry j (.spare sz l.length) trivial (by simp)
  rcases hE with ⟨e1,e2⟩ | ⟨b,c1,vs,t,fr,e1,e2⟩
  ·exact .inl ⟨e1,by simp [e2]⟩
  ·exact .inr ⟨b,c1,vs,t,fr,by simp [e1],e2⟩
 ·have h1:i=s.nx:=hi.elim (fun h=>by cases h) (by omega)
  have h2:k=s.nx:=hk.elim (fun h=>by cases h) (by omega)
  rw [h1,h2]
 ·rintro b ⟨i,c1,hi,hl,gi⟩
  have h1:i=s.nx:=hi.elim (fun h=>by cases h) (by omega)
  subst h1
  simp only [if_true] at gi
  rcases hA.place b ⟨j,c1,trivial,by simp,gi⟩ with ⟨_,_,_,h,_⟩ | h
  ·exact absurd rfl h
  ·exact .inr h
 ·simp only [aO] at hv ⊢
  rcases hv with ⟨b,c1,e1,e2⟩ | h
  ·exact .inl ⟨b,c1,by simp [e1],e2⟩
  ·exact .inr h
attribute [go_sem] List.getElem?_cons_zero List.getElem?_cons_succ Int.toNat_sub
end Go.Proofs.YtlfjfoknbjcncaaGreat.K
namespace Go.Proofs.YtlfjfoknbjcncaaGreat.K
open Go Go.RowKit
variable {P:Program} {N:Nat}
structure Al (b:Nat) (m0:Mem) (lG:dA) (w0:World) (H0:HM) (n:Nat) (m:Mem) (ρ:dA) (w:World) (H:HM):Prop where
 ext:Ext (yg lG H0 fun _=>True) m0 w0 m w
 place:∀ c,yg ρ H (fun _=>True) c→yg lG H0 (fun _=>True) c∨w0.heap.size≤c
 le:b≤n
 old:∀ i,i<b→ρ i=lG i
theorem oG.Ux {b n0 n:Nat} {m0 m:Mem} {lG ρ:dA} {w0 w:World} {H0 H:HM} (h:oG n0 m0 lG w0 H0 n m ρ w H) (hb:b≤n0):Al b m0 lG w0 H0 n m ρ w H:=
 ⟨h.ext,h.place,Nat.le_trans hb h.le,fun i hi=>h.old i (Nat.lt_of_lt_of_le hi hb)⟩
theorem Al.trans {b n1 n2:Nat} {m0 m1 m2:Mem} {lG Gc lH:dA} {w0 w1 w2:World} {H0 H1 H2:HM} (h:Al b m0 lG w0 H0 n1 m1 Gc w1 H1) (k:Al b m1 Gc w1 H1 n2 m2 lH w2 H2):
  Al b m0 lG w0 H0 n2 m2 lH w2 H2:=
 ⟨h.ext.trans k.ext h.place,fun c hc=>(k.place c hc).elim (h.place c) (fun x=> .inr (Nat.le_trans h.ext.size x)),k.le,fun i hi=>(k.old i hi).trans (h.old i hi)⟩
def K5 (N b:Nat) (m0:Mem) (lG:dA) (w0:World) (H0:HM) (Q:PX→St→Prop) (e:Exit) (a:Act) (w:World):Prop:=
 ∃ px s m ρ,Q px s∧RX m ρ px e∧Inv N s m ρ a w∧Al b m0 lG w0 H0 s.nx m ρ w s.H
def QW (P:Program) (N b:Nat) (c:Code) (s:St) (Q:PX→St→Prop):Prop:=
 b≤s.nx∧∀ m ρ a w,Inv N s m ρ a w→c.wp P (K5 N b m ρ w s.H Q) a w
theorem K5.K6 {b n1:Nat} {m0 m1:Mem} {lG Gc:dA} {w0 w1:World} {H0 H1:HM} {Q:PX→St→Prop} {e:Exit} {a:Act} {w:World} (hA:Al b m0 lG w0 H0 n1 m1 Gc w1 H1)
  (h:K5 N b m1 Gc w1 H1 Q e a w):K5 N b m0 lG w0 H0 Q e a w:=by
 obtain ⟨px,s,m,ρ,h1,h2,h3,h4⟩:=h
 exact ⟨px,s,m,ρ,h1,h2,h3,hA.trans h4⟩
variable {b:Nat}
theorem QW.region {id:Nat} {ops:Array Oper} {g:Bool} {s:St} {Q:PX→St→Prop} (hb:b≤s.nx) (h:PW P N (.region id ops g) s Q):QW P N b (.region id ops g) s Q:=by
 refine ⟨hb,fun m ρ a w hI=>wp_mono (h m ρ a w hI) ?_⟩
 rintro e a' w' ⟨px,s',m',ρ',h1,h2,h3,h4⟩
 exact ⟨px,s',m',ρ',h1,h2,h3,h4.Ux hb⟩
theorem QW.seq {x y:Code} {s:St} {Q:PX→St→Prop} (h:QW P N b x s (PX.then (fun s'=>QW P N b y s' Q) Q)):QW P N b (.seq x y) s Q:=by
 refine ⟨h.1,fun m ρ a w hI=>?_⟩
 refine wp_seq (wp_mono (h.2 m ρ a w hI) ?_)
 rintro e a' w' ⟨px,s',m',ρ',hq,hr,nh,hA⟩
 cases px with
 | normal=>
  simp only [RX] at hr
  subst hr
  exact wp_mono (hq.2 m' ρ' a' w' nh) fun _ _ _ hp=>hp.K6 hA
 | exit i=>simp only [RX] at hr;subst hr;exact ⟨.exit i,s',m',ρ',hq,rfl,nh,hA⟩
 | ret=>simp only [RX] at hr;subst hr;exact ⟨.ret,s',m',ρ',hq,rfl,nh,hA⟩
 | panic p=>obtain ⟨v,rfl,hv⟩:=hr;exact ⟨.panic p,s',m',ρ',hq,⟨v,rfl,hv⟩,nh,hA⟩
theorem QW.skip {s:St} {Q:PX→St→Prop} (hb:b≤s.nx) (h:Q .normal s):QW P N b .skip s Q:=
 ⟨hb,fun m ρ _ _ hI=>wp_skip ⟨.normal,s,m,ρ,h,rfl,hI,(oG.refl _ _ _ _ _).Ux hb⟩⟩
theorem QW.exit {id:Nat} {s:St} {Q:PX→St→Prop} (hb:b≤s.nx) (h:Q (.exit id) s):QW P N b (.exit id) s Q:=
 ⟨hb,fun m ρ _ _ hI=>wp_exit ⟨.exit id,s,m,ρ,h,rfl,hI,(oG.refl _ _ _ _ _).Ux hb⟩⟩
theorem QW.ret {s:St} {Q:PX→St→Prop} (hb:b≤s.nx) (h:Q .ret s):QW P N b .ret s Q:=
 ⟨hb,fun m ρ _ _ hI=>wp_ret ⟨.ret,s,m,ρ,h,rfl,hI,(oG.refl _ _ _ _ _).Ux hb⟩⟩
theorem QW.cond {c:Operand} {x y:Code} {s:St} {Q:PX→St→Prop} {t:Bool} (hc:aH s.S c= .d (.val (.bool t))) (hb:b≤s.nx) (h1:t=true→QW P N b x s Q) (h2:t=false→QW P N b y s Q):
  QW P N b (.cond c x y) s Q:=by
 refine ⟨hb,fun m ρ a w hI=>?_⟩
 have hr:=ER hI.slots c
 rw [hc] at hr
 simp only [aO,bk] at hr
 exact wp_cond_split hr (fun hb=>(h1 hb).2 m ρ a w hI) (fun hb=>(h2 hb).2 m ρ a w hI)
theorem QW.Hl {c:Operand} {x y:Code} {s:St} {Q:PX→St→Prop} (hc:aH s.S c= .d (.val (.bool true))) (h1:QW P N b x s Q):QW P N b (.cond c x y) s Q:=
 QW.cond hc h1.1 (fun _=>h1) (fun h=>nomatch h)
theorem QW.N7 {c:Operand} {x y:Code} {s:St} {Q:PX→St→Prop} (hc:aH s.S c= .d (.val (.bool false))) (h1:QW P N b y s Q):QW P N b (.cond c x y) s Q:=
 QW.cond hc h1.1 (fun h=>nomatch h) (fun _=>h1)
theorem QW.block {id:Nat} {c:Code} {s:St} {Q:PX→St→Prop} (h:QW P N b c s (PX.inBlock id Q)):QW P N b (.block id c) s Q:=by
 refine ⟨h.1,fun m ρ a w hI=>?_⟩
 refine wp_block (wp_mono (h.2 m ρ a w hI) ?_)
 rintro e a' w' ⟨px,s',m',ρ',hq,hr,nh,hA⟩
 cases px with
 | normal=>simp only [RX] at hr;subst hr;exact ⟨.normal,s',m',ρ',hq,rfl,nh,hA⟩
 | exit i=>
  simp only [RX] at hr;subst hr
  simp only [PX.inBlock] at hq
  simp only [Exit.inBlock]
  split
  ·rename_i he
   rw [if_pos he] at hq
   exact ⟨.normal,s',m',ρ',hq,rfl,nh,hA⟩
  ·rename_i he
   rw [if_neg he] at hq
   exact ⟨.exit i,s',m',ρ',hq,rfl,nh,hA⟩
 | ret=>simp only [RX] at hr;subst hr;exact ⟨.ret,s',m',ρ',hq,rfl,nh,hA⟩
 | panic p=>obtain ⟨v,rfl,hv⟩:=hr;exact ⟨.panic p,s',m',ρ',hq,⟨v,rfl,hv⟩,nh,hA⟩
def View (N b:Nat) (s s':St):Prop:=
 ∀ m ρ a w,Inv N s m ρ a w→∃ m' ρ',Inv N s' m' ρ' a w∧Al b m ρ w s.H s'.nx m' ρ' w s'.H
theorem View.of {s s':St} (hb:b≤s'.nx) (h:∀ m ρ a w,Inv N s m ρ a w→∃ ρ',Inv N s' m ρ' a w∧(∀ c,yg ρ' s'.H (fun _=>True) c→yg ρ s.H (fun _=>True) c)∧∀ i,i<b→ρ' i=ρ i):View N b s s':=by
 intro m ρ a w hI
 obtain ⟨ρ',nh,hB,ho⟩:=h m ρ a w hI
 exact ⟨m,ρ',nh,⟨Ext.refl _ _ _,fun c hc=> .inl (hB c hc),hb,ho⟩⟩
theorem QW.view {c:Code} {s s':St} {Q:PX→St→Prop} (hv:View N b s s') (hb:b≤s.nx) (h:QW P N b c s' Q):QW P N b c s Q:=by
 refine ⟨hb,fun m ρ a w hI=>?_⟩
 obtain ⟨m',ρ',nh,hA⟩:=hv m ρ a w hI
 exact wp_mono (h.2 m' ρ' a w nh) fun _ _ _ hp=>hp.K6 hA
theorem View.refl {s:St} (h:b≤s.nx):View N b s s:=View.of h fun _ ρ _ _ hI=>⟨ρ,hI,fun _ h=>h,fun _ _=>rfl⟩
theorem QW.loop {c:Code} {s:St} {Q:PX→St→Prop} (I:Nat→St→Prop) (k:Nat) (hb:b≤s.nx) (h0:∃ s0,View N b s s0∧I k s0) (round:∀ k s,I k s→QW P N b c s (PX.then (fun s'=>∃ j,j<k∧∃ s'',View N b s' s''∧I j s'') Q)):QW P N b (.loop c) s Q:=by
 refine ⟨hb,fun m ρ a w hI=>?_⟩
 let R:Act→World→Nat→Prop:=fun a' w' k=>∃ s' m' ρ',I k s'∧Inv N s' m' ρ' a' w'∧Al b m ρ w s.H s'.nx m' ρ' w' s'.H
 have hex:R a w k:=by
  obtain ⟨s0,hv,hi⟩:=h0
  obtain ⟨m',ρ',nh,hA⟩:=hv m ρ a w hI
  exact ⟨s0,m',ρ',hi,nh,hA⟩
 open Classical in
 refine wp_loop (fun a' w'=>∃ k,R a' w' k) (fun a' w'=>if h:∃ k,R a' w' k∧∀ j,R a' w' j→k≤j then Classical.choose h else 0) ⟨_,hex⟩ ?_
 intro a1 w1 h1
 obtain ⟨k1,DS⟩:=h1
 have h1:=least k1 DS
 have R4:=Classical.choose_spec h1
 generalize hk:Classical.choose h1=kk at R4
 obtain ⟨⟨s1,m1,Gc,i1,v1,A1⟩,hmin⟩:=R4
 refine wp_mono ((round kk s1 i1).2 m1 Gc a1 w1 v1) ?_
 rintro e a' w' ⟨px,s',m',ρ',hq,hr,nh,hA⟩
 cases px with
 | normal=>
  simp only [RX] at hr;subst hr
  obtain ⟨j,hlt,s'',hv,hi⟩:=hq
  obtain ⟨m2,lH,AD,EX⟩:=hv m' ρ' a' w' nh
  have RS:R a' w' j:=⟨s'',m2,lH,hi,AD,(A1.trans hA).trans EX⟩
  have h2:=least _ RS
  refine ⟨⟨_,RS⟩,?_⟩
  simp only [dif_pos h1,dif_pos h2,hk]
  have:=(Classical.choose_spec h2).2 _ RS
  omega
 | exit i=>simp only [RX] at hr;subst hr;exact ⟨.exit i,s',m',ρ',hq,rfl,nh,A1.trans hA⟩
 | ret=>simp only [RX] at hr;subst hr;exact ⟨.ret,s',m',ρ',hq,rfl,nh,A1.trans hA⟩
 | panic p=>obtain ⟨v,rfl,hv⟩:=hr;exact ⟨.panic p,s',m',ρ',hq,⟨v,rfl,hv⟩,nh,A1.trans hA⟩
mutual
def PV.re (f:Nat→Nat):PV→PV
 | .d x=> .d x
 | .full l=> .full l
 | .own id l=> .own (f id) l
 | .aR id off=> .aR (f id) off
 | .iG id off n=> .iG (f id) off n
 | .room id n=> .room (f id) n
 | .jT g l=> .jT g (PV.res f l)
 | .agg l=> .agg (PV.res f l)
 | .tuple l=> .tuple (PV.res f l)
 | .cond g p=> .cond g (PV.re f p)
 | .dJ=> .dJ
def PV.res (f:Nat→Nat):List PV→List PV
 | []=>[]
 | x::r=>PV.re f x::PV.res f r
end
theorem PV.Ho (f:Nat→Nat):∀ l:List D,PV.res f (l.map .d)=l.map .d
 | []=>rfl
 | x::r=>by simp only [List.map_cons,PV.res,PV.re,PV.Ho f r]
mutual
theorem aO.re {m:Mem} {ρ:dA} {f:Nat→Nat}:∀ (p:PV) (v:Value),aO m ρ (p.re f) v→aO m (fun i=>ρ (f i)) p v
 | .d x,v,e=>by simpa [PV.re,aO] using e
 | .full l,v,e=>by simpa [PV.re,aO] using e
 | .own id l,v,e=>by simpa [PV.re,aO] using e
 | .aR id off,v,e=>by simpa [PV.re,aO] using e
 | .iG id off n,v,e=>by simpa [PV.re,aO] using e
 | .room id n,v,e=>by simpa [PV.re,aO] using e
 | .jT g l,v,e=>by
  simp only [PV.re,aO] at e ⊢
  obtain ⟨vs,e1,e2⟩:=e
  exact ⟨vs,e1,bC.re l vs e2⟩
 | .agg l,v,e=>by
  simp only [PV.re,aO] at e ⊢
  obtain ⟨vs,e1,e2,e3⟩:=e
  exact ⟨vs,e1,bC.re l vs e2,e3⟩
 | .tuple l,v,e=>by
  simp only [PV.re,aO] at e ⊢
  obtain ⟨vs,e1,e2⟩:=e
  exact ⟨vs,e1,bC.re l vs e2⟩
 | .cond g p,v,e=>by
  simp only [PV.re,aO] at e ⊢
  exact ⟨fun h=>aO.re p v (e.1 h),e.2⟩
 | .dJ,v,e=>by simp [aO]
theorem bC.re {m:Mem} {ρ:dA} {f:Nat→Nat}:∀ (l:List PV) (vs:List Value),bC m ρ (PV.res f l) vs→bC m (fun i=>ρ (f i)) l vs
 | [],vs,e=>by simpa [PV.res,bC] using e
 | x::r,vs,e=>by
  simp only [PV.res,bC] at e ⊢
  obtain ⟨v,vr,e1,e2,e3⟩:=e
  exact ⟨v,vr,e1,aO.re x v e2,bC.re r vr e3⟩
end
def HO.re (f:Nat→Nat):HO→HO
 | .var l=> .var (PV.res f l)
 | .spare sz n=> .spare sz n
 | .dead=> .dead
 | .CX sz l=> .CX sz (PV.res f l)
def Pp (f:Nat→Nat):List (Nat×List PV)→List (Nat×List PV)
 | []=>[]
 | x::r=>(x.1,PV.res f x.2)::Pp f r
theorem xJ.re {m:Mem} {ρ:dA} {f:Nat→Nat}:∀ (l:List (Nat×List PV)) (ds:List Deferred),xJ m ρ (Pp f l) ds→xJ m (fun i=>ρ (f i)) l ds
 | [],_,h=>h
 | x::r,_,h=>by
  obtain ⟨d,l',e1,e2,e3,e4⟩:=h
  exact ⟨d,l',e1,e2,bC.re _ _ e3,xJ.re r l' e4⟩
def fX (p q:PV):Prop:=∀ m ρ v,aO m ρ p v→aO m ρ q v
theorem fX.refl {p:PV}:fX p p:=fun _ _ _ h=>h
theorem fX.cN {p:PV} {x:D} (h:p.cN=some x):fX p (.d x):=fun _ _ v e=>by
 simp only [aO];exact aO.cN p x v h e
def bW:List (Nat×PV)→Nat→PV
 | [],_=> .dJ
 | x::r,t=>if t=x.1 then x.2 else bW r t
def lv:HO→Option HO
 | .var l=>some (.var l)
 | .spare a b=>some (.spare a b)
 | .dead=>none
 | .CX a l=>some (.CX a l)
theorem D3 {x o:HO} (h:lv x=some o):x=o:=by
 cases x<;>simp only [lv,Option.some.injEq,reduceCtorEq] at h<;>exact h
theorem Xi {f:Nat→Nat} {x o:HO} (h:lv x=some o):lv (x.re f)=some (o.re f):=by
 have:=D3 h
 subst this
 cases x<;>first | rfl | simp [lv] at h
def aK:List HO→Nat→Option HO
 | [],_=>none
 | x::_,0=>lv x
 | _::r,i+1=>aK r i
def AtR (f:Nat→Nat) (S:Nat→PV):List (Nat×PV)→Prop
 | []=>True
 | x::r=>fX (S x.1) (x.2.re f)∧AtR f S r
def R5 (f:Nat→Nat) (H:HM) (i:Nat):HO→Prop
 | .var l=>H (f i)=some (.var (PV.res f l))
 | .spare a b=>H (f i)=some (.spare a b)
 | .dead=>True
 | .CX a l=>H (f i)=some (.CX a (PV.res f l))
def Pq (f:Nat→Nat) (H:HM):List HO→Nat→Prop
 | [],_=>True
 | x::r,i=>R5 f H i x∧Pq f H r (i+1)
def FM (f:Nat→Nat) (H:HM):List HO→Nat→Prop
 | [],_=>True
 | x::r,i=>H (f i)=some (x.re f)∧FM f H r (i+1)
theorem Pr {f:Nat→Nat} {S:Nat→PV} {m:Mem} {ρ:dA} {t:Nat} {v:Value} (h:aO m ρ (S t) v):∀ (L:List (Nat×PV)),AtR f S L→aO m (fun i=>ρ (f i)) (bW L t) v
 | [],_=>by simp [bW,aO]
 | x::r,hL=>by
  unfold bW
  split
  ·rename_i e
   subst e
   exact aO.re _ _ (hL.1 _ _ _ h)
  ·exact Pr h r hL.2
theorem JC {f:Nat→Nat} {H:HM}:∀ (M:List HO) (k i:Nat) (o:HO),Pq f H M k→aK M i=some o→i<M.length∧H (f (k+i))=some (o.re f)
 | [],_,_,_,_,h=>by simp [aK] at h
 | x::r,k,0,o,hM,h=>by
  simp only [aK] at h
  have e:=D3 h
  subst e
  refine ⟨by simp,?_⟩
  have h1:=hM.1
  cases x with
  | var l=>exact h1
  | spare a b=>exact h1
  | dead=>simp [lv] at h
  | CX a l=>exact h1
 | x::r,k,i+1,o,hM,h=>by
  have:=JC r (k+1) i o hM.2 h
  exact ⟨by simp;omega,by rw [show k+(i+1)=k+1+i by omega];exact this.2⟩
theorem Hp {f:Nat→Nat} {H:HM}:∀ (M:List HO) (k i:Nat) (o:HO),FM f H M k→aK M i=some o→i<M.length∧H (f (k+i))=some (o.re f)
 | [],_,_,_,_,h=>by simp [aK] at h
 | x::r,k,0,o,hM,h=>by
  simp only [aK] at h
  have e:=D3 h
  subst e
  exact ⟨by simp,hM.1⟩
 | x::r,k,i+1,o,hM,h=>by
  have:=Hp r (k+1) i o hM.2 h
  exact ⟨by simp;omega,by rw [show k+(i+1)=k+1+i by omega];exact this.2⟩
theorem JE {f:Nat→Nat} {H:HM}:∀ (M:List HO) (j k:Nat) (x:HO),FM f H M j→M[k]? =some x→H (f (j+k))=some (x.re f)
 | [],_,_,_,_,h=>by simp at h
 | y::r,j,0,x,h,e=>by simp only [List.getElem?_cons_zero,Option.some.injEq] at e;subst e;exact h.1
 | y::r,j,k+1,x,h,e=>by
  have:=JE r (j+1) k x h.2 (by simpa using e)
  rwa [show j+1+k=j+(k+1) by omega] at this
def ld (F:List Nat) (nx i:Nat):Nat:=F.getD i (nx+i)
theorem iw.re {m:Mem} {ρ ρ':dA} {w:World} {i j:Nat} {f:Nat→Nat} {o:HO} (hr:ρ' i=ρ j) (hρ:∀ p v,aO m ρ (PV.re f p) v→aO m ρ' p v) (h:iw m ρ w j (o.re f)):iw m ρ' w i o:=by
 cases o with
 | var l=>
  simp only [HO.re,iw] at h ⊢
  rcases h with ⟨e0,e⟩ | ⟨b,c,vs,tail,t,e1,e2,e3,e4⟩
  ·exact .inl ⟨by cases l with | nil=>rfl | cons x r=>simp [PV.res] at e0,by rw [hr];exact e⟩
  refine .inr ⟨b,c,vs,tail,t,by rw [hr];exact e1,e2,?_,e4⟩
  have:∀ (l:List PV) (vs:List Value),bC m ρ (PV.res f l) vs→bC m ρ' l vs:=by
   intro l
   induction l with
   | nil=>intro vs h;simpa [PV.res,bC] using h
   | cons x r ih=>
    intro vs h
    simp only [PV.res,bC] at h ⊢
    obtain ⟨v,vr,e1,e2,e3⟩:=h
    exact ⟨v,vr,e1,hρ _ _ e2,ih _ e3⟩
  exact this l vs e3
 | spare sz n=>
  simp only [HO.re,iw] at h ⊢
  rw [hr]
  exact h
 | dead=>exact h.elim
 | CX sz l=>
  simp only [HO.re,iw] at h ⊢
  rcases h with ⟨e0,e⟩ | ⟨b,c,vs,tail,t,e1,e2,e3,e4⟩
  ·exact .inl ⟨by cases l with | nil=>rfl | cons x r=>simp [PV.res] at e0,by rw [hr];exact e⟩
  refine .inr ⟨b,c,vs,tail,t,by rw [hr];exact e1,e2,?_,e4⟩
  have:∀ (l:List PV) (vs:List Value),bC m ρ (PV.res f l) vs→bC m ρ' l vs:=by
   intro l
   induction l with
   | nil=>intro vs h;simpa [PV.res,bC] using h
   | cons x r ih=>
    intro vs h
    simp only [PV.res,bC] at h ⊢
    obtain ⟨v,vr,e1,e2,e3⟩:=h
    exact ⟨v,vr,e1,hρ _ _ e2,ih _ e3⟩
  exact this l vs e3
theorem View.mk {s:St} (n:Nat) (F:List Nat) (L:List (Nat×PV)) (M:List HO) (df:List (Nat×List PV)) (hn:M.length=n) (hF:F.length=M.length) (hd:F.Nodup) (hS:AtR (ld F s.nx) s.S L) (hH:Pq (ld F s.nx) s.H M 0) (hdf:s.df=Pp (ld F s.nx) df)
  (hb:b≤M.length) (YQ:F.take b=List.range b):View N b s ⟨bW L,aK M,n,df⟩:=by
 subst hn
 refine View.of hb fun m ρ a w hI=>?_
 have FN:∀ i,M.length≤i→ρ (ld F s.nx i)=none:=by
  intro i hi
  have:ld F s.nx i=s.nx+i:=by
   unfold ld
   rw [List.getD_eq_getElem?_getD,List.getElem?_eq_none (by omega)];rfl
  rw [this]
  exact hI.oX _ (Nat.le_add_right _ _)
 have Gi:∀ i,i<M.length→∃ x,F[i]? =some x∧ld F s.nx i=x:=by
  intro i hi
  refine ⟨F[i]'(by omega),List.getElem?_eq_getElem (by omega),?_⟩
  unfold ld
  rw [List.getD_eq_getElem?_getD,List.getElem?_eq_getElem (by omega)];rfl
 have EY:∀ i o,aK M i=some o→i<M.length∧s.H (ld F s.nx i)=some (o.re (ld F s.nx)):=by
  intro i o h
  have:=JC M 0 i o hH h
  rw [Nat.zero_add] at this
  exact this
 have hne:∀ i,aK M i≠none→i<M.length∧s.H (ld F s.nx i)≠none:=by
  intro i h
  cases hh:aK M i with
  | none=>exact absurd hh h
  | some o=>have:=EY i o hh;exact ⟨this.1,by rw [this.2];simp⟩
 refine ⟨fun i=>ρ (ld F s.nx i),⟨hI.size,?_,?_,⟨hI.valid.mem,?_,?_⟩,?_,FN⟩,?_,?_⟩
 ·have:=hI.defers
  rw [hdf] at this
  exact xJ.re df _ this
 ·intro t
  exact Pr (hI.slots t) L hS
 ·intro i o _ ho
  have:=EY i o ho
  exact iw.re rfl (fun p v h=>aO.re p v h) (hI.valid.entry _ _ trivial this.2)
 ·intro i j c d d' _ _ hi hj gi kn
  have h1:=hne i hi
  have h2:=hne j hj
  have:=hI.valid.apart _ _ _ _ _ trivial trivial h1.2 h2.2 gi kn
  obtain ⟨x,hx,ex⟩:=Gi i h1.1
  obtain ⟨y,hy,ey⟩:=Gi j h2.1
  rw [ex,ey] at this
  subst this
  have e1:=List.getElem?_eq_some_iff.1 hx
  have e2:=List.getElem?_eq_some_iff.1 hy
  obtain ⟨l1,e1⟩:=e1
  obtain ⟨l2,e2⟩:=e2
  exact (List.getElem_inj hd).1 (e1.trans e2.symm)
 ·intro i hi
  cases hh:aK M i with
  | none=>exact hh
  | some o=>have:=(EY i o hh).1;have hi':M.length≤i:=hi;omega
 ·rintro c ⟨i,d,_,hl,hr⟩
  exact ⟨ld F s.nx i,d,trivial,(hne i hl).2,hr⟩
 ·intro i hi
  have h1:F[i]? =some i:=by
   have h2:(F.take b)[i]? =(List.range b)[i]? :=by rw [YQ]
   rw [List.getElem?_take,if_pos hi,List.getElem?_range hi] at h2
   exact h2
  show ρ (ld F s.nx i)=ρ i
  unfold ld
  rw [List.getD_eq_getElem?_getD,h1];rfl
theorem cD.Qh {f:Nat} {fn:Func} {c:Code} {args:List D} {res:D} (hf:P.funcs[f]? =some fn) (hb:fn.body=some c) (hN:args.length≤fn.ntmps)
  (h:QW P fn.ntmps 0 c ⟨zA args,fun _=>none,0,[]⟩ (Ends P fn.results.toList fun p=>p.cN=some res)):cD P f args res:=by
 intro m w vs hm hr
 refine calls_of_wp hf hb (wp_mono (h.2 m _ _ w (Jz hm hr hN)) ?_)
 rintro e a w' ⟨px,s,m',ρ',⟨hpx,hdf,hres,hp⟩,tQ,hI,hA⟩
 obtain ⟨v,hv,iY⟩:=oI (P:=P) hI hres
 have hd:=hI.defers
 rw [hdf] at hd
 have hE:Ext (fun _=>False) m w m' w':=hA.ext.mono (by rintro b ⟨i,c,_,h,_⟩;exact absurd rfl h)
 have key:a.defers=[]∧∃ v,(results fn a.tmps).run P w'= .ok v w'∧∃ v_1 m',Ending.returned v= .returned v_1∧bk m' res v_1∧gr m' w'∧Ext (fun _=>False) m w m' w':=
  ⟨hd,v,hv,v,m',rfl,aO.cN _ _ _ hp iY,hI.valid.mem,hE⟩
 rcases hpx with rfl | rfl<;>simp only [RX] at tQ<;>subst tQ<;>exact key
theorem Al.N8 {n0 n:Nat} {m0 m:Mem} {lG ρ:dA} {w0 w:World} {H0 H:HM} (h:Al n0 m0 lG w0 H0 n m ρ w H) (hρ:∀ i,n0≤i→lG i=none):oG n0 m0 lG w0 H0 n m ρ w H:=
 ⟨h.ext,fun i x e=>by
  rcases Nat.lt_or_ge i n0 with h1 | h1
  ·rw [h.old i h1,e]
  ·rw [hρ i h1] at e;exact absurd e (by simp),h.place,h.le,h.old⟩
end Go.Proofs.YtlfjfoknbjcncaaGreat.K
namespace Go.Proofs.YtlfjfoknbjcncaaGreat.K
open Go Go.RowKit
variable {P:Program} {N:Nat} {ops:Array Oper} {o:Oper} {r:List Oper} {s:St}
theorem n4.imp {o:Oper} {s:St} {v v':PV} {H':HM} {cw:Nat} {T W:List Nat} (h:n4 P o s v H' cw T W) (hi:fX v v'):n4 P o s v' H' cw T W:=
 ⟨h.le,h.keep,h.nil,h.sub,h.old,fun m ρ a w K Q V hf hx hK=>h.sem m ρ a w K Q V hf hx fun u m' ρ' w' hD hr=>hK u m' ρ' w' hD (hi _ _ _ hr)⟩
section
variable {S:Nat→PV} {H:HM} {nx:Nat} {df:List (Nat×List PV)}
theorem XK.st {Q:PX→St→Prop} (d:Option Nat) (hd:o.dst=d) (hg:o.guard=none) (h:aU P [] o ⟨S,H,nx,df⟩ fun v H' cw _ _=>XK P ops r ⟨eK S d v,H',cw,df⟩ Q):XK P ops (o::r) ⟨S,H,nx,df⟩ Q:=by subst hd;exact XK.step hg h
theorem RK.st {acc:List Rec} {K:St→List Rec→Prop} (d:Option Nat) (hd:o.dst=d) (hg:o.guard=none) (h:aU P [] o ⟨S,H,nx,df⟩ fun v H' cw T W=>RK P ops r ⟨eK S d v,H',cw,df⟩ (⟨T,W,nx,cw⟩::acc) K):RK P ops (o::r) ⟨S,H,nx,df⟩ acc K:=by subst hd;exact RK.step hg h
theorem RQ.st {Q:St→Prop} (d:Option Nat) (hd:o.dst=d) (hg:o.guard=none) (h:aU P [] o ⟨S,H,nx,df⟩ fun v H' cw _ W=>(W=[]∧cw=nx)∧RQ P ops r ⟨eK S d v,H',cw,df⟩ Q):RQ P ops (o::r) ⟨S,H,nx,df⟩ Q:=by subst hd;exact RQ.step hg h
theorem XK.U {Q:PX→St→Prop} (d:Option Nat) (hd:o.dst=d) (hg:o.guard=none) (h:aU P [] o ⟨S,H,nx,df⟩ fun v H' cw _ _=>∃ v',fX v v'∧XK P ops r ⟨eK S d v',H',cw,df⟩ Q):XK P ops (o::r) ⟨S,H,nx,df⟩ Q:=by
 intro hn
 subst hd
 obtain ⟨v,H',cw,T,W,h1,v',h2,h3⟩:=kT hn h
 exact .step (.run hg (h1.imp h2)) (h3 h1.nil)
theorem RK.U {acc:List Rec} {K:St→List Rec→Prop} (d:Option Nat) (hd:o.dst=d) (hg:o.guard=none) (h:aU P [] o ⟨S,H,nx,df⟩ fun v H' cw T W=>∃ v',fX v v'∧RK P ops r ⟨eK S d v',H',cw,df⟩ (⟨T,W,nx,cw⟩::acc) K):RK P ops (o::r) ⟨S,H,nx,df⟩ acc K:=by
 intro hn
 subst hd
 obtain ⟨v,H',cw,T,W,h1,v',h2,h3⟩:=kT hn h
 obtain ⟨s',L,h4,h5⟩:=h3 h1.nil
 exact ⟨s',_, .cons (.run hg (h1.imp h2)) h4,by simpa using h5⟩
theorem XK.fz {Q:PX→St→Prop} (d:Option Nat) (hd:o.dst=d) (hg:o.guard=none) (h:aU P d.toList o ⟨S,H,nx,df⟩ fun v H' cw _ _=>XK P ops r ⟨eK S d v,H',cw,df⟩ Q):XK P ops (o::r) ⟨S,H,nx,df⟩ Q:=by subst hd;exact XK.frozen hg h
end
section
variable {S:Nat→PV} {H:HM} {nx:Nat} {df:List (Nat×List PV)}
variable {eR:List Nat} {k:PV→HM→Nat→List Nat→List Nat→Prop}
theorem ax {x:Operand} (v:PV) (hk:k v H nx [] []) (ho:o.op= .move x:=by exact rfl) (hx:aH S x=v:=by exact rfl):aU P eR o ⟨S,H,nx,df⟩ k:=by
 unfold aU;rw [ho];subst hx;exact ⟨trivial,hk⟩
theorem cj {x:Operand} (v:PV) (hk:k v H nx [] []) (ho:o.op= .assign x:=by exact rfl) (hx:aH S x=v:=by exact rfl):aU P eR o ⟨S,H,nx,df⟩ k:=by
 unfold aU;rw [ho];subst hx;exact ⟨trivial,hk⟩
theorem lY {x:Operand} (v:PV) (hk:k v H nx [] []) (ho:o.op= .nilCheck x:=by exact rfl) (hx:aH S x=v:=by exact rfl) (hv:C9 v=true:=by exact rfl):aU P eR o ⟨S,H,nx,df⟩ k:=by
 unfold aU;rw [ho];subst hx
 obtain ⟨h1,h2⟩:=NN hv
 refine ⟨h2,?_⟩
 show k (BR (aH S x)) H nx [] []
 rw [h1];exact hk
theorem dg {x:Operand} {z:Bool} {l:List D} (hk:k (.d (.cF l)) H nx [] []) (ho:o.op= .nilCheck x:=by exact rfl) (hz:z=false:=by exact rfl) (hx:aH S x= .d (.m5 z l)):aU P eR o ⟨S,H,nx,df⟩ k:=by
 unfold aU;rw [ho];simp only [jV,hx];exact ⟨hz,hk⟩
def bf (n:Int):Prop:= -9223372036854775808≤n∧n≤9223372036854775807
instance (n:Int):Decidable (bf n):=by unfold bf;exact inferInstance
theorem uU {n:Int} (h:bf n):IntKind.i64.wrap n=n:=wrap_i64 h
theorem gT {op:BinOp} {t u:TypeId} {x y:Operand} {p q v:PV} (ho:o.op= .binOp op t x y u) (hx:aH S x=p) (hy:aH S y=q) (hop:isEq op=false) (hv:(bin op p q).2) (he:(bin op p q).1=v) (hk:k v H nx [] []):aU P eR o ⟨S,H,nx,df⟩ k:=by
 unfold aU;rw [ho]
 subst hx hy he
 cases op<;>first | (exact absurd hop (by decide)) | exact ⟨hv,hk⟩
theorem bE {t u:TypeId} {x y:Operand} (a b:Int) (h:bf (a+b)) (hk:k (.d (.val (.int .i64 (a+b)))) H nx [] []) (ho:o.op= .binOp .add t x y u:=by exact rfl) (hx:aH S x= .d (.val (.int .i64 a)):=by exact rfl) (hy:aH S y= .d (.val (.int .i64 b)):=by exact rfl):aU P eR o ⟨S,H,nx,df⟩ k:=
 gT ho hx hy rfl rfl (by show PV.d (.val (.int .i64 (IntKind.i64.wrap (a+b))))=_;rw [uU h]) hk
theorem mZ {t u:TypeId} {x y:Operand} (a b:Int) (h:bf (a-b)) (hk:k (.d (.val (.int .i64 (a-b)))) H nx [] []) (ho:o.op= .binOp .sub t x y u:=by exact rfl) (hx:aH S x= .d (.val (.int .i64 a)):=by exact rfl) (hy:aH S y= .d (.val (.int .i64 b)):=by exact rfl):aU P eR o ⟨S,H,nx,df⟩ k:=
 gT ho hx hy rfl rfl (by show PV.d (.val (.int .i64 (IntKind.i64.wrap (a-b))))=_;rw [uU h]) hk
theorem zC {t u:TypeId} {x y:Operand} (a b:Int) (h:bf (a*b)) (hk:k (.d (.val (.int .i64 (a*b)))) H nx [] []) (ho:o.op= .binOp .mul t x y u:=by exact rfl) (hx:aH S x= .d (.val (.int .i64 a)):=by exact rfl) (hy:aH S y= .d (.val (.int .i64 b)):=by exact rfl):aU P eR o ⟨S,H,nx,df⟩ k:=
 gT ho hx hy rfl rfl (by show PV.d (.val (.int .i64 (IntKind.i64.wrap (a*b))))=_;rw [uU h]) hk
theorem K7 {t u:TypeId} {x y:Operand} (a b:Int) (h:b≠0∧bf (a.tdiv b)) (hk:k (.d (.val (.int .i64 (a.tdiv b)))) H nx [] []) (ho:o.op= .binOp .quo t x y u:=by exact rfl) (hx:aH S x= .d (.val (.int .i64 a)):=by exact rfl) (hy:aH S y= .d (.val (.int .i64 b)):=by exact rfl):aU P eR o ⟨S,H,nx,df⟩ k:=
 gT ho hx hy rfl ⟨rfl,h.1⟩ (by show PV.d (.val (.int .i64 (IntKind.i64.wrap (a.tdiv b))))=_;rw [uU h.2]) hk
theorem uH {t u:TypeId} {x y:Operand} (a b:Int) (hk:k (.d (.val (.int .i64 (a.tmod b)))) H nx [] []) (ho:o.op= .binOp .rem t x y u:=by exact rfl) (hx:aH S x= .d (.val (.int .i64 a)):=by exact rfl) (hy:aH S y= .d (.val (.int .i64 b)):=by exact rfl) (h:b≠0:=by decide):aU P eR o ⟨S,H,nx,df⟩ k:=
 gT ho hx hy rfl ⟨rfl,h⟩ rfl hk
def Qi (a b:Int):Int:=IntKind.i64.wrap (BitVec.ofInt 64 a||| BitVec.ofInt 64 b).toNat
theorem Xj {t u:TypeId} {x y:Operand} (a b:Int) (hk:k (.d (.val (.int .i64 (Qi a b)))) H nx [] []) (ho:o.op= .binOp .or t x y u:=by exact rfl) (hx:aH S x= .d (.val (.int .i64 a)):=by exact rfl) (hy:aH S y= .d (.val (.int .i64 b)):=by exact rfl):aU P eR o ⟨S,H,nx,df⟩ k:=
 gT ho hx hy rfl rfl rfl hk
def wK (a b:Int):Int:=a*2 ^ (min b.toNat 64)
def JF (a b:Int):Int:=a.fdiv (2 ^ (min b.toNat 64))
theorem Uy {t u:TypeId} {x y:Operand} (a b:Int) {k':IntKind} (h:0≤b∧bf (wK a b)) (hk:k (.d (.val (.int .i64 (wK a b)))) H nx [] []) (ho:o.op= .binOp .shl t x y u:=by exact rfl) (hx:aH S x= .d (.val (.int .i64 a)):=by exact rfl) (hy:aH S y= .d (.val (.int k' b)):=by exact rfl):aU P eR o ⟨S,H,nx,df⟩ k:=
 gT ho hx hy rfl h.1 (by show PV.d (.val (.int .i64 (IntKind.i64.wrap (wK a b))))=_;rw [uU h.2]) hk
theorem Uz {t u:TypeId} {x y:Operand} (a b:Int) {k':IntKind} (hk:k (.d (.val (.int .i64 (JF a b)))) H nx [] []) (ho:o.op= .binOp .shr t x y u:=by exact rfl) (hx:aH S x= .d (.val (.int .i64 a)):=by exact rfl) (hy:aH S y= .d (.val (.int k' b)):=by exact rfl) (h:0≤b:=by decide):aU P eR o ⟨S,H,nx,df⟩ k:=
 gT ho hx hy rfl h rfl hk
theorem cM {t u:TypeId} {x y:Operand} (a b:Int) {kd:IntKind} (hk:k (.d (.val (.bool (decide (a<b))))) H nx [] []) (ho:o.op= .binOp .lss t x y u:=by exact rfl) (hx:aH S x= .d (.val (.int kd a)):=by exact rfl) (hy:aH S y= .d (.val (.int kd b)):=by exact rfl):aU P eR o ⟨S,H,nx,df⟩ k:=
 gT ho hx hy rfl rfl rfl hk
theorem uI {t u:TypeId} {x y:Operand} (a b:Int) {kd:IntKind} (hk:k (.d (.val (.bool (decide (a≤b))))) H nx [] []) (ho:o.op= .binOp .leq t x y u:=by exact rfl) (hx:aH S x= .d (.val (.int kd a)):=by exact rfl) (hy:aH S y= .d (.val (.int kd b)):=by exact rfl):aU P eR o ⟨S,H,nx,df⟩ k:=
 gT ho hx hy rfl rfl rfl hk
theorem kU {t u:TypeId} {x y:Operand} (a b:Int) {kd:IntKind} (hk:k (.d (.val (.bool (decide (b<a))))) H nx [] []) (ho:o.op= .binOp .gtr t x y u:=by exact rfl) (hx:aH S x= .d (.val (.int kd a)):=by exact rfl) (hy:aH S y= .d (.val (.int kd b)):=by exact rfl):aU P eR o ⟨S,H,nx,df⟩ k:=
 gT ho hx hy rfl rfl rfl hk
theorem pO {t u:TypeId} {x y:Operand} (a b:Int) {kd:IntKind} (hk:k (.d (.val (.bool (decide (b≤a))))) H nx [] []) (ho:o.op= .binOp .geq t x y u:=by exact rfl) (hx:aH S x= .d (.val (.int kd a)):=by exact rfl) (hy:aH S y= .d (.val (.int kd b)):=by exact rfl):aU P eR o ⟨S,H,nx,df⟩ k:=
 gT ho hx hy rfl rfl rfl hk
theorem JG {t:TypeId} {kd Cs:IntKind} {a b:Int}:Ak P t (.d (.val (.int kd a))) (.d (.val (.int Cs b)))=none:=by
 unfold Ak;split<;>simp_all
theorem JH {t:TypeId} {a b:ByteArray}:Ak P t (.d (.val (.string a))) (.d (.val (.string b)))=none:=by
 unfold Ak;split<;>simp_all
theorem Pt {op:BinOp} {t u:TypeId} {x y:Operand} {a b:Int} {kd:IntKind} {c:Bool} (ho:o.op= .binOp op t x y u) (hx:aH S x= .d (.val (.int kd a))) (hy:aH S y= .d (.val (.int kd b))) (hop:(op= .eql∧c=decide (a=b))∨(op= .neq∧c= !decide (a=b)))
  (hk:k (.d (.val (.bool c))) H nx [] []):aU P eR o ⟨S,H,nx,df⟩ k:=by
 unfold aU;rw [ho]
 rcases hop with ⟨rfl,rfl⟩ | ⟨rfl,rfl⟩
 ·simp only [isEq,CE,hx,hy,Bool.and_false,Bool.false_eq_true,if_false,xO,JG]
  exact ⟨rfl,hk⟩
 ·simp only [isEq,CE,hx,hy,Bool.and_false,Bool.false_eq_true,if_false,xO,JG]
  exact ⟨rfl,hk⟩
theorem dj {t u:TypeId} {x y:Operand} (a b:Int) {kd:IntKind} (hk:k (.d (.val (.bool (decide (a=b))))) H nx [] []) (ho:o.op= .binOp .eql t x y u:=by exact rfl) (hx:aH S x= .d (.val (.int kd a)):=by exact rfl) (hy:aH S y= .d (.val (.int kd b)):=by exact rfl):aU P eR o ⟨S,H,nx,df⟩ k:=
 Pt ho hx hy (.inl ⟨rfl,rfl⟩) hk
theorem mI {t u:TypeId} {x y:Operand} (a b:Int) {kd:IntKind} (hk:k (.d (.val (.bool (!decide (a=b))))) H nx [] []) (ho:o.op= .binOp .neq t x y u:=by exact rfl) (hx:aH S x= .d (.val (.int kd a)):=by exact rfl) (hy:aH S y= .d (.val (.int kd b)):=by exact rfl):aU P eR o ⟨S,H,nx,df⟩ k:=
 Pt ho hx hy (.inr ⟨rfl,rfl⟩) hk
abbrev sV (l:List UInt8):Value:= .string ⟨l.toArray⟩
theorem jW {t u:TypeId} {x y:Operand} (a b:List UInt8) (hk:k (.d (.val (.bool (a==b)))) H nx [] []) (ho:o.op= .binOp .eql t x y u:=by exact rfl) (hx:aH S x= .d (.val (sV a)):=by exact rfl) (hy:aH S y= .d (.val (sV b)):=by exact rfl):aU P eR o ⟨S,H,nx,df⟩ k:=by
 unfold aU;rw [ho]
 simp only [isEq,CE,hx,hy,Bool.and_false,Bool.false_eq_true,if_false,xO,JH,bin,uT]
 exact ⟨trivial,hk⟩
theorem qq {t u:TypeId} {x y:Operand} (a b:List UInt8) (hk:k (.d (.val (.bool (!(a==b))))) H nx [] []) (ho:o.op= .binOp .neq t x y u:=by exact rfl) (hx:aH S x= .d (.val (sV a)):=by exact rfl) (hy:aH S y= .d (.val (sV b)):=by exact rfl):aU P eR o ⟨S,H,nx,df⟩ k:=by
 unfold aU;rw [ho]
 simp only [isEq,CE,hx,hy,Bool.and_false,Bool.false_eq_true,if_false,xO,JH,bin,uT]
 exact ⟨trivial,hk⟩
theorem lZ {t u:TypeId} {x y:Operand} (a b:List UInt8) (h:a.length+b.length≤9223372036854775807) (hk:k (.d (.val (sV (a++b)))) H nx [] []) (ho:o.op= .binOp .add t x y u:=by exact rfl) (hx:aH S x= .d (.val (sV a)):=by exact rfl) (hy:aH S y= .d (.val (sV b)):=by exact rfl):aU P eR o ⟨S,H,nx,df⟩ k:=
 gT ho hx hy rfl (by show ((_+_:Nat):Int)≤IntKind.i64.max;rw [uj,uj,Mb];omega) (by show PV.d (.val (.string _))=_;rw [FK]) hk
theorem kV {t:TypeId} {x:Operand} {a:Bool} (hk:k (.d (.val (.bool (!a)))) H nx [] []) (ho:o.op= .unOp .not t x:=by exact rfl) (hx:aH S x= .d (.val (.bool a)):=by exact rfl):aU P eR o ⟨S,H,nx,df⟩ k:=by
 unfold aU;rw [ho];simp only [jV,un,hx];exact ⟨trivial,hk⟩
theorem UA {t:TypeId} {x:Operand} (a:Int) (h:bf (0-a)) (hk:k (.d (.val (.int .i64 (0-a)))) H nx [] []) (ho:o.op= .unOp .neg t x:=by exact rfl) (hx:aH S x= .d (.val (.int .i64 a)):=by exact rfl):aU P eR o ⟨S,H,nx,df⟩ k:=by
 unfold aU;rw [ho];simp only [jV,un,hx,uU h];exact ⟨trivial,hk⟩
theorem Hq {t u:TypeId} {x:Operand} {p v:PV} (ho:o.op= .convert t u x) (hx:aH S x=p) (h1:(vp P t u p).2) (h2:(vp P t u p).1=v) (hk:k v H nx [] []):aU P eR o ⟨S,H,nx,df⟩ k:=by
 unfold aU;rw [ho];subst hx h2;exact ⟨h1,hk⟩
theorem zD {t u:TypeId} {d:TypeDesc} {kd Cs:IntKind} {n:Int} (ht:P.underlying t=some d) (hu:P.underlying u=some (.int kd)):vp P t u (.d (.val (.int Cs n)))=(.d (.val (.int kd (kd.wrap n))),True):=by
 unfold vp;rw [ht,hu]
theorem zE {t u:TypeId} {x:Operand} (n:Int) {Cs:IntKind} {d:TypeDesc} (ht:P.underlying t=some d) (hu:P.underlying u=some (.int .i64)) (hk:k (.d (.val (.int .i64 n))) H nx [] []) (ho:o.op= .convert t u x:=by exact rfl) (hx:aH S x= .d (.val (.int Cs n)):=by exact rfl) (h:bf n:=by exact UB _):aU P eR o ⟨S,H,nx,df⟩ k:=
 Hq ho hx (by rw [zD ht hu];trivial) (by rw [zD ht hu,uU h]) hk
def g7 (n:Int):UInt8:=UInt8.ofNat (n%256).toNat
theorem Qj (n:Int):IntKind.u8.wrap n=((g7 n).toNat:Int):=by
 rw [IntKind.wrap_u8]
 unfold g7
 have h:(UInt8.ofNat (n%256).toNat).toNat=(n%256).toNat:=by
  rw [UInt8.toNat_ofNat'];omega
 rw [h];omega
theorem oY {t u:TypeId} {x:Operand} (n:Int) {Cs:IntKind} {d:TypeDesc} (ht:P.underlying t=some d) (hu:P.underlying u=some (.int .u8)) (hk:k (.d (.val (.int .u8 ((g7 n).toNat:Int)))) H nx [] []) (ho:o.op= .convert t u x:=by exact rfl) (hx:aH S x= .d (.val (.int Cs n)):=by exact rfl):aU P eR o ⟨S,H,nx,df⟩ k:=
 Hq ho hx (by rw [zD ht hu];trivial) (by rw [zD ht hu,Qj]) hk
theorem nk {t u e:TypeId} {x:Operand} (l:List UInt8) (ht:P.underlying t=some (.slice e)) (he:P.underlying e=some (.int .u8)) (hu:P.underlying u=some .string) (hk:k (.d (.val (sV l))) H nx [] []) (ho:o.op= .convert t u x:=by exact rfl) (hx:(aH S x).elems=some (l.map aa):=by exact rfl):aU P eR o ⟨S,H,nx,df⟩ k:=by
 refine Hq (p:=aH S x) ho rfl ?_ ?_ hk
 ·unfold vp;rw [ht,hu];simp only [hx];exact ⟨he,DX l⟩
 ·unfold vp;rw [ht,hu];simp only [hx,DV]
theorem xV {c:Call} {b:Builtin} {v:PV} (ho:o.op= .call c) (hc:c.callee= .builtin b) (hb:b≠ .append) (h1:(jJ P S b c.args.toList c.argTypes.toList).2) (h2:(jJ P S b c.args.toList c.argTypes.toList).1=v) (hk:k v H nx [] []):aU P eR o ⟨S,H,nx,df⟩ k:=by
 unfold aU;rw [ho];simp only [hc];subst h2
 cases b<;>first | exact absurd rfl hb | exact ⟨h1,hk⟩
theorem eU {x:Operand} {t:TypeId} (l:List UInt8) (ht:P.underlying t=some .string) (hk:k (.d (.val (.int .i64 (l.length:Int)))) H nx [] []) (ho:o.op= .call {callee:= .builtin .len,args:= #[x],argTypes:= #[t]}:=by exact rfl) (hx:aH S x= .d (.val (sV l)):=by exact rfl):aU P eR o ⟨S,H,nx,df⟩ k:=
 xV ho rfl (by simp) (by show (AQ P t (aH S x)).2;unfold AQ;rw [ht,hx];trivial) (by show (AQ P t (aH S x)).1=_;unfold AQ;rw [ht,hx];simp [uj]) hk
theorem cX {x:Operand} {t e:TypeId} {α:Type} (en:α→D) (l:List α) (ht:P.underlying t=some (.slice e)) (hk:k (.d (.val (.int .i64 (l.length:Int)))) H nx [] []) (ho:o.op= .call {callee:= .builtin .len,args:= #[x],argTypes:= #[t]}:=by exact rfl) (hx:(aH S x).elems=some (l.map en):=by exact rfl):aU P eR o ⟨S,H,nx,df⟩ k:=
 xV ho rfl (by simp) (by show (AQ P t (aH S x)).2;unfold AQ;rw [ht];simp only [hx]) (by show (AQ P t (aH S x)).1=_;unfold AQ;rw [ht];simp only [hx,List.length_map]) hk
def gl (a b:Int):Int:=if b<a then b else a
def jj (a b:Int):Int:=if b>a then b else a
theorem GC {x y:Operand} {ts:Array TypeId} (a b:Int) {kd:IntKind} (hk:k (.d (.val (.int kd (gl a b)))) H nx [] []) (ho:o.op= .call {callee:= .builtin .min,args:= #[x,y],argTypes:=ts}:=by exact rfl) (hx:aH S x= .d (.val (.int kd a)):=by exact rfl) (hy:aH S y= .d (.val (.int kd b)):=by exact rfl):aU P eR o ⟨S,H,nx,df⟩ k:=
 xV ho rfl (by simp) (by show (jJ P S .min [x,y] _).2;simp only [jJ,hx,hy]) (by show (jJ P S .min [x,y] _).1=_;simp only [jJ,hx,hy,gl]) hk
theorem Pu {x y:Operand} {ts:Array TypeId} (a b:Int) {kd:IntKind} (hk:k (.d (.val (.int kd (jj a b)))) H nx [] []) (ho:o.op= .call {callee:= .builtin .max,args:= #[x,y],argTypes:=ts}:=by exact rfl) (hx:aH S x= .d (.val (.int kd a)):=by exact rfl) (hy:aH S y= .d (.val (.int kd b)):=by exact rfl):aU P eR o ⟨S,H,nx,df⟩ k:=
 xV ho rfl (by simp) (by show (jJ P S .max [x,y] _).2;simp only [jJ,hx,hy]) (by show (jJ P S .max [x,y] _).1=_;simp only [jJ,hx,hy,jj]) hk
def idx {α:Type} [Inhabited α] (l:List α) (i:Int):α:=l.getD i.toNat default
def sub {α:Type} (l:List α) (lo hi:Int):List α:=(l.drop lo.toNat).take (hi-lo).toNat
theorem getD_map {α:Type} [Inhabited α] {en:α→D} {l:List α} {i:Int} (h:0≤i∧i<(l.length:Int)):(l.map en).getD i.toNat default=en (idx l i):=by
 unfold idx
 have hi:i.toNat<l.length:=by omega
 rw [List.getD_eq_getElem?_getD,List.getD_eq_getElem?_getD,List.getElem?_map,List.getElem?_eq_getElem hi]
 rfl
structure uk {α:Type} (en:α→D) (c:α→List D) (n:Nat):Prop where
 cells:∀ x,(en x).cells=c x
 len:∀ x,(c x).length=n
theorem fl:uk aa (fun b=>[aa b]) 1:=⟨fun _=>rfl,fun _=>rfl⟩
def eS (l:List UInt8):D:= .val (sV l)
def eL {α:Type} (en:α→D) (l:List α):D:= .slice (l.map en)
theorem AV:uk eS (fun b=>[.val (sV b)]) 1:=⟨fun _=>rfl,fun _=>rfl⟩
theorem Hr {α:Type} {en:α→D}:uk (eL en) (fun l=>[.slice (l.map en)]) 1:=⟨fun _=>rfl,fun _=>rfl⟩
theorem uk.all {α:Type} {en:α→D} {c:α→List D} {n:Nat} (h:uk en c n) (l:List α):∀ x∈l.map en,x.cells.length=n:=by
 intro x hx
 obtain ⟨y,_,rfl⟩:=List.mem_map.1 hx
 rw [h.cells,h.len]
theorem bX {α:Type} [Inhabited α] {en:α→D} {c:α→List D} {n jq:Nat} {ag:Bool} {t:TypeId} {x y:Operand} (l:List α) (i:Int) {kd:IntKind} (ht:qG P t=some (n,jq,ag)) (hl:uk en c n) (h:0≤i∧i<(l.length:Int)) (hk:k (.d (.cF (c (idx l i)))) H nx [] []) (ho:o.op= .indexAddr t x y:=by exact rfl) (hx:(aH S x).elems=some (l.map en):=by exact rfl) (hy:aH S y= .d (.val (.int kd i)):=by exact rfl):aU P eR o ⟨S,H,nx,df⟩ k:=by
 unfold aU;rw [ho]
 simp only [jV,oy,ht,hx,hy]
 refine ⟨⟨by simpa using h,hl.all l⟩,?_⟩
 rw [getD_map h,hl.cells]
 exact hk
theorem lg {n sz:Nat} {ag:Bool} {t:TypeId} {x y:Operand} {l:List D} (i:Int) {kd:IntKind} (ht:nR P t=some (n,sz,ag)) (hk:k (.d (.cF (l.drop (i.toNat*sz)))) H nx [] []) (ho:o.op= .indexAddr t x y:=by exact rfl) (hs:qG P t=none:=by kernel_rfl) (hx:aH S x= .d (.cF l):=by exact rfl) (hy:aH S y= .d (.val (.int kd i)):=by exact rfl) (h:0≤i∧i<(n:Int):=by decide):aU P eR o ⟨S,H,nx,df⟩ k:=by
 unfold aU;rw [ho];simp only [jV,oy,hs,ht,hx,hy];exact ⟨h,hk⟩
theorem cZ {n sz:Nat} {ag:Bool} {t:TypeId} {x y:Operand} {id off:Nat} (i:Int) {kd:IntKind} (ht:nR P t=some (n,sz,ag)) (hk:k (.aR id (off+i.toNat*sz)) H nx [] []) (ho:o.op= .indexAddr t x y:=by exact rfl) (hs:qG P t=none:=by kernel_rfl) (hx:aH S x= .aR id off:=by exact rfl) (hy:aH S y= .d (.val (.int kd i)):=by exact rfl) (h:0≤i∧i<(n:Int)):aU P eR o ⟨S,H,nx,df⟩ k:=by
 unfold aU;rw [ho];simp only [jV,oy,hs,ht,hx,hy];exact ⟨h,hk⟩
theorem g8 {t:TypeId} {x y:Operand} (l:List UInt8) (i:Int) {kd:IntKind} (ht:P.underlying t=some .string) (h:0≤i∧i<(l.length:Int)) (hk:k (.d (.val (.int .u8 ((idx l i).toNat:Int)))) H nx [] []) (ho:o.op= .index t x y:=by exact rfl) (ha:nR P t=none:=by kernel_rfl) (hx:aH S x= .d (.val (sV l)):=by exact rfl) (hy:aH S y= .d (.val (.int kd i)):=by exact rfl):aU P eR o ⟨S,H,nx,df⟩ k:=by
 unfold aU;rw [ho]
 simp only [jV,xK,ha,hx,hy,uj]
 exact ⟨⟨fun _=>ht,h⟩,hk⟩
theorem aL {t:TypeId} {f off n:Nat} {ag:Bool} {x:Operand} {l:List D} (ht:n5 P t f=some (off,n,ag)) (hk:k (.d (.cF (l.drop off))) H nx [] []) (ho:o.op= .fieldAddr t x f:=by exact rfl) (hn:n≠0:=by decide) (hx:aH S x= .d (.cF l):=by exact rfl):aU P eR o ⟨S,H,nx,df⟩ k:=by
 unfold aU;rw [ho];simp only [jV,pY,ht,hx];exact ⟨hn,hk⟩
theorem dF {t:TypeId} {f off n:Nat} {ag:Bool} {x:Operand} {id p:Nat} (ht:n5 P t f=some (off,n,ag)) (hk:k (.aR id (p+off)) H nx [] []) (ho:o.op= .fieldAddr t x f:=by exact rfl) (hn:n≠0:=by decide) (hx:aH S x= .aR id p:=by exact rfl):aU P eR o ⟨S,H,nx,df⟩ k:=by
 unfold aU;rw [ho];simp only [jV,pY,ht,hx];exact ⟨hn,hk⟩
def sP (ag:Bool) (n:Nat) (l:List D) (d:D):Prop:=match ag with
 | true=>n≤l.length∧D.agg (l.take n)=d
 | false=>l≠[]∧l.headD default=d
theorem sP.one {n:Nat} {d:D} {r:List D}:sP false n (d::r) d:=⟨by simp,rfl⟩
theorem aA {t:TypeId} {x:Operand} {l:List D} {ag:Bool} {n:Nat} (d:D) (ht:jU P t=some (ag,n)) (hk:k (.d d) H nx [] []) (ho:o.op= .load t x:=by exact rfl) (hx:aH S x= .d (.cF l):=by exact rfl) (h:sP ag n l d:=by exact sP.one):aU P eR o ⟨S,H,nx,df⟩ k:=by
 unfold aU;rw [ho];simp only [hx,ht]
 cases ag with
 | true=>obtain ⟨h1,rfl⟩:=h;exact ⟨h1,hk⟩
 | false=>obtain ⟨h1,rfl⟩:=h;exact ⟨h1,hk⟩
def D4 (ag:Bool) (n off:Nat) (l:List PV) (v:PV):Prop:=(off+n≤l.length∧0<n)∧oH ag l off n=v
theorem aW {t:TypeId} {x:Operand} {id off:Nat} {l:List PV} {ag:Bool} {n:Nat} (v:PV) (ht:jU P t=some (ag,n)) (hk:k v H nx [id] []) (ho:o.op= .load t x:=by exact rfl) (hx:aH S x= .aR id off:=by exact rfl) (hH:H id=some (.var l):=by exact rfl) (h:D4 ag n off l v:=by exact ⟨⟨by simp,by simp⟩,rfl⟩):aU P eR o ⟨S,H,nx,df⟩ k:=by
 unfold aU;rw [ho];simp only [hx,ht,hH,yj]
 obtain ⟨h1,rfl⟩:=h;exact ⟨h1,hk⟩
theorem aV {t:TypeId} {x y:Operand} {id off n:Nat} {ag:Bool} {l c:List PV} (l':List PV) {v:PV} (ht:jU P t=some (ag,n)) (hk:k .dJ (cG H id (some (.var l'))) nx [id] [id]) (ho:o.op= .store t x y:=by exact rfl) (hx:aH S x= .aR id off:=by exact rfl) (hH:H id=some (.var l):=by exact rfl) (hy:aH S y=v:=by exact rfl) (hs:v.ir=true:=by exact rfl) (hc:v.iF=c:=by exact rfl) (hn:c.length=n:=by exact rfl) (hf:off+n≤l.length:=by exact by simp) (hl:m4 l off c=l':=by exact rfl):aU P eR o ⟨S,H,nx,df⟩ k:=by
 unfold aU;rw [ho];simp only [hx,ht,hH,hy,hc,hl]
 exact ⟨⟨hs,hn,hf⟩,hk⟩
theorem bl {t:TypeId} {z:List Value} (l:List PV) (ht:m7 P t=some z) (hk:k (.aR nx 0) (cG H nx (some (.var l))) (nx+1) [] []) (ho:o.op= .alloc t:=by exact rfl) (h1:z.all Value.oneCell'=true:=by exact rfl) (hl:z.map oF=l:=by exact rfl):aU P eR o ⟨S,H,nx,df⟩ k:=by
 unfold aU;rw [ho];simp only [ht,hl];exact ⟨h1,hk⟩
theorem eE {t:TypeId} {x:Operand} {v:PV} (ds:List D) (ho:o.op= .box t x) (hf:zB eR o.dst=true) (hx:aH S x=v) (hs:v.ir=true) (hd:PV.dW v.iF=some ds) (hk:k (.d (.cF ds)) H nx [] []):aU P eR o ⟨S,H,nx,df⟩ k:=by
 unfold aU;rw [ho];simp only [hx,hd];rw [if_pos hf];exact ⟨hs,hk⟩
theorem Ht {t:TypeId} {x:Operand} {v:PV} (c:List PV) (hk:k (.aR nx 0) (cG H nx (some (.var c))) (nx+1) [] []) (ho:o.op= .box t x:=by exact rfl) (hf:zB eR o.dst=false:=by exact rfl) (hx:aH S x=v:=by exact rfl) (hs:v.ir=true:=by exact rfl) (hc:v.iF=c:=by exact rfl):aU P eR o ⟨S,H,nx,df⟩ k:=by
 unfold aU;rw [ho];simp only [hx,hc];rw [if_neg (by rw [hf];simp)];exact ⟨hs,hk⟩
theorem aY {x:Operand} {i:Nat} {l:List D} {d:D} (hk:k (.d d) H nx [] []) (ho:o.op= .extract x i:=by exact rfl) (hx:aH S x= .d (.tuple l):=by exact rfl) (h:l[i]? =some d:=by exact rfl):aU P eR o ⟨S,H,nx,df⟩ k:=by
 unfold aU;rw [ho];simp only [jV,uf,hx]
 have hi:=(List.getElem?_eq_some_iff.1 h).1
 refine ⟨hi,?_⟩
 rw [List.getD_eq_getElem?_getD,h];exact hk
theorem qs {x:Operand} {i:Nat} {l:List PV} {d:PV} (hk:k d H nx [] []) (ho:o.op= .extract x i:=by exact rfl) (hx:aH S x= .tuple l:=by exact rfl) (h:l[i]? =some d:=by exact rfl):aU P eR o ⟨S,H,nx,df⟩ k:=by
 unfold aU;rw [ho];simp only [jV,uf,hx]
 have hi:=(List.getElem?_eq_some_iff.1 h).1
 refine ⟨hi,?_⟩
 rw [List.getD_eq_getElem?_getD,h];exact hk
theorem p6 {t:TypeId} {x:Operand} {lo hi:Option Operand} (l:List UInt8) (a b:Int) (ht:P.underlying t=some .string) (h:0≤a∧a≤b∧b≤(l.length:Int)) (hk:k (.d (.val (sV (sub l a b)))) H nx [] []) (ho:o.op= .slice t x lo hi none:=by exact rfl) (hx:aH S x= .d (.val (sV l)):=by exact rfl) (ha:pV 0 (lo.map (aH S))=some a:=by exact rfl) (hb:pV (l.length:Int) (hi.map (aH S))=some b:=by exact rfl):aU P eR o ⟨S,H,nx,df⟩ k:=by
 unfold aU;rw [ho]
 simp only [jV,DY,ht,hx,ha,uj,Option.map_none,hb]
 refine ⟨h,?_⟩
 rw [D1]
 have e:b.toNat-a.toNat=(b-a).toNat:=by omega
 rw [e]
 exact hk
theorem p7 {α:Type} {en:α→D} {c:α→List D} {n jq:Nat} {ag:Bool} {t e:TypeId} {x:Operand} {lo hi:Option Operand} (l:List α) (a b:Int) (hu:P.underlying t=some (.slice e)) (ht:qG P t=some (n,jq,ag)) (h:0≤a∧a≤b∧b≤(l.length:Int)) (hk:k (.d (.slice ((sub l a b).map en))) H nx [] []) (ho:o.op= .slice t x lo hi none:=by exact rfl) (hl:uk en c n:=by exact fl) (hx:(aH S x).elems=some (l.map en):=by exact rfl) (ha:pV 0 (lo.map (aH S))=some a:=by exact rfl) (hb:pV (l.length:Int) (hi.map (aH S))=some b:=by exact rfl):aU P eR o ⟨S,H,nx,df⟩ k:=by
 unfold aU;rw [ho]
 simp only [jV,DY,hu,ht,hx,ha,Option.map_none,List.length_map,hb]
 refine ⟨⟨h,hl.all l⟩,?_⟩
 rw [← List.map_drop, ← List.map_take]
 exact hk
theorem Qk {α:Type} {en:α→D} {c:α→List D} {n jq:Nat} {ag:Bool} {t e:TypeId} {x hi mx:Operand} {lo:Option Operand} (l:List α) (a b:Int) {kd Cs:IntKind} (hu:P.underlying t=some (.slice e)) (ht:qG P t=some (n,jq,ag)) (hl:uk en c n) (h:0≤a∧a≤b∧b≤(l.length:Int)) (hk:k (.full ((sub l a b).map en)) H nx [] []) (ho:o.op= .slice t x lo (some hi) (some mx):=by exact rfl) (hx:(aH S x).elems=some (l.map en):=by exact rfl) (ha:pV 0 (lo.map (aH S))=some a:=by exact rfl) (hb:aH S hi= .d (.val (.int kd b)):=by exact rfl) (hm:aH S mx= .d (.val (.int Cs b)):=by exact rfl):aU P eR o ⟨S,H,nx,df⟩ k:=by
 unfold aU;rw [ho]
 simp only [jV,DY,hu,ht,hx,ha,Option.map_some,hb,hm,List.length_map]
 refine ⟨⟨h,trivial,hl.all l⟩,?_⟩
 rw [← List.map_drop, ← List.map_take]
 exact hk
theorem eA {α:Type} (en:α→D) {c:α→List D} {n jq:Nat} {t:TypeId} {sz:Nat} {parts:Array (Nat×Operand)} (l:List α) (ht:qH P t=some (n,jq)) (hk:k (.full (l.map en)) H nx [] []) (ho:o.op= .buildSlice t sz parts:=by exact rfl) (hl:uk en c n:=by exact fl) (hx:PV.dW (uG S parts.toList)=some (l.map en):=by exact rfl) (h1:BV parts.toList=List.range sz:=by exact rfl) (h2:sz*n≤2 ^ 24:=by decide) (h3:BU (uG S parts.toList):=by simp [BU,uG,aH,qP,PV.ir,p4,bW,D5,AS,ym,Gh,fE,Value.oneCell']):aU P eR o ⟨S,H,nx,df⟩ k:=by
 unfold aU;rw [ho];simp only [jV,ht,hx]
 exact ⟨⟨h1,h2,h3,hl.all l⟩,hk⟩
theorem kA {α:Type} (en:α→D) {c:α→List D} {n jq id:Nat} {t u:TypeId} {d:TypeDesc} {x y:Operand} (l l2:List α) (ht:qH P t=some (n,jq)) (hu:P.underlying u=some d) (h:(l.length+l2.length)*jq≤140737488355328) (hk:k (.own nx ((l++l2).map en)) (cG (cG H id none) nx (some (.spare n (l++l2).length))) (nx+1) [id] [id]) (ho:o.op= .call {callee:= .builtin .append,args:= #[x,y],argTypes:= #[t,u]}:=by exact rfl) (hd:ni d=true:=by exact rfl) (hl:uk en c n:=by exact fl) (hx:aH S x= .own id (l.map en):=by exact rfl) (hH:H id=some (.spare n l.length):=by exact rfl) (hy:(aH S y).more=some (l2.map en):=by exact rfl) (hb:0<jq:=by decide):aU P eR o ⟨S,H,nx,df⟩ k:=by
 unfold aU;rw [ho]
 simp only [yN,ht,hu,hy,hx,List.length_map]
 refine ⟨⟨hd,hH,hl.all l,hl.all l2⟩,⟨h,?_⟩,?_⟩
 ·have:(l.length+l2.length)*1≤(l.length+l2.length)*jq:=Nat.mul_le_mul_left _ hb
  rw [xU];omega
 ·rw [← List.map_append, ← List.length_append];exact hk
theorem D6 {α:Type} (en:α→D) {c:α→List D} {n jq:Nat} {t u:TypeId} {d:TypeDesc} {x y:Operand} (l l2:List α) (ht:qH P t=some (n,jq)) (hu:P.underlying u=some d) (hl:uk en c n) (hk:k (.own nx ((l++l2).map en)) (cG H nx (some (.spare n (l++l2).length))) (nx+1) [] []) (ho:o.op= .call {callee:= .builtin .append,args:= #[x,y],argTypes:= #[t,u]}:=by exact rfl) (hd:ni d=true:=by exact rfl) (hx:aH S x= .full (l.map en):=by exact rfl) (hy:(aH S y).more=some (l2.map en):=by exact rfl) (hb:0<jq:=by decide) (h:(l.length+l2.length)*jq≤140737488355328∧(l2=[]→l=[])):aU P eR o ⟨S,H,nx,df⟩ k:=by
 unfold aU;rw [ho]
 simp only [yN,ht,hu,hy,hx,List.length_map]
 refine ⟨⟨hd,hl.all l,hl.all l2⟩,⟨h.1,?_,?_⟩,?_⟩
 ·have:(l.length+l2.length)*1≤(l.length+l2.length)*jq:=Nat.mul_le_mul_left _ hb
  rw [xU];omega
 ·intro e;rw [h.2 (List.map_eq_nil_iff.1 e)];rfl
 ·rw [← List.map_append, ← List.length_append];exact hk
theorem wz {t:TypeId} {parts:Array (Nat×Operand)} (v:PV) (ho:o.op= .build t parts) (h1:(lX (sv P t) (pN S parts.toList)).2) (h2:(lX (sv P t) (pN S parts.toList)).1=v) (hk:k v H nx [] []):aU P eR o ⟨S,H,nx,df⟩ k:=by
 unfold aU;rw [ho];subst h2;exact ⟨h1,hk⟩
theorem Mg {f:Nat} {caps:Array Operand} {v:PV} (hk:k v H nx [] []) (ho:o.op= .makeFunc (.func f) #[] caps:=by exact rfl) (h:LR f (caps.toList.map (aH S))=v:=by exact rfl):aU P eR o ⟨S,H,nx,df⟩ k:=by
 unfold aU;rw [ho];subst h;exact ⟨rfl,hk⟩
theorem Ql {t u:TypeId} {x y:Operand} {dx dy:D} {b:Bool} (ho:o.op= .binOp .eql t x y u) (ha:CE (aH S x)=true) (hx:(aH S x).cN=some dx) (hy:(aH S y).cN=some dy) (h:G8 P t dx dy b) (hk:k (.d (.val (.bool b))) H nx [] []):aU P eR o ⟨S,H,nx,df⟩ k:=by
 unfold aU;rw [ho];simp only [isEq,ha,Bool.and_self,if_true,hx,hy];exact ⟨b,h,hk⟩
theorem az {c:Call} {f:Nat} {ds:List D} {d:D} (hF:cD P f ds d) (hk:k (.d d) H nx [] []) (ho:o.op= .call c:=by exact rfl) (hc:c.callee= .value (.func f):=by exact rfl) (he:e8 P f=true:=by kernel_rfl) (hd:PV.dW (c.args.toList.map (aH S))=some ds:=by exact rfl):aU P eR o ⟨S,H,nx,df⟩ k:=by
 unfold aU;rw [ho];simp only [hc,hd];exact ⟨he,d,hF,hk⟩
theorem xW {c:Call} {t:Nat} {f:Nat} {ds caps:List D} {d:D} (hF:cD P f (ds++caps) d) (hk:k (.d d) H nx [] []) (ho:o.op= .call c:=by exact rfl) (hc:c.callee= .value (.tmp t):=by exact rfl) (ht:S t= .d (.jT f caps):=by exact rfl) (he:e8 P f=true:=by kernel_rfl) (hd:PV.dW (c.args.toList.map (aH S))=some ds:=by exact rfl):aU P eR o ⟨S,H,nx,df⟩ k:=by
 unfold aU;rw [ho];simp only [hc,aH,ht,hd];exact ⟨he,d,hF,hk⟩
end
end Go.Proofs.YtlfjfoknbjcncaaGreat.K
namespace Go.Proofs.YtlfjfoknbjcncaaGreat.K
open Go Go.RowKit
variable {P:Program} {N b:Nat}
section
variable {next:St→Prop} {Q:PX→St→Prop} {s:St} {i id:Nat} {p:PV}
theorem cn (h:next s):PX.then next Q .normal s:=h
theorem eP (h:Q (.exit i) s):PX.then next Q (.exit i) s:=h
theorem dc (h:Q .ret s):PX.then next Q .ret s:=h
theorem tR (h:Q (.panic p) s):PX.then next Q (.panic p) s:=h
theorem iS (h:Q .normal s):PX.inBlock id Q .normal s:=h
theorem nK (h:Q .ret s):PX.inBlock id Q .ret s:=h
theorem K8 (h:Q (.panic p) s):PX.inBlock id Q (.panic p) s:=h
theorem kW (h:Q .normal s):PX.inBlock id Q (.exit id) s:=by simp only [PX.inBlock,if_true];exact h
end
theorem QW.s6 {x y:Code} {s:St} {Q:PX→St→Prop} (I:St→Prop) (h:QW P N b x s (PX.then (fun s'=>∃ s'',View N b s' s''∧I s'') Q)) (hb:∀ s',I s'→QW P N b y s' Q):QW P N b (.seq x y) s Q:=by
 refine ⟨h.1,fun m ρ a w hI=>?_⟩
 refine wp_seq (wp_mono (h.2 m ρ a w hI) ?_)
 rintro e a' w' ⟨px,s',m',ρ',hq,hr,nh,hA⟩
 cases px with
 | normal=>
  simp only [RX] at hr
  subst hr
  obtain ⟨s'',hv,hi⟩:=hq
  obtain ⟨m2,lH,AD,EX⟩:=hv m' ρ' a' w' nh
  exact wp_mono ((hb s'' hi).2 m2 lH a' w' AD) fun _ _ _ hp=>hp.K6 (hA.trans EX)
 | exit i=>simp only [RX] at hr;subst hr;exact ⟨.exit i,s',m',ρ',hq,rfl,nh,hA⟩
 | ret=>simp only [RX] at hr;subst hr;exact ⟨.ret,s',m',ρ',hq,rfl,nh,hA⟩
 | panic p=>obtain ⟨v,rfl,hv⟩:=hr;exact ⟨.panic p,s',m',ρ',hq,⟨v,rfl,hv⟩,nh,hA⟩
theorem View.trans {s s1 s2:St} (h:View N b s s1) (k:View N b s1 s2):View N b s s2:=by
 intro m ρ a w hI
 obtain ⟨m1,Gc,hI1,hA1⟩:=h m ρ a w hI
 obtain ⟨m2,lH,AD,EX⟩:=k m1 Gc a w hI1
 exact ⟨m2,lH,AD,hA1.trans EX⟩
theorem View.buf {s:St} (t sz:Nat) (hs:s.S t= .full []) (hb:b≤s.nx):View N b s ⟨eK s.S (some t) (.own s.nx []),cG s.H s.nx (some (.spare sz 0)),s.nx+1,s.df⟩:=by
 refine View.of (Nat.le_trans hb (Nat.le_succ _)) fun m ρ a w hI=>?_
 have rV:=hI.slots t
 rw [hs] at rV
 simp only [aO] at rV
 obtain ⟨ad,ev,_⟩:=rV
 have nn:∀ k,(∃ b c,ρ k=some (b,c))→k≠s.nx:=by
  rintro k ⟨b,c,h⟩ e
  subst e
  rw [hI.oX _ (Nat.le_refl _)] at h;cases h
 have nh:Inv N ⟨eK s.S (some t) (.own s.nx []),cG s.H s.nx (some (.spare sz 0)),s.nx+1,s.df⟩ m ρ a w:=by
  refine ⟨hI.size,hI.defers,fun i=>?_,⟨hI.valid.mem,fun i o _ hH=>?_,fun i j b c c' _ _ hi hj gi kn=>?_⟩,fun i hi=>?_,fun i hi=>hI.oX i (by have:s.nx+1≤i:=hi;omega)⟩
  ·simp only [p4]
   by_cases e:i=t
   ·subst e
    simp only [if_true,aO]
    exact .inr ⟨trivial,ad,ev⟩
   ·simp only [e,if_false];exact hI.slots i
  ·simp only [p5] at hH
   by_cases e:i=s.nx
   ·subst e
    simp only [if_true,Option.some.injEq] at hH
    subst hH
    exact .inl ⟨rfl,hI.oX _ (Nat.le_refl _)⟩
   ·simp only [e,if_false] at hH;exact hI.valid.entry i o trivial hH
  ·have e1:=nn i ⟨b,c,gi⟩
   have e2:=nn j ⟨b,c',kn⟩
   simp only [p5,e1,if_false] at hi
   simp only [p5,e2,if_false] at hj
   exact hI.valid.apart i j b c c' trivial trivial hi hj gi kn
  ·have h1:s.nx+1≤i:=hi
   have:i≠s.nx:=by omega
   simp only [p5,this,if_false]
   exact hI.iq i (by omega)
 refine ⟨ρ,nh,?_,fun _ _=>rfl⟩
 rintro b' ⟨i,c,_,hl,gi⟩
 have:=nn i ⟨b',c,gi⟩
 simp only [p5,this,if_false] at hl
 exact ⟨i,c,trivial,hl,gi⟩
theorem View.R6 {s:St} {l:List PV} (id j sz:Nat) (hH:s.H id=some (.var l)) (hj:l[j]? =some (.full [])) (hb:b≤s.nx):
  View N b s ⟨s.S,cG (cG s.H id (some (.var (l.set j (.own s.nx []))))) s.nx (some (.spare sz 0)),s.nx+1,s.df⟩:=by
 refine View.of (Nat.le_trans hb (Nat.le_succ _)) fun m ρ a w hI=>?_
 have hid:id≠s.nx:=by intro e;rw [e,hI.iq _ (Nat.le_refl _)] at hH;cases hH
 have nn:∀ k,(∃ b c,ρ k=some (b,c))→k≠s.nx:=by
  rintro k ⟨b,c,h⟩ e
  subst e
  rw [hI.oX _ (Nat.le_refl _)] at h;cases h
 have live:∀ k,k≠s.nx→cG (cG s.H id (some (.var (l.set j (.own s.nx []))))) s.nx (some (.spare sz 0)) k≠none→s.H k≠none:=by
  intro k hk
  simp only [cG,hk,if_false]
  split
  ·rename_i e;intro _;rw [e,hH];simp
  ·exact fun h=>h
 have nh:Inv N ⟨s.S,cG (cG s.H id (some (.var (l.set j (.own s.nx []))))) s.nx (some (.spare sz 0)),s.nx+1,s.df⟩ m ρ a w:=by
  refine ⟨hI.size,hI.defers,hI.slots,⟨hI.valid.mem,fun i o _ vo=>?_,fun i j b c c' _ _ hi hj gi kn=>?_⟩,fun i hi=>?_,fun i hi=>hI.oX i (by have:s.nx+1≤i:=hi;omega)⟩
  ·by_cases e:i=s.nx
   ·subst e
    simp only [cG,if_true,Option.some.injEq] at vo
    subst vo
    exact .inl ⟨rfl,hI.oX _ (Nat.le_refl _)⟩
   ·by_cases e2:i=id
    ·subst e2
     simp only [cG,e,if_false,if_true,Option.some.injEq] at vo
     subst vo
     rcases hI.valid.entry i _ trivial hH with ⟨e0,_⟩ | ⟨b,c,vs,tail,t,e1,e2,e3,e5,e4⟩
     ·rw [e0] at hj;cases hj
     refine .inr ⟨b,c,vs,tail,t,e1,e2,EW (fun v hv=>?_) _ _ _ hj e3,e5,e4⟩
     simp only [aO] at hv ⊢
     obtain ⟨ad,ev,_⟩:=hv
     exact .inr ⟨trivial,ad,ev⟩
    ·simp only [cG,e,e2,if_false] at vo
     exact hI.valid.entry i o trivial vo
  ·exact hI.valid.apart i j b c c' trivial trivial (live i (nn i ⟨b,c,gi⟩) hi) (live j (nn j ⟨b,c',kn⟩) hj) gi kn
  ·have h1:s.nx+1≤i:=hi
   have e1:i≠s.nx:=by omega
   have e2:i≠id:=by intro e;subst e;rw [hI.iq i (by omega)] at hH;cases hH
   simp only [cG,e1,e2,if_false]
   exact hI.iq i (by omega)
 refine ⟨ρ,nh,?_,fun _ _=>rfl⟩
 rintro b' ⟨i,c,_,hl,gi⟩
 exact ⟨i,c,trivial,live i (nn i ⟨b',c,gi⟩) hl,gi⟩
def D5:List D→Nat→List (Nat×PV)
 | [],_=>[]
 | x::r,i=>(i, .d x)::D5 r (i+1)
theorem Mh:∀ (l:List D) (i t:Nat),bW (D5 l i) (i+t)=zA l t
 | [],_,_=>by simp [D5,bW,zA]
 | x::r,i,0=>by simp [D5,bW,zA]
 | x::r,i,t+1=>by
  have:=Mh r (i+1) t
  unfold D5 bW
  rw [if_neg (by simp only;omega),show i+(t+1)=i+1+t by omega,this]
  simp [zA]
theorem View.init {args:List D} {L:List (Nat×PV)} (h:L=D5 args 0):View N 0 ⟨zA args,fun _=>none,0,[]⟩ ⟨bW L,aK [],0,[]⟩:=by
 subst h
 have e1:bW (D5 args 0)=zA args:=by funext t;have:=Mh args 0 t;rwa [Nat.zero_add] at this
 have e2:aK []=fun _=>none:=by funext i;rfl
 rw [e1,e2]
 exact View.refl (Nat.zero_le _)
def aN (P:Program) (s:St) (r:ResultVar) (p:PV):Prop:=(pG P s r).2∧(pG P s r).1=p
theorem aN.tmp {s:St} {t:Nat} {p:PV} (h:s.S t=p):aN P s (.tmp t) p:=⟨trivial,h⟩
theorem aN.cell {s:St} {t id off n:Nat} {ty:TypeId} {ag:Bool} {l:List PV} {p:PV} (hx:s.S t= .aR id off) (hH:s.H id=some (.var l)) (ht:jU P ty=some (ag,n)) (h:D4 ag n off l p):aN P s (.cell t ty) p:=by
 unfold aN pG
 simp only [hx,hH,yj,ht]
 exact ⟨h.1,h.2⟩
def vZ (P:Program) (s:St):List ResultVar→List PV→Prop
 | [],[]=>True
 | r::rs,p::ps=>aN P s r p∧vZ P s rs ps
 | _,_=>False
theorem vZ.spec {s:St}:∀ (rs:List ResultVar) (ps:List PV),vZ P s rs ps→(rs.map fun r=>(pG P s r).1)=ps∧∀ r∈rs,(pG P s r).2
 | [],[],_=>⟨rfl,by simp⟩
 | r::rs,p::ps,h=>by
  obtain ⟨h1,h2⟩:=h
  have:=vZ.spec rs ps h2
  refine ⟨by rw [List.map_cons,this.1,h1.2],?_⟩
  intro x hx
  rcases List.mem_cons.1 hx with rfl | hx
  ·exact h1.1
  ·exact this.2 x hx
 | [],_::_,h=>h.elim
 | _::_,[],h=>h.elim
theorem Ends.one {s:St} {r:ResultVar} {p:PV} {x y:D} {px:PX} (hp:px= .normal∨px= .ret) (hd:s.df=[]) (h:aN P s r p) (ht:p.cN=some x) (e:x=y):Ends P [r] (fun p=>p.cN=some y) px s:=
 ⟨hp,hd,h.1,by show (pG P s r).1.cN=_;rw [h.2,ht,e]⟩
theorem BW {s:St} {r r':ResultVar} {rs:List ResultVar}:pZ P (r::r'::rs) s=(.tuple ((r::r'::rs).map fun r=>(pG P s r).1),∀ x∈r::r'::rs,(pG P s x).2):=rfl
theorem Ends.more {s:St} {r r':ResultVar} {rs:List ResultVar} {ps:List PV} {x y:D} {px:PX} (hp:px= .normal∨px= .ret) (hd:s.df=[]) (h:vZ P s (r::r'::rs) ps) (ht:(PV.tuple ps).cN=some x) (e:x=y):Ends P (r::r'::rs) (fun p=>p.cN=some y) px s:=by
 have:=vZ.spec _ _ h
 refine ⟨hp,hd,?_,?_⟩
 ·rw [BW];exact this.2
 ·rw [BW];show PV.cN (.tuple _)=_;rw [this.1,ht,e]
section
variable {C R α:Type}
def D7 (f:C→Option R):Option (C⊕R)→Option R
 | some (.inl c)=>f c
 | some (.inr r)=>some r
 | none=>none
def run (step:C→Option (C⊕R)):Nat→C→Option R
 | 0,_=>none
 | n+1,c=>D7 (run step n) (step c)
def Comes (step:C→Option (C⊕R)) (c:C) (r:R):Prop:=∃ n,run step n c=some r
theorem Comes.stop {step:C→Option (C⊕R)} {c:C} {r:R} (h:step c=some (.inr r)):Comes step c r:=⟨1,by simp only [run,h,D7]⟩
theorem Comes.next {step:C→Option (C⊕R)} {c c':C} {r:R} (h:step c=some (.inl c')) (k:Comes step c' r):Comes step c r:=by
 obtain ⟨n,k⟩:=k
 exact ⟨n+1,by simp only [run,h,D7];exact k⟩
theorem aQ {step:C→Option (C⊕R)} {n:Nat} {c:C} {r:R} (h:run step n c=some r):∃ m,n=m+1∧D7 (run step m) (step c)=some r:=by
 cases n with
 | zero=>cases h
 | succ m=>exact ⟨m,rfl,h⟩
def gO (c:Prop) [Decidable c] (t:Option α):Option α:=if c then t else none
theorem ah {c:Prop} [Decidable c] {t:Option α} (h:c):gO c t=t:=if_pos h
theorem bq {c:Prop} [Decidable c] {t:Option α} {r:α} (h:gO c t=some r):c∧t=some r:=by
 unfold gO at h
 split at h
 ·exact ⟨by assumption,h⟩
 ·cases h
theorem gG {f:C→Option R} {c:Prop} [Decidable c] {t:Option (C⊕R)} {r:R} (h:D7 f (gO c t)=some r):c∧D7 f t=some r:=by
 unfold gO at h
 split at h
 ·exact ⟨by assumption,h⟩
 ·cases h
theorem bT {b:Bool} {x y:Option α} {r:α} (h:(bif b then x else y)=some r) (hb:b=true):x=some r:=by subst hb;exact h
theorem bF {b:Bool} {x y:Option α} {r:α} (h:(bif b then x else y)=some r) (hb:b=false):y=some r:=by subst hb;exact h
theorem ej {f:C→Option R} {b:Bool} {x y:Option (C⊕R)} {r:R} (h:D7 f (bif b then x else y)=some r) (hb:b=true):D7 f x=some r:=by subst hb;exact h
theorem ek {f:C→Option R} {b:Bool} {x y:Option (C⊕R)} {r:R} (h:D7 f (bif b then x else y)=some r) (hb:b=false):D7 f y=some r:=by subst hb;exact h
theorem bO {β:Type} {g:Option β} {k:β→Option α} {r:α} (h:g.bind k=some r):∃ x,g=some x∧k x=some r:=Option.bind_eq_some_iff.1 h
theorem bG {β:Type} {f:C→Option R} {g:Option β} {k:β→Option (C⊕R)} {r:R} (h:D7 f (g.bind k)=some r):∃ x,g=some x∧D7 f (k x)=some r:=by
 cases g with
 | none=>cases h
 | some x=>exact ⟨x,rfl,h⟩
theorem sO {v r:α} (h:some v=some r):v=r:=Option.some.inj h
theorem sG {f:C→Option R} {v r:R} (h:D7 f (some (.inr v))=some r):v=r:=Option.some.inj h
theorem jG {f:C→Option R} {c:C} {r:R} (h:D7 f (some (.inl c))=some r):f c=some r:=h
end
section
variable {ops:Array Oper} {o:Oper} {r:List Oper} {s:St}
theorem Hu {b w:Bool} (h:(b==w)=true):b=w:=by simpa using h
theorem CG {S:Nat→PV}:∀ {l:List Operand},s4 true S l→∀ x∈l,∀ m ρ u,aO m ρ (aH S x) u→aO m ρ (fE (aH S x)).2 u
 | [],_,x,hx=>by cases hx
 | y::r,h,x,hx=>by
  intro m ρ u hr
  rcases List.mem_cons.1 hx with rfl | hx
  ·exact AK hr (h.1 rfl)
  ·exact CG h.2 x hx m ρ u hr
theorem Hv {g:Bool} {v:PV} {T:List Nat} (hn:∀ i,s.nx≤i→s.H i=none) (hg:rJ ops o s.S=some g) (hc:s4 g s.S o.op.operands.toList)
  (h:g=true→aU P [] o ⟨AS s.S,s.H,s.nx,s.df⟩ fun v' H' cw T' W=>(W=[]∧cw=s.nx∧T'=T)∧H'=s.H∧fX v' v) (hT:g=false→∀ i∈T,i<s.nx):qo P ops o s (.cond g v) s.H ⟨T,[],s.nx,s.nx⟩:=by
 refine .gd hg ?_ ?_
 ·cases g with
  | false=>exact hT rfl
  | true=>
   obtain ⟨v',H',cw,T',W,h1,⟨⟨rfl,rfl,rfl⟩,rfl,_⟩⟩:=kT (s:=⟨AS s.S,s.H,s.nx,s.df⟩) hn (h rfl)
   exact h1.old
 ·rintro rfl
  obtain ⟨v',H',cw,T',W,h1,⟨⟨rfl,rfl,rfl⟩,rfl,hi⟩⟩:=kT (s:=⟨AS s.S,s.H,s.nx,s.df⟩) hn (h rfl)
  refine ⟨AS s.S,fun x hx m ρ u hr=>?_,h1.imp hi⟩
  rw [RZ]
  exact CG hc x (by simpa using hx) m ρ u hr
variable {S:Nat→PV} {H:HM} {nx:Nat} {df:List (Nat×List PV)}
theorem XK.gd {Q:PX→St→Prop} {g:Bool} {v:PV} {T:List Nat} (d:Option Nat) (hd:o.dst=d) (hg:rJ ops o S=some g) (hc:s4 g S o.op.operands.toList)
  (h:g=true→aU P [] o ⟨AS S,H,nx,df⟩ fun v' H' cw T' W=>(W=[]∧cw=nx∧T'=T)∧H'=H∧fX v' v) (hT:g=false→∀ i∈T,i<nx)
  (k:XK P ops r ⟨eK S d (.cond g v),H,nx,df⟩ Q):XK P ops (o::r) ⟨S,H,nx,df⟩ Q:=by subst hd;exact fun hn=> .step (Hv hn hg hc h hT) (k hn)
theorem RQ.gd {Q:St→Prop} {g:Bool} {v:PV} {T:List Nat} (d:Option Nat) (hd:o.dst=d) (hg:rJ ops o S=some g) (hc:s4 g S o.op.operands.toList)
  (h:g=true→aU P [] o ⟨AS S,H,nx,df⟩ fun v' H' cw T' W=>(W=[]∧cw=nx∧T'=T)∧H'=H∧fX v' v) (hT:g=false→∀ i∈T,i<nx)
  (k:RQ P ops r ⟨eK S d (.cond g v),H,nx,df⟩ Q):RQ P ops (o::r) ⟨S,H,nx,df⟩ Q:=by
 intro hn
 subst hd
 obtain ⟨s',L,h4,h5,h6⟩:=k hn
 refine ⟨s',_, .cons (Hv hn hg hc h hT) h4,?_,h6⟩
 intro R hR
 rcases List.mem_cons.1 hR with rfl | hR
 ·exact ⟨rfl,rfl⟩
 ·exact h5 R hR
theorem RK.gd {acc:List Rec} {K:St→List Rec→Prop} {g:Bool} {v:PV} {T:List Nat} (d:Option Nat) (hd:o.dst=d) (hg:rJ ops o S=some g) (hc:s4 g S o.op.operands.toList)
  (h:g=true→aU P [] o ⟨AS S,H,nx,df⟩ fun v' H' cw T' W=>(W=[]∧cw=nx∧T'=T)∧H'=H∧fX v' v) (hT:g=false→∀ i∈T,i<nx)
  (k:RK P ops r ⟨eK S d (.cond g v),H,nx,df⟩ (⟨T,[],nx,nx⟩::acc) K):RK P ops (o::r) ⟨S,H,nx,df⟩ acc K:=by
 intro hn
 subst hd
 obtain ⟨s',L,h4,h5⟩:=k hn
 exact ⟨s',_, .cons (Hv hn hg hc h hT) h4,by simpa using h5⟩
variable {eR:List Nat} {k:PV→HM→Nat→List Nat→List Nat→Prop}
theorem JI {c x y:Operand} {b u v gx gy:Bool} (ho:o.op= .pick c x y) (hc:aH S c= .d (.val (.bool b))) (hx:fE (aH S x)=(gx, .d (.val (.bool u)))) (hy:fE (aH S y)=(gy, .d (.val (.bool v)))) (h1:b=true→gx=true) (h2:b=false→gy=true)
  (hk:k (.d (.val (.bool (bif b then u else v)))) H nx [] []):aU P eR o ⟨S,H,nx,df⟩ k:=by
 unfold aU;rw [ho]
 simp only [jV,zn,hc,hx,hy]
 exact ⟨⟨h1,h2⟩,hk⟩
theorem cO {c x y:Operand} {b u gx gy:Bool} (hk:k (.d (.val (.bool (b&&u)))) H nx [] []) (ho:o.op= .pick c x y:=by exact rfl) (hc:aH S c= .d (.val (.bool b)):=by exact rfl) (hx:fE (aH S x)=(gx, .d (.val (.bool u))):=by exact rfl) (hy:fE (aH S y)=(gy, .d (.val (.bool false))):=by exact rfl) (h1:b=true→gx=true:=by exact fun hb=>by rw [hb];rfl) (h2:b=false→gy=true:=by exact fun _=>rfl):aU P eR o ⟨S,H,nx,df⟩ k:=
 JI ho hc hx hy h1 h2 (by cases b<;>exact hk)
theorem fh {c x y:Operand} {b v gx gy:Bool} (hk:k (.d (.val (.bool (b||v)))) H nx [] []) (ho:o.op= .pick c x y:=by exact rfl) (hc:aH S c= .d (.val (.bool b)):=by exact rfl) (hx:fE (aH S x)=(gx, .d (.val (.bool true))):=by exact rfl) (hy:fE (aH S y)=(gy, .d (.val (.bool v))):=by exact rfl) (h1:b=true→gx=true:=by exact fun _=>rfl) (h2:b=false→gy=true:=by exact fun hb=>by rw [hb];rfl):aU P eR o ⟨S,H,nx,df⟩ k:=
 JI ho hc hx hy h1 h2 (by cases b<;>exact hk)
theorem UB (a:UInt8):bf (a.toNat:Int):=by have:=n7 a;unfold bf;omega
end
end Go.Proofs.YtlfjfoknbjcncaaGreat.K
namespace Go.Proofs.YtlfjfoknbjcncaaGreat.K
open Go Go.RowKit
variable {P:Program} {N b:Nat} {ops:Array Oper} {o:Oper} {r:List Oper} {α:Type} {n:Nat} {en:α→D}
abbrev aD (n:Nat) (α:Type):={l:List α//l.length=n}
def aD.rep (n:Nat) (x:α):aD n α:=⟨List.replicate n x,by simp⟩
instance WO [Inhabited α]:Inhabited (aD n α):=⟨aD.rep n default⟩
def aD.put (a:aD n α) (i:Int) (x:α):aD n α:=⟨a.1.set i.toNat x,by rw [List.length_set];exact a.2⟩
def Pre (l:List D) (en:α→D) (a:aD n α):Prop:=∃ rest,l=a.1.map en++rest
theorem Pre.all (a:aD n α):Pre (a.1.map en) en a:=⟨[],by simp⟩
theorem nq [Inhabited α] {l:List D} {a:aD n α} {i:Int} {m:Nat} (hp:Pre l en a) (h:0≤i∧i<(n:Int)):sP false m (l.drop (i.toNat*1)) (en (idx a.1 i)):=by
 obtain ⟨rest,rfl⟩:=hp
 have hi:i.toNat<a.1.length:=by rw [a.2];omega
 rw [Nat.mul_one,List.drop_append_of_le_length (by simpa using Nat.le_of_lt hi),List.drop_eq_getElem_cons (by simpa using hi)]
 refine ⟨by simp,?_⟩
 simp [idx,List.getD_eq_getElem?_getD,List.getElem?_eq_getElem hi]
section
variable {S:Nat→PV} {H:HM} {nx:Nat} {df:List (Nat×List PV)} {eR:List Nat} {k:PV→HM→Nat→List Nat→List Nat→Prop}
theorem R7 {l:List D} {a:aD n α} (hp:Pre l en a) {lo hi:Int} (h:0≤lo∧lo≤hi∧hi≤(n:Int)):(l.drop lo.toNat).take (hi-lo).toNat=(sub a.1 lo hi).map en:=by
 obtain ⟨rest,rfl⟩:=hp
 unfold sub
 have h1:lo.toNat≤(a.1.map en).length:=by rw [List.length_map,a.2];omega
 rw [List.drop_append_of_le_length h1,List.take_append_of_le_length (by rw [List.length_drop,List.length_map,a.2];omega),List.map_take,List.map_drop]
theorem EZ {t e:TypeId} {x:Operand} {l:List D} (a:aD n α) {ag:Bool} (hu:P.underlying t=some (.array n e)) (ht:nR P t=some (n,1,ag)) (hp:Pre l en a) (hk:k (.full (a.1.map en)) H nx [] []) (ho:o.op= .slice t x none none none:=by exact rfl) (hx:aH S x= .d (.cF l):=by exact rfl) (hf:∀ x∈l,x.flat=true):aU P eR o ⟨S,H,nx,df⟩ k:=by
 unfold aU;rw [ho]
 have hn:n≤l.length:=by obtain ⟨rest,rfl⟩:=hp;simp [a.2]
 have e:=R7 hp (lo:=0) (hi:=(n:Int)) (by omega)
 simp only [jV,DY,hu,ht,hx,Option.map_none,pV,Option.isSome_none,Bool.false_eq_true,if_false]
 refine ⟨⟨⟨Int.le_refl _,Int.natCast_nonneg _,Int.le_refl _⟩,hn,hf⟩,?_⟩
 rw [e]
 have:sub a.1 0 (n:Int)=a.1:=by
  unfold sub
  rw [List.take_of_length_le (by rw [List.length_drop,a.2];omega)];rfl
 rw [this];exact hk
theorem Hw (l:List α):((l.map en).map PV.d)=l.map fun x=> .d (en x):=by simp
theorem fR [Inhabited α] {a:aD n α} {i:Int} (h:0≤i∧i<(n:Int)):D4 false 1 (0+i.toNat*1) ((a.1.map en).map .d) (.d (en (idx a.1 i))):=by
 have hi:i.toNat<a.1.length:=by rw [a.2];omega
 refine ⟨⟨by simp only [List.length_map,a.2];omega,by omega⟩,?_⟩
 simp only [oH,Bool.false_eq_true,if_false,Nat.zero_add,Nat.mul_one,Hw,idx]
 rw [List.getD_eq_getElem?_getD,List.getElem?_map,List.getElem?_eq_getElem hi,List.getD_eq_getElem?_getD,List.getElem?_eq_getElem hi];rfl
theorem s7 {a:aD n α} {i:Int} {x:α} (h:0≤i∧i<(n:Int)):m4 ((a.1.map en).map PV.d) (0+i.toNat*1) [PV.d (en x)]=((a.put i x).1.map en).map PV.d:=by
 have hi:i.toNat<a.1.length:=by rw [a.2];omega
 simp only [m4,Nat.zero_add,Nat.mul_one,aD.put]
 apply List.ext_getElem?
 intro j
 simp only [Hw,List.getElem?_map,List.getElem?_set]
 rcases Nat.lt_trichotomy j i.toNat with hj | hj | hj
 ·rw [List.getElem?_append_left (by simp;omega),List.getElem?_take,if_pos hj,List.getElem?_map,if_neg (by omega)]
 ·subst hj
  rw [List.getElem?_append_right (by simp;omega),if_pos rfl,if_pos hi]
  simp only [List.length_take,List.length_map,Nat.min_eq_left (Nat.le_of_lt hi),Nat.sub_self,List.cons_append,List.getElem?_cons_zero,Option.map_some]
 ·rw [List.getElem?_append_right (by simp;omega),if_neg (by omega)]
  simp only [List.length_take,List.length_map,Nat.min_eq_left (Nat.le_of_lt hi)]
  rw [show j-i.toNat=(j-i.toNat-1)+1 by omega,List.cons_append,List.getElem?_cons_succ,List.nil_append,List.getElem?_drop,List.getElem?_map,List.length_singleton,show i.toNat+1+(j-i.toNat-1)=j by omega]
theorem uV {a:aD n α} {i:Int} (h:0≤i∧i<(n:Int)):0+i.toNat*1+1≤((a.1.map en).map PV.d).length:=by simp only [List.length_map,a.2];omega
theorem lq {a:aD n α} (h:0<n):D4 true n 0 ((a.1.map en).map .d) (.agg ((a.1.map en).map .d)):=by
 refine ⟨⟨by simp [a.2],h⟩,?_⟩
 simp only [oH,if_true,List.drop_zero]
 rw [List.take_of_length_le (by simp [a.2])]
theorem jk {l:List D}:fX (.agg (l.map .d)) (.d (.agg l)):=fX.cN (by simp only [PV.cN,xR,Option.map_some])
theorem cE {l c:List PV} (h:l.length=c.length):m4 l 0 c=c:=by
 unfold m4
 rw [List.take_zero,List.nil_append,List.drop_eq_nil_of_le (by omega),List.append_nil]
theorem bK {l:List D}:PV.dW (l.map .d)=some l:=xR l
theorem JJ {t u:TypeId} {x y:Operand} (p q:UInt8) (hk:k (.d (.val (.int .u8 ((p+q).toNat:Int)))) H nx [] []) (ho:o.op= .binOp .add t x y u:=by exact rfl) (hx:aH S x= .d (.val (.int .u8 (p.toNat:Int))):=by exact rfl) (hy:aH S y= .d (.val (.int .u8 (q.toNat:Int))):=by exact rfl):aU P eR o ⟨S,H,nx,df⟩ k:=
 gT ho hx hy rfl rfl (by show PV.d (.val (.int .u8 (IntKind.u8.wrap _)))=_;rw [Uv]) hk
theorem UD (a b:UInt8):IntKind.u8.wrap ((a.toNat:Int)*(b.toNat:Int))=(a*b).toNat:=by
 rw [IntKind.wrap_u8,UInt8.toNat_mul]
 omega
theorem Qn {t u:TypeId} {x y:Operand} (p q:UInt8) (hk:k (.d (.val (.int .u8 ((p*q).toNat:Int)))) H nx [] []) (ho:o.op= .binOp .mul t x y u:=by exact rfl) (hx:aH S x= .d (.val (.int .u8 (p.toNat:Int))):=by exact rfl) (hy:aH S y= .d (.val (.int .u8 (q.toNat:Int))):=by exact rfl):aU P eR o ⟨S,H,nx,df⟩ k:=
 gT ho hx hy rfl rfl (by show PV.d (.val (.int .u8 (IntKind.u8.wrap _)))=_;rw [UD]) hk
theorem R8 {t u:TypeId} {x y:Operand} (p q:UInt8) (hk:k (.d (.val (.int .u8 ((p||| q).toNat:Int)))) H nx [] []) (ho:o.op= .binOp .or t x y u:=by exact rfl) (hx:aH S x= .d (.val (.int .u8 (p.toNat:Int))):=by exact rfl) (hy:aH S y= .d (.val (.int .u8 (q.toNat:Int))):=by exact rfl):aU P eR o ⟨S,H,nx,df⟩ k:=
 gT ho hx hy rfl rfl (by show PV.d (.val (.int .u8 (IntKind.u8.wrap _)))=_;rw [Xf]) hk
theorem JK {t u:TypeId} {x y:Operand} (p q:UInt8) (hk:k (.d (.val (.int .u8 ((p&&& q).toNat:Int)))) H nx [] []) (ho:o.op= .binOp .and t x y u:=by exact rfl) (hx:aH S x= .d (.val (.int .u8 (p.toNat:Int))):=by exact rfl) (hy:aH S y= .d (.val (.int .u8 (q.toNat:Int))):=by exact rfl):aU P eR o ⟨S,H,nx,df⟩ k:=
 gT ho hx hy rfl rfl (by show PV.d (.val (.int .u8 (IntKind.u8.wrap _)))=_;rw [Uu]) hk
theorem R9 {q:UInt8} (h:q≠0):(q.toNat:Int)≠0:=by
 intro e;apply h;apply UInt8.toNat_inj.1;show q.toNat=0;omega
theorem JL {t u:TypeId} {x y:Operand} (p q:UInt8) (hk:k (.d (.val (.int .u8 ((p/q).toNat:Int)))) H nx [] []) (ho:o.op= .binOp .quo t x y u:=by exact rfl) (hx:aH S x= .d (.val (.int .u8 (p.toNat:Int))):=by exact rfl) (hy:aH S y= .d (.val (.int .u8 (q.toNat:Int))):=by exact rfl) (h:q≠0:=by decide):aU P eR o ⟨S,H,nx,df⟩ k:=by
 refine gT ho hx hy rfl ⟨rfl,R9 h⟩ ?_ hk
 show PV.d (.val (.int .u8 (IntKind.u8.wrap ((p.toNat:Int).tdiv (q.toNat:Int)))))=_
 have e:(p.toNat:Int).tdiv (q.toNat:Int)=((p/q).toNat:Int):=by rw [UInt8.toNat_div];rfl
 rw [e,xQ]
theorem yO {t u:TypeId} {x y:Operand} (p q:UInt8) (hk:k (.d (.val (.int .u8 ((p%q).toNat:Int)))) H nx [] []) (ho:o.op= .binOp .rem t x y u:=by exact rfl) (hx:aH S x= .d (.val (.int .u8 (p.toNat:Int))):=by exact rfl) (hy:aH S y= .d (.val (.int .u8 (q.toNat:Int))):=by exact rfl) (h:q≠0:=by decide):aU P eR o ⟨S,H,nx,df⟩ k:=by
 refine gT ho hx hy rfl ⟨rfl,R9 h⟩ ?_ hk
 show PV.d (.val (.int .u8 ((p.toNat:Int).tmod (q.toNat:Int))))=_
 have e:(p.toNat:Int).tmod (q.toNat:Int)=((p%q).toNat:Int):=by rw [UInt8.toNat_mod];rfl
 rw [e]
def oJ (a:UInt8) (c:Int):UInt8:=UInt8.ofNat (a.toNat/2 ^ (min c.toNat 8))
def um (a:UInt8) (c:Int):UInt8:=UInt8.ofNat (a.toNat*2 ^ (min c.toNat 8))
theorem JM {t u:TypeId} {x y:Operand} (p:UInt8) (c:Int) {kd:IntKind} (hk:k (.d (.val (.int .u8 ((oJ p c).toNat:Int)))) H nx [] []) (ho:o.op= .binOp .shr t x y u:=by exact rfl) (hx:aH S x= .d (.val (.int .u8 (p.toNat:Int))):=by exact rfl) (hy:aH S y= .d (.val (.int kd c)):=by exact rfl) (h:0≤c:=by decide):aU P eR o ⟨S,H,nx,df⟩ k:=by
 refine gT ho hx hy rfl h ?_ hk
 show PV.d (.val (.int .u8 ((p.toNat:Int).fdiv (2 ^ (min c.toNat 8)))))=_
 have h1:p.toNat/2 ^ (min c.toNat 8)<256:=Nat.lt_of_le_of_lt (Nat.div_le_self _ _) (n7 p)
 have e:(p.toNat:Int).fdiv (2 ^ (min c.toNat 8))=((p.toNat/2 ^ (min c.toNat 8):Nat):Int):=by
  rw [Int.fdiv_eq_ediv_of_nonneg _ (by exact Int.le_of_lt (Int.pow_pos (by decide)))]
  push_cast;rfl
 rw [e,oJ,UInt8.toNat_ofNat',Nat.mod_eq_of_lt h1]
theorem Qo {t u:TypeId} {x y:Operand} (p:UInt8) (c:Int) {kd:IntKind} (hk:k (.d (.val (.int .u8 ((um p c).toNat:Int)))) H nx [] []) (ho:o.op= .binOp .shl t x y u:=by exact rfl) (hx:aH S x= .d (.val (.int .u8 (p.toNat:Int))):=by exact rfl) (hy:aH S y= .d (.val (.int kd c)):=by exact rfl) (h:0≤c:=by decide):aU P eR o ⟨S,H,nx,df⟩ k:=by
 refine gT ho hx hy rfl h ?_ hk
 show PV.d (.val (.int .u8 (IntKind.u8.wrap ((p.toNat:Int)*2 ^ (min c.toNat 8)))))=_
 have e:(p.toNat:Int)*2 ^ (min c.toNat 8)=((p.toNat*2 ^ (min c.toNat 8):Nat):Int):=by push_cast;rfl
 rw [e,Me,um]
end
theorem D8 {l:List D} {off m:Nat} {d:D} (h:sP false m (l.drop off) d) (hl:off+m≤l.length) (hm:0<m):D4 false m off (l.map .d) (.d d):=by
 obtain ⟨h1,h2⟩:=h
 refine ⟨⟨by simpa using hl,hm⟩,?_⟩
 simp only [oH,Bool.false_eq_true,if_false]
 rw [List.getD_eq_getElem?_getD,List.getElem?_map,List.getElem?_eq_getElem (by omega)]
 rw [List.drop_eq_getElem_cons (by omega)] at h2
 exact congrArg PV.d h2
theorem E0 {l:List D} {off m:Nat} {c:List D} (h:sP true m (l.drop off) (.agg c)) (hl:off+m≤l.length) (hm:0<m):D4 true m off (l.map .d) (.agg (c.map .d)):=by
 obtain ⟨h1,h2⟩:=h
 refine ⟨⟨by simpa using hl,hm⟩,?_⟩
 simp only [oH,if_true]
 injection h2 with h2
 rw [← List.map_drop, ← List.map_take,h2]
theorem aj (a:aD n α):((a.1.map en).map PV.d).length=n:=by simp [a.2]
theorem oZ (a:aD n α):0+n≤((a.1.map en).map PV.d).length:=by rw [aj,Nat.zero_add];exact Nat.le_refl _
theorem GD {c1 c2:List D} (h:c1.length=c2.length):m4 (c1.map PV.d) 0 (c2.map PV.d)=c2.map PV.d:=cE (by simpa using h)
theorem K9 {c:List D} {m:Nat} (h:c.length=m):0+m≤(c.map PV.d).length:=by simp [h]
theorem GF {c:List D} {m:Nat} (h:c.length=m):(c.map PV.d).length=m:=by simpa using h
theorem UE {c:List D} {m:Nat} (h:c.length=m) (hm:0<m):D4 true m 0 (c.map .d) (.agg (c.map .d)):=by
 refine ⟨⟨by simp [h],hm⟩,?_⟩
 simp only [oH,if_true,List.drop_zero]
 rw [List.take_of_length_le (by simp [h])]
theorem Hx {l:List D} {j:Nat} (h:∀ x∈l,x.flat=true):∀ x∈l.drop j,x.flat=true:=fun x hx=>h x (List.mem_of_mem_drop hx)
theorem JN (a:aD n α) (h:∀ y,(en y).flat=true):∀ x∈a.1.map en,x.flat=true:=by
 intro x hx
 obtain ⟨z,_,rfl⟩:=List.mem_map.1 hx;exact h z
theorem View.freeze {s:St} {l:List D} (id t:Nat) (hH:s.H id=some (.var (l.map .d))) (ht:s.S t= .aR id 0) (Mi:b≤s.nx):View N b s ⟨eK s.S (some t) (.d (.cF l)),cG s.H id none,s.nx,s.df⟩:=by
 intro m ρ a w hI
 have rV:=hI.slots t
 rw [ht] at rV
 simp only [aO] at rV
 obtain ⟨b9,c9,YR,_⟩:=rV
 rcases hI.valid.entry id _ trivial hH with ⟨_,e⟩ | ⟨b0,cc,vs,tail,ty,e1,e2,e3,e5,e4⟩
 ·rw [YR] at e;cases e
 clear YR
 have yP:m.le (m.with b0 vs):=fun x y v e=>by
  unfold Mem.with
  split
  ·rename_i hx;rw [hx,e4] at e;cases e
  ·exact e
 have hnew:∀ x y v,(m.with b0 vs) x y=some v→m x y=some v∨x=b0:=by
  intro x y v e
  unfold Mem.with at e
  split at e
  ·rename_i hx;exact .inr hx
  ·exact .inl e
 have hmem:gr (m.with b0 vs) w:=by
  intro x y v e
  unfold Mem.with at e
  split at e
  ·rename_i hx
   subst hx
   refine ⟨?_,e5 v (List.mem_of_getElem? e)⟩
   rw [iH e2]
   have e:vs[y]? =some v:=by simpa using e
   rw [List.getElem?_append_left (List.getElem?_eq_some_iff.1 e).1];exact e
  ·exact hI.valid.mem x y v e
 have hl:=bC.dW (l.map .d) l vs (xR l) e3
 have YT:∀ (l:List D) (us:List Value) (o:Nat),bP m l us→(∀ j v,us[j]? =some v→(m.with b0 vs) b0 (o+j)=some v)→jw (m.with b0 vs) b0 l o:=by
  intro l
  induction l with
  | nil=>intro us o _ _;simp [jw]
  | cons x r ih=>
   intro us o hr hc
   simp only [bP] at hr
   obtain ⟨v,vr,rfl,h1,h2⟩:=hr
   simp only [jw]
   refine ⟨⟨v,by simpa using hc 0 v rfl,h1.mono yP⟩,ih vr (o+1) h2 fun j u hj=>?_⟩
   have:=hc (j+1) u (by simpa using hj)
   rwa [show o+1+j=o+(j+1) by omega]
 have nh:Inv N ⟨eK s.S (some t) (.d (.cF l)),cG s.H id none,s.nx,s.df⟩ (m.with b0 vs) ρ a w:=by
  refine ⟨hI.size,hI.defers.mono yP (dA.le_refl _),fun i=>?_,⟨hmem,fun i o _ vo=>?_,fun i j b1 c1 c2 _ _ hi hj gi kn=>?_⟩,fun i hi=>?_,hI.oX⟩
  ·show aO _ _ (eK s.S (some t) (.d (.cF l)) i) _
   rw [p4]
   split
   ·rename_i e
    subst e
    have:=hI.slots i
    rw [ht] at this
    simp only [aO] at this
    obtain ⟨b',c',hr,ev⟩:=this
    rw [e1] at hr;cases hr
    simp only [aO,bk]
    exact ⟨b0,0,ev,YT l vs 0 hl fun j v hj=>by simp [Mem.with,hj]⟩
   ·exact (hI.slots i).mono yP (dA.le_refl _)
  ·by_cases e:i=id
   ·subst e;simp [cG] at vo
   ·simp only [cG,e,if_false] at vo
    have hE:=hI.valid.entry i o trivial vo
    refine hE.move yP (dA.le_refl _) rfl (fun _ _ _=>rfl) (fun b' c' hr o' v e'=>?_)
    rcases hnew b' o' v e' with h1 | h1
    ·exact h1
    ·subst h1
     exact absurd (hI.valid.apart i id b' c' cc trivial trivial (by rw [vo];simp) (by rw [hH];simp) hr e1) e
  ·refine hI.valid.apart i j b1 c1 c2 trivial trivial ?_ ?_ gi kn
   ·intro e;apply hi;simp only [cG];split
    ·rfl
    ·exact e
   ·intro e;apply hj;simp only [cG];split
    ·rfl
    ·exact e
  ·simp only [cG]
   split
   ·rfl
   ·exact hI.iq i hi
 have Xk:∀ x,yg ρ (cG s.H id none) (fun _=>True) x→yg ρ s.H (fun _=>True) x:=by
  rintro x ⟨i,c,_,hl,gi⟩
  refine ⟨i,c,trivial,?_,gi⟩
  intro e
  apply hl
  simp only [cG]
  split
  ·rfl
  ·exact e
 have bid:yg ρ s.H (fun _=>True) b0:=⟨id,cc,trivial,by rw [hH];simp,e1⟩
 refine ⟨m.with b0 vs,ρ,nh,⟨⟨yP,Nat.le_refl _,fun _ _ _=>rfl,rfl,rfl,rfl,fun x y v e=>?_⟩,fun c hc=> .inl (Xk c hc),Mi,fun _ _=>rfl⟩⟩
 rcases hnew x y v e with h2 | h2
 ·exact .inl h2
 ·subst h2;exact .inr (.inl bid)
section
variable {S:Nat→PV} {H:HM} {nx:Nat} {df:List (Nat×List PV)} {eR:List Nat} {k:PV→HM→Nat→List Nat→List Nat→Prop}
theorem wA [Inhabited α] {t:TypeId} {x y:Operand} (a:aD n α) (i:Int) {kd:IntKind} (ht:nR P t=some (n,1,false)) (h:0≤i∧i<(n:Int)) (hk:k (.d (en (idx a.1 i))) H nx [] []) (ho:o.op= .index t x y:=by exact rfl) (hx:aH S x= .d (.agg (a.1.map en)):=by exact rfl) (hy:aH S y= .d (.val (.int kd i)):=by exact rfl):aU P eR o ⟨S,H,nx,df⟩ k:=by
 unfold aU;rw [ho]
 have hi:i.toNat<a.1.length:=by rw [a.2];omega
 have e:AL false (a.1.map en) (i.toNat*1) 1=en (idx a.1 i):=by
  simp only [AL,Bool.false_eq_true,if_false,Nat.mul_one]
  exact getD_map (by rw [a.2];exact h)
 simp only [jV,xK,ht,hx,hy,e]
 exact ⟨⟨(fun h=>nomatch h),h,by simp [a.2],by omega⟩,hk⟩
end
end Go.Proofs.YtlfjfoknbjcncaaGreat.K
namespace Go.Proofs.YtlfjfoknbjcncaaGreat.K
open Go Go.RowKit
variable {P:Program} {N b:Nat}
mutual
theorem aO.vq {m:Mem} {ρ lH:dA} {f:Nat→Nat} (hf:∀ i,lH (f i)=ρ i):∀ (p:PV) (v:Value),aO m ρ p v→aO m lH (p.re f) v
 | .d x,v,e=>by simpa [PV.re,aO] using e
 | .full l,v,e=>by simpa [PV.re,aO] using e
 | .own id l,v,e=>by simpa [PV.re,aO,hf] using e
 | .aR id off,v,e=>by simpa [PV.re,aO,hf] using e
 | .iG id off n,v,e=>by simpa [PV.re,aO,hf] using e
 | .room id n,v,e=>by simpa [PV.re,aO,hf] using e
 | .jT g l,v,e=>by
  simp only [PV.re,aO] at e ⊢
  obtain ⟨vs,e1,e2⟩:=e
  exact ⟨vs,e1,bC.vq hf l vs e2⟩
 | .agg l,v,e=>by
  simp only [PV.re,aO] at e ⊢
  obtain ⟨vs,e1,e2,e3⟩:=e
  exact ⟨vs,e1,bC.vq hf l vs e2,e3⟩
 | .tuple l,v,e=>by
  simp only [PV.re,aO] at e ⊢
  obtain ⟨vs,e1,e2⟩:=e
  exact ⟨vs,e1,bC.vq hf l vs e2⟩
 | .cond g p,v,e=>by
  simp only [PV.re,aO] at e ⊢
  exact ⟨fun h=>aO.vq hf p v (e.1 h),e.2⟩
 | .dJ,v,e=>by simp [PV.re,aO]
theorem bC.vq {m:Mem} {ρ lH:dA} {f:Nat→Nat} (hf:∀ i,lH (f i)=ρ i):∀ (l:List PV) (vs:List Value),bC m ρ l vs→bC m lH (PV.res f l) vs
 | [],vs,e=>by simpa [PV.res,bC] using e
 | x::r,vs,e=>by
  simp only [PV.res,bC] at e ⊢
  obtain ⟨v,vr,e1,e2,e3⟩:=e
  exact ⟨v,vr,e1,aO.vq hf x v e2,bC.vq hf r vr e3⟩
end
theorem iw.vq {m:Mem} {ρ lH:dA} {w:World} {i:Nat} {f:Nat→Nat} {o:HO} (hf:∀ i,lH (f i)=ρ i) (h:iw m ρ w i o):iw m lH w (f i) (o.re f):=by
 cases o with
 | var l=>
  simp only [HO.re,iw] at h ⊢
  rcases h with ⟨e0,e⟩ | ⟨b,c,vs,tail,t,e1,e2,e3,e4⟩
  ·exact .inl ⟨by rw [e0];rfl,by rw [hf];exact e⟩
  exact .inr ⟨b,c,vs,tail,t,by rw [hf];exact e1,e2,bC.vq hf _ _ e3,e4⟩
 | spare sz n=>
  simp only [HO.re,iw] at h ⊢
  rw [hf];exact h
 | dead=>exact h.elim
 | CX sz l=>
  simp only [HO.re,iw] at h ⊢
  rcases h with ⟨e0,e⟩ | ⟨b,c,vs,tail,t,e1,e2,e3,e4⟩
  ·exact .inl ⟨by rw [e0];rfl,by rw [hf];exact e⟩
  exact .inr ⟨b,c,vs,tail,t,by rw [hf];exact e1,e2,bC.vq hf _ _ e3,e4⟩
def iR (f:Nat→Nat):List HO→Nat→HM→HM
 | [],_,H=>H
 | x::r,i,H=>cG (iR f r (i+1) H) (f i) (lv (x.re f))
theorem JO {f:Nat→Nat} {H:HM} (hinj:∀ i j,f i=f j→i=j):∀ (M:List HO) (k i:Nat) (o:HO),aK M i=some o→iR f M k H (f (k+i))=some (o.re f)
 | [],_,_,_,h=>by simp [aK] at h
 | x::r,k,0,o,h=>by
  simp only [aK] at h
  simp [iR,cG,Xi h]
 | x::r,k,i+1,o,h=>by
  have:=JO (H:=H) hinj r (k+1) i o h
  have hne:f (k+(i+1))≠f k:=fun e=>by have:=hinj _ _ e;omega
  simp only [iR,cG,hne,if_false]
  rw [show k+(i+1)=k+1+i by omega];exact this
theorem Hy {f:Nat→Nat} {H:HM} {j:Nat}:∀ (M:List HO) (k:Nat),(∀ i,i<M.length→j≠f (k+i))→iR f M k H j=H j
 | [],_,_=>rfl
 | x::r,k,h=>by
  have h0:j≠f k:=h 0 (by simp)
  simp only [iR,cG,h0,if_false]
  exact Hy r (k+1) fun i hi=>by have:=h (i+1) (by simpa using hi);rwa [show k+(i+1)=k+1+i by omega] at this
theorem FO {f:Nat→Nat} {H:HM} (hinj:∀ i j,f i=f j→i=j):∀ (M:List HO) (k i:Nat),i<M.length→aK M i=none→iR f M k H (f (k+i))=none
 | [],_,_,h,_=>by simp at h
 | x::r,k,0,_,h=>by
  simp only [aK] at h
  have:lv (x.re f)=none:=by cases x<;>simp [lv,HO.re] at h ⊢
  simp [iR,cG,this]
 | x::r,k,i+1,hl,h=>by
  have:=FO (H:=H) hinj r (k+1) i (by simpa using hl) h
  have hne:f (k+(i+1))≠f k:=fun e=>by have:=hinj _ _ e;omega
  simp only [iR,cG,hne,if_false]
  rw [show k+(i+1)=k+1+i by omega];exact this
theorem BX:∀ (M:List HO) (i:Nat) (o:HO),aK M i=some o→i<M.length
 | [],_,_,h=>by simp [aK] at h
 | x::r,0,_,_=>by simp
 | x::r,i+1,o,h=>by have:=BX r i o h;simp;omega
def mJ (out:Out) (H:HM) (n:Nat):Out→HM→Nat→Prop:=fun out' H' n'=>out'=out∧H'=H∧n'=n
def Out.re (f:Nat→Nat):Out→Out
 | .ret p=> .ret (p.re f)
 | .nV p=> .nV (p.re f)
def l5 (F:List Nat) (n nx i:Nat):Nat:=if i<n then F.getD i 0 else nx+(i-n)
theorem JP {H:HM} {nx:Nat} {M M':List HO} (F:List Nat) (hF:F.length=M.length) (hd:F.Nodup) (hH:FM (ld F nx) H M 0) (hle:M.length≤M'.length)
  {m:Mem} {ρ:dA} {w:World} (V:eu (fun _=>True) m ρ w H) (hn:∀ i,nx≤i→H i=none) (hρ:∀ i,nx≤i→ρ i=none):
  (eu (fun _=>True) m (fun i=>ρ (ld F nx i)) w (aK M)∧(∀ i,M.length≤i→aK M i=none)∧∀ i,M.length≤i→ρ (ld F nx i)=none)∧
  ∀ (m':Mem) (ρ':dA) (w':World),eu (fun _=>True) m' ρ' w' (aK M')→(∀ i,M'.length≤i→ρ' i=none)→oG M.length m (fun i=>ρ (ld F nx i)) w (aK M) M'.length m' ρ' w' (aK M')→
   ∃ lH:dA,eu (fun _=>True) m' lH w' (iR (l5 F M.length nx) M' 0 H)∧(∀ i,nx+(M'.length-M.length)≤i→iR (l5 F M.length nx) M' 0 H i=none)∧(∀ i,nx+(M'.length-M.length)≤i→lH i=none)∧
    oG nx m ρ w H (nx+(M'.length-M.length)) m' lH w' (iR (l5 F M.length nx) M' 0 H)∧∀ p v,aO m' ρ' p v→aO m' lH (p.re (l5 F M.length nx)) v:=by
 have Gi:∀ i,i<M.length→∃ x,F[i]? =some x∧ld F nx i=x∧l5 F M.length nx i=x:=by
  intro i hi
  refine ⟨F[i]'(by omega),List.getElem?_eq_getElem (by omega),?_,?_⟩
  ·unfold ld;rw [List.getD_eq_getElem?_getD,List.getElem?_eq_getElem (by omega)];rfl
  ·unfold l5;rw [if_pos hi,List.getD_eq_getElem?_getD,List.getElem?_eq_getElem (by omega)];rfl
 have EY:∀ i o,aK M i=some o→i<M.length∧H (ld F nx i)=some (o.re (ld F nx)):=by
  intro i o h
  have:=Hp M 0 i o hH h
  rw [Nat.zero_add] at this
  exact this
 have hne:∀ i,aK M i≠none→i<M.length∧H (ld F nx i)≠none:=by
  intro i h
  cases hh:aK M i with
  | none=>exact absurd hh h
  | some o=>have:=EY i o hh;exact ⟨this.1,by rw [this.2];simp⟩
 have Pv:∀ i,i<M.length→ld F nx i<nx:=by
  intro i hi
  have:=JE M 0 i M[i] hH (List.getElem?_eq_getElem hi)
  rw [Nat.zero_add] at this
  rcases Nat.lt_or_ge (ld F nx i) nx with h | h
  ·exact h
  ·rw [hn _ h] at this;cases this
 have Sa:∀ i j,i<M.length→j<M.length→ld F nx i=ld F nx j→i=j:=by
  intro i j hi hj e
  obtain ⟨x,hx,ex,_⟩:=Gi i hi
  obtain ⟨y,hy,ey,_⟩:=Gi j hj
  rw [ex,ey] at e
  subst e
  obtain ⟨l1,e1⟩:=List.getElem?_eq_some_iff.1 hx
  obtain ⟨l2,e2⟩:=List.getElem?_eq_some_iff.1 hy
  exact (List.getElem_inj hd).1 (e1.trans e2.symm)
 have hinj:∀ i j,l5 F M.length nx i=l5 F M.length nx j→i=j:=by
  intro i j e
  by_cases hi:i<M.length<;>by_cases hj:j<M.length
  ·obtain ⟨x,_,ex,ex'⟩:=Gi i hi
   obtain ⟨y,_,ey,ey'⟩:=Gi j hj
   exact Sa i j hi hj (by rw [ex,ey, ← ex', ← ey',e])
  ·have h1:=Pv i hi
   obtain ⟨x,_,ex,ex'⟩:=Gi i hi
   rw [ex', ← ex] at e
   unfold l5 at e;rw [if_neg hj] at e;omega
  ·have h1:=Pv j hj
   obtain ⟨x,_,ex,ex'⟩:=Gi j hj
   rw [ex', ← ex] at e
   unfold l5 at e;rw [if_neg hi] at e;omega
  ·unfold l5 at e;rw [if_neg hi,if_neg hj] at e;omega
 have FN:∀ i,M.length≤i→ρ (ld F nx i)=none:=by
  intro i hi
  have:ld F nx i=nx+i:=by
   unfold ld
   rw [List.getD_eq_getElem?_getD,List.getElem?_eq_none (by omega)];rfl
  rw [this]
  exact hρ _ (Nat.le_add_right _ _)
 have Vs:eu (fun _=>True) m (fun i=>ρ (ld F nx i)) w (aK M):=by
  refine ⟨V.mem,?_,?_⟩
  ·intro i o _ ho
   exact iw.re rfl (fun p v h=>aO.re p v h) (V.entry _ _ trivial (EY i o ho).2)
  ·intro i j c d d' _ _ hi hj gi kn
   have h1:=hne i hi
   have h2:=hne j hj
   exact Sa i j h1.1 h2.1 (V.apart _ _ _ _ _ trivial trivial h1.2 h2.2 gi kn)
 have Hz:∀ i,M.length≤i→aK M i=none:=by
  intro i hi
  cases hh:aK M i with
  | none=>rfl
  | some o=>have:=BX M i o hh;omega
 refine ⟨⟨Vs,Hz,FN⟩,?_⟩
 intro m' ρ' w' V' Mj hA
 let lH:dA:=fun i=>if i<nx then ρ i else ρ' (M.length+(i-nx))
 have Mk:∀ i,lH (l5 F M.length nx i)=ρ' i:=by
  intro i
  by_cases hi:i<M.length
  ·obtain ⟨x,_,ex,ex'⟩:=Gi i hi
   have h1:=Pv i hi
   show (if _ then _ else _)=_
   rw [ex', ← ex,if_pos h1,hA.old i hi]
  ·show (if _ then _ else _)=_
   unfold l5
   rw [if_neg hi,if_neg (by omega)]
   congr 1;omega
 have WQ:ρ.le lH:=by
  intro i x hx
  show (if _ then _ else _)=_
  rcases Nat.lt_or_ge i nx with h | h
  ·rw [if_pos h];exact hx
  ·rw [hρ i h] at hx;cases hx
 have hold:∀ i,i<nx→lH i=ρ i:=fun i hi=>by show (if _ then _ else _)=_;rw [if_pos hi]
 have hin:∀ i o,aK M' i=some o→iR (l5 F M.length nx) M' 0 H (l5 F M.length nx i)=some (o.re (l5 F M.length nx)):=by
  intro i o ho
  have:=JO (H:=H) hinj M' 0 i o ho
  rwa [Nat.zero_add] at this
 have La:∀ j,(∃ i o,aK M' i=some o∧j=l5 F M.length nx i)∨iR (l5 F M.length nx) M' 0 H j=none∨((∀ i,i<M'.length→j≠l5 F M.length nx i)∧iR (l5 F M.length nx) M' 0 H j=H j):=by
  intro j
  by_cases h:∃ i,i<M'.length∧j=l5 F M.length nx i
  ·obtain ⟨i,hi,e⟩:=h
   cases ho:aK M' i with
   | some o=>exact .inl ⟨i,o,ho,e⟩
   | none=>exact .inr (.inl (by have:=FO (H:=H) hinj M' 0 i hi ho;rw [Nat.zero_add] at this;rw [e];exact this))
  ·have h':∀ i,i<M'.length→j≠l5 F M.length nx i:=fun i hi e=>h ⟨i,hi,e⟩
   exact .inr (.inr ⟨h',Hy M' 0 (fun i hi=>by rw [Nat.zero_add];exact h' i hi)⟩)
 have hout:∀ j b c,(∀ i,i<M'.length→j≠l5 F M.length nx i)→H j≠none→ρ j=some (b,c)→¬ yg (fun i=>ρ (ld F nx i)) (aK M) (fun _=>True) b:=by
  rintro j b c hj hjn hr ⟨i,d,_,hl,gi⟩
  have h1:=hne i hl
  have:=V.apart j _ _ _ _ trivial trivial hjn h1.2 hr gi
  obtain ⟨x,_,ex,ex'⟩:=Gi i h1.1
  exact hj i (by omega) (by rw [this,ex,ex'])
 have hlt:∀ j b c,H j≠none→ρ j=some (b,c)→b<w.heap.size:=by
  intro j b c hj hr
  cases hh:H j with
  | none=>exact absurd hh hj
  | some o=>exact (V.entry j o trivial hh).pU hr
 have Ml:∀ j,H j≠none→j<nx:=by
  intro j hj
  rcases Nat.lt_or_ge j nx with h | h
  ·exact h
  ·exact absurd (hn j h) hj
 have Vb:eu (fun _=>True) m' lH w' (iR (l5 F M.length nx) M' 0 H):=by
  refine ⟨V'.mem,?_,?_⟩
  ·intro j o _ ho
   rcases La j with ⟨i,o',ho',rfl⟩ | I2 | ⟨hj,e⟩
   ·rw [hin i o' ho'] at ho
    cases ho
    exact iw.vq Mk (V'.entry i o' trivial ho')
   ·rw [I2] at ho;cases ho
   ·rw [e] at ho
    have hjn:H j≠none:=by rw [ho];simp
    refine (V.entry j o trivial ho).move hA.ext.mem WQ (hold j (Ml j hjn)) (fun b' c hr=>?_) (fun b' c hr o' v e'=>?_)
    ·exact hA.ext.block b' (hlt j b' c hjn hr) (hout j b' c hj hjn hr)
    ·rcases hA.ext.new b' o' v e' with h1 | h1 | h1
     ·exact h1
     ·exact absurd h1 (hout j b' c hj hjn hr)
     ·have:=hlt j b' c hjn hr;omega
  ·intro i j b' c c' _ _ hi hj gi kn
   have Sb:∀ i j c c',(∃ p o,aK M' p=some o∧i=l5 F M.length nx p)→((∀ q,q<M'.length→j≠l5 F M.length nx q)∧iR (l5 F M.length nx) M' 0 H j=H j)→iR (l5 F M.length nx) M' 0 H j≠none→lH i=some (b',c)→lH j=some (b',c')→False:=by
    rintro i j c c' ⟨p,o,ho,rfl⟩ ⟨hj,e⟩ hjn gi kn
    rw [e] at hjn
    rw [hold j (Ml j hjn)] at kn
    rw [Mk] at gi
    rcases hA.place b' ⟨p,c,trivial,by rw [ho];simp,gi⟩ with h1 | h1
    ·exact hout j b' c' hj hjn kn h1
    ·have:=hlt j b' c' hjn kn;omega
   have YV:∀ j,iR (l5 F M.length nx) M' 0 H j≠none→(∃ i o,aK M' i=some o∧j=l5 F M.length nx i)∨((∀ i,i<M'.length→j≠l5 F M.length nx i)∧iR (l5 F M.length nx) M' 0 H j=H j):=fun j hj=>(La j).elim .inl (fun h=>h.elim (fun h=>absurd h hj) .inr)
   rcases YV i hi with Sc | Sc<;>rcases YV j hj with Sd | Sd
   ·obtain ⟨p,o,ho,rfl⟩:=Sc
    obtain ⟨q,o',ho',rfl⟩:=Sd
    rw [Mk] at gi kn
    rw [V'.apart p q _ _ _ trivial trivial (by rw [ho];simp) (by rw [ho'];simp) gi kn]
   ·exact (Sb i j c c' Sc Sd hj gi kn).elim
   ·exact (Sb j i c' c Sd Sc hi kn gi).elim
   ·rw [Sc.2] at hi
    rw [Sd.2] at hj
    rw [hold i (Ml i hi)] at gi
    rw [hold j (Ml j hj)] at kn
    exact V.apart i j b' c c' trivial trivial hi hj gi kn
 refine ⟨lH,Vb,?_,?_,⟨hA.ext.mono ?_,WQ,?_,by omega,hold⟩,fun p v h=>aO.vq Mk p v h⟩
 ·intro j hj
  rcases La j with ⟨i,o,ho,rfl⟩ | I2 | ⟨_,e⟩
  rotate_left
  ·exact I2
  rotate_left
  ·have h1:=BX M' i o ho
   unfold l5 at hj
   split at hj
   ·rename_i h2
    obtain ⟨x,hx,ex,ex'⟩:=Gi i h2
    have h3:=Pv i h2
    have:F.getD i 0=x:=by rw [List.getD_eq_getElem?_getD,hx];rfl
    rw [this, ← ex] at hj;omega
   ·omega
  ·rw [e];exact hn j (by omega)
 ·intro j hj
  show (if _ then _ else _)=_
  rw [if_neg (by omega)]
  exact Mj _ (by omega)
 ·rintro b' ⟨i,c,_,hl,gi⟩
  exact ⟨ld F nx i,c,trivial,(hne i hl).2,gi⟩
 ·rintro b' ⟨j,c,_,hl,kn⟩
  rcases La j with ⟨i,o,ho,rfl⟩ | I2 | ⟨_,e⟩
  rotate_left
  ·exact absurd I2 hl
  rotate_left
  ·rw [Mk] at kn
   rcases hA.place b' ⟨i,c,trivial,by rw [ho];simp,kn⟩ with ⟨p,c',_,hl',hp⟩ | h1
   ·exact .inl ⟨ld F nx p,c',trivial,(hne p hl').2,hp⟩
   ·exact .inr h1
  ·rw [e] at hl
   rw [hold j (Ml j hl)] at kn
   exact .inl ⟨j,c,trivial,hl,kn⟩
theorem FP {H:HM} {nx:Nat} {f:Nat} {args:List PV} {M M':List HO} {out:Out} (F:List Nat) (hS:Spec P f args (aK M) M.length (mJ out (aK M') M'.length))
  (hF:F.length=M.length) (hd:F.Nodup) (hH:FM (ld F nx) H M 0) (hle:M.length≤M'.length):
  ∀ (m:Mem) (ρ:dA) (w:World) (vs:List Value),eu (fun _=>True) m ρ w H→(∀ i,nx≤i→H i=none)→(∀ i,nx≤i→ρ i=none)→bC m ρ (PV.res (ld F nx) args) vs→
   Calls P f ⟨vs⟩ w fun e w'=>∃ m' ρ',eu (fun _=>True) m' ρ' w' (iR (l5 F M.length nx) M' 0 H)∧(∀ i,nx+(M'.length-M.length)≤i→iR (l5 F M.length nx) M' 0 H i=none)∧(∀ i,nx+(M'.length-M.length)≤i→ρ' i=none)∧
    oG nx m ρ w H (nx+(M'.length-M.length)) m' ρ' w' (iR (l5 F M.length nx) M' 0 H)∧RE m' ρ' (out.re (l5 F M.length nx)) e:=by
 intro m ρ w vs V hn hρ hr
 obtain ⟨⟨Vs,Hz,FN⟩,tr⟩:=JP (M':=M') F hF hd hH hle V hn hρ
 refine (hS m (fun i=>ρ (ld F nx i)) w vs Vs Hz FN (bC.re args vs hr)).mono ?_
 rintro e w' ⟨out',H',cw,m',ρ',⟨rfl,rfl,rfl⟩,V',hn',Mj,hA,I9⟩
 obtain ⟨lH,h1,h2,h3,h4,h5⟩:=tr m' ρ' w' V' Mj hA
 refine ⟨m',lH,h1,h2,h3,h4,?_⟩
 cases out' with
 | ret p=>obtain ⟨v,rfl,hv⟩:=I9;exact ⟨v,rfl,h5 p v hv⟩
 | nV p=>obtain ⟨v,rfl,hv⟩:=I9;exact ⟨v,rfl,h5 p v hv⟩
section
variable {ops:Array Oper} {o:Oper} {r:List Oper} {S:Nat→PV} {H:HM} {nx:Nat} {df:List (Nat×List PV)} {Q:PX→St→Prop}
theorem bR {c:Call} {f:Nat} {args:List PV} {M M':List HO} {out:Out} (F:List Nat) (ho:o.op= .call c) (hc:c.callee= .value (.func f)) (he:e8 P f=true) (hS:Spec P f args (aK M) M.length (mJ out (aK M') M'.length))
  (ha:c.args.toList.map (aH S)=PV.res (ld F nx) args) (hF:F.length=M.length) (hd:F.Nodup) (hH:FM (ld F nx) H M 0) (hle:M.length≤M'.length):
  ES P o ⟨S,H,nx,df⟩ fun out' H' cw=>out'=out.re (l5 F M.length nx)∧H'=iR (l5 F M.length nx) M' 0 H∧cw=nx+(M'.length-M.length):=by
 intro m ρ a w K Q V hn hρ hx h1 h2
 have hx':∀ x∈c.args.toList,aO m ρ (aH S x) (a.eval x):=fun x hx'=>hx x (by simp only [ho,Op.operands,Call.operands];simp only [Array.mem_append];exact .inr (by simpa using hx'))
 unfold Oper.wp
 rw [sZ ho hc he,Oper.upon_enter]
 have hr:=sX (s:=⟨S,H,nx,df⟩) c.args.toList hx'
 have hr':bC m ρ (PV.res (ld F nx) args) (c.args.toList.map a.eval):=ha▸hr
 have:=FP F hS hF hd hH hle m ρ w _ V hn hρ hr'
 have e:(⟨c.args.toList.map a.eval⟩:Array Value)=c.args.map a.eval:=by apply Array.ext';simp
 rw [e] at this
 refine this.mono ?_
 rintro e w' ⟨m',ρ',V',hn',hr',hA,I9⟩
 cases out with
 | ret p=>obtain ⟨v,rfl,hv⟩:=I9;exact h1 _ _ _ m' ρ' w' v ⟨rfl,rfl,rfl⟩ V' hn' hr' hA hv
 | nV p=>obtain ⟨v,rfl,hv⟩:=I9;exact h2 _ _ _ m' ρ' w' v ⟨rfl,rfl,rfl⟩ V' hn' hr' hA hv
theorem Mm {c:Call} {f t:Nat} {args caps:List PV} {M M':List HO} {out:Out} (F:List Nat) (ho:o.op= .call c) (hc:c.callee= .value (.tmp t)) (ht:S t= .jT f caps) (he:e8 P f=true) (hS:Spec P f args (aK M) M.length (mJ out (aK M') M'.length))
  (ha:c.args.toList.map (aH S)++caps=PV.res (ld F nx) args) (hF:F.length=M.length) (hd:F.Nodup) (hH:FM (ld F nx) H M 0) (hle:M.length≤M'.length):
  ES P o ⟨S,H,nx,df⟩ fun out' H' cw=>out'=out.re (l5 F M.length nx)∧H'=iR (l5 F M.length nx) M' 0 H∧cw=nx+(M'.length-M.length):=by
 intro m ρ a w K Q V hn hρ hx h1 h2
 have hx':∀ x∈c.args.toList,aO m ρ (aH S x) (a.eval x):=fun x hx'=>hx x (by simp only [ho,Op.operands,Call.operands];simp only [Array.mem_append];exact .inr (by simpa using hx'))
 have h0:=hx (.tmp t) (by simp [ho,Op.operands,Call.operands,hc])
 have Gj:aO m ρ (.jT f caps) (a.eval (.tmp t)):=ht▸h0
 simp only [aO] at Gj
 obtain ⟨cs,Xc,hcs⟩:=Gj
 unfold Oper.wp
 rw [CC ho hc Xc he,Oper.upon_enter]
 have hr:=vX (sX (s:=⟨S,H,nx,df⟩) c.args.toList hx') hcs
 have hr':bC m ρ (PV.res (ld F nx) args) (c.args.toList.map a.eval++cs):=ha▸hr
 have:=FP F hS hF hd hH hle m ρ w _ V hn hρ hr'
 have e:(⟨c.args.toList.map a.eval++cs⟩:Array Value)=c.args.map a.eval++⟨cs⟩:=by apply Array.ext';simp
 rw [e] at this
 refine this.mono ?_
 rintro e w' ⟨m',ρ',V',hn',hr',hA,I9⟩
 cases out with
 | ret p=>obtain ⟨v,rfl,hv⟩:=I9;exact h1 _ _ _ m' ρ' w' v ⟨rfl,rfl,rfl⟩ V' hn' hr' hA hv
 | nV p=>obtain ⟨v,rfl,hv⟩:=I9;exact h2 _ _ _ m' ρ' w' v ⟨rfl,rfl,rfl⟩ V' hn' hr' hA hv
theorem XK.fr {out:Out} {H2:HM} {nr n:Nat} {p:PV} (d:Option Nat) (hd:o.dst=d) (hg:o.guard=none) {f:Nat→Nat} {M':List HO} (h:ES P o ⟨S,H,nx,df⟩ fun out' H' cw=>out'=out.re f∧H'=iR f M' 0 H∧cw=nx+n)
  (ho:out.re f= .ret p) (hH:iR f M' 0 H=H2) (hn:nx+n=nr) (k:XK P ops r ⟨eK S d p,H2,nr,df⟩ Q):XK P ops (o::r) ⟨S,H,nx,df⟩ Q:=by
 subst hd hH hn
 refine fun iq=> .call hg h ?_ ?_
 ·rintro p' H' cw ⟨e,rfl,rfl⟩ hn'
  rw [ho] at e
  cases e
  exact k hn'
 ·rintro p' H' cw ⟨e,rfl,rfl⟩
  rw [ho] at e
  cases e
theorem XK.fp {out:Out} {H2:HM} {nr n:Nat} {p:PV} (hg:o.guard=none) {f:Nat→Nat} {M':List HO} (h:ES P o ⟨S,H,nx,df⟩ fun out' H' cw=>out'=out.re f∧H'=iR f M' 0 H∧cw=nx+n)
  (ho:out.re f= .nV p) (hH:iR f M' 0 H=H2) (hn:nx+n=nr) (k:Q (.panic p) ⟨S,H2,nr,df⟩):XK P ops (o::r) ⟨S,H,nx,df⟩ Q:=by
 subst hH hn
 refine fun iq=> .call hg h ?_ ?_
 ·rintro p' H' cw ⟨e,rfl,rfl⟩ hn'
  rw [ho] at e
  cases e
 ·rintro p' H' cw ⟨e,rfl,rfl⟩
  rw [ho] at e
  cases e
  exact k
theorem XK.panic {x:Operand} {t:TypeId} {y:D} (hg:o.guard=none) (ho:o.op= .panic x) (hx:aH S x= .d (.iface t y)) (k:Q (.panic (.d (.iface t y))) ⟨S,H,nx,df⟩):XK P ops (o::r) ⟨S,H,nx,df⟩ Q:=by
 refine fun iq=> .call (post:=fun out' H' cw=>out'= .nV (.d (.iface t y))∧H'=H∧cw=nx) hg ?_ ?_ ?_
 ·intro m ρ a w K Q V hn hρ hxs h1 h2
  have h0:=hxs x (by simp [ho,Op.operands])
  have Gj:aO m ρ (.d (.iface t y)) (a.eval x):=hx▸h0
  have YW:=Gj
  simp only [aO,bk] at Gj
  obtain ⟨u,hv,_⟩:=Gj
  unfold Oper.wp
  have hrun:(execOp a.eval o).run P w= .halt (.panic (.iface t u)) w:=by
   obtain ⟨dst,op,type,pos,after,guard⟩:=o
   simp only at ho
   subst ho
   simp only [execOp,hv]
   rfl
  rw [hrun,Oper.upon_panic]
  exact h2 _ _ _ m ρ w _ ⟨rfl,rfl,rfl⟩ V hn hρ (oG.refl _ _ _ _ _) (hv▸YW)
 ·rintro p' H' cw ⟨e,rfl,rfl⟩ hn';cases e
 ·rintro p' H' cw ⟨e,rfl,rfl⟩;cases e;exact k
variable {eR:List Nat} {k:PV→HM→Nat→List Nat→List Nat→Prop}
theorem BY {t:TypeId} {x:Operand} (y:D) (hk:k (.d (.iface t y)) H nx [] []) (ho:o.op= .makeInterface t x:=by exact rfl) (hx:(aH S x).cN=some y:=by exact rfl) (ht:yM P t=true:=by kernel_rfl):aU P eR o ⟨S,H,nx,df⟩ k:=by
 unfold aU;rw [ho];simp only [jV,hx];exact ⟨ht,hk⟩
end
def HA:List PV→Nat→List (Nat×PV)
 | [],_=>[]
 | x::r,i=>(i,x)::HA r (i+1)
theorem Mn:∀ (l:List PV) (i t:Nat),bW (HA l i) (i+t)=nJ l t
 | [],_,_=>by simp [HA,bW,nJ]
 | x::r,i,0=>by simp [HA,bW,nJ]
 | x::r,i,t+1=>by
  have:=Mn r (i+1) t
  unfold HA bW
  rw [if_neg (by simp only;omega),show i+(t+1)=i+1+t by omega,this]
  simp [nJ]
theorem View.nJ {args:List PV} {L:List (Nat×PV)} {M:List HO} {n:Nat} (hb:b≤n) (h:L=HA args 0):View N b ⟨K.nJ args,aK M,n,[]⟩ ⟨bW L,aK M,n,[]⟩:=by
 subst h
 have e1:bW (HA args 0)=K.nJ args:=by funext t;have:=Mn args 0 t;rwa [Nat.zero_add] at this
 rw [e1]
 exact View.refl hb
theorem N9 {m:Mem} {ρ:dA} {p q:PV} (h:fX p q):∀ (l:List PV) (vs:List Value) (j:Nat),l[j]? =some p→bC m ρ l vs→bC m ρ (l.set j q) vs:=EW (h m ρ)
theorem View.Se {s:St} {l:List PV} {p:PV} {x:D} (id j:Nat) (hH:s.H id=some (.var l)) (hj:l[j]? =some p) (hp:p.cN=some x) (hb:b≤s.nx):
  View N b s ⟨s.S,cG s.H id (some (.var (l.set j (.d x)))),s.nx,s.df⟩:=by
 refine View.of hb fun m ρ a w hI=>?_
 have live:∀ k,cG s.H id (some (.var (l.set j (.d x)))) k≠none→s.H k≠none:=by
  intro k
  simp only [cG]
  split
  ·rename_i e;intro _;rw [e,hH];simp
  ·exact fun h=>h
 refine ⟨ρ,⟨hI.size,hI.defers,hI.slots,⟨hI.valid.mem,fun i o _ vo=>?_,fun i j b c c' _ _ hi hj gi kn=>?_⟩,fun i hi=>?_,hI.oX⟩,?_,fun _ _=>rfl⟩
 ·by_cases e2:i=id
  ·subst e2
   simp only [cG,if_true,Option.some.injEq] at vo
   subst vo
   rcases hI.valid.entry i _ trivial hH with ⟨e0,_⟩ | ⟨b,c,vs,tail,t,e1,e2,e3,e5,e4⟩
   ·rw [e0] at hj;cases hj
   exact .inr ⟨b,c,vs,tail,t,e1,e2,N9 (fX.cN hp) _ _ _ hj e3,e5,e4⟩
  ·simp only [cG,e2,if_false] at vo
   exact hI.valid.entry i o trivial vo
 ·exact hI.valid.apart i j b c c' trivial trivial (live i hi) (live j hj) gi kn
 ·have e2:i≠id:=by
   intro e;subst e
   have h1:s.nx≤i:=hi
   rw [hI.iq i h1] at hH;cases hH
  simp only [cG,e2,if_false]
  exact hI.iq i hi
 ·rintro b' ⟨i,c,_,hl,gi⟩
  exact ⟨i,c,trivial,live i hl,gi⟩
def Dd (P:Program) (rs:List ResultVar) (N b:Nat) (post:Out→HM→Nat→Prop) (px:PX) (s:St):Prop:=
 ∃ s',View N b s s'∧Xd P rs post px s'∧∀ p,px= .panic p→∃ x,p= .d x
theorem Dd.none {s s':St} {px:PX} {H:HM} {n:Nat} (hp:px= .normal∨px= .ret) (hv:View N b s s') (hd:s'.df=[]) (hH:s'.H=H) (hn:s'.nx=n):Dd P [] N b (mJ (.ret (.tuple [])) H n) px s:=by
 refine ⟨s',hv,?_,fun p e=>?_⟩
 ·rcases hp with rfl | rfl
  ·exact ⟨hd,by simp [pZ],s'.H,fun _=> .inr rfl,rfl,hH,hn⟩
  ·exact ⟨hd,by simp [pZ],s'.H,fun _=> .inr rfl,rfl,hH,hn⟩
 ·rcases hp with rfl | rfl<;>cases e
mutual
def PV.bH (n:Nat):PV→Bool
 | .d _=>true
 | .full _=>true
 | .own id _=>decide (id<n)
 | .aR id _=>decide (id<n)
 | .iG id _ _=>decide (id<n)
 | .room id _=>decide (id<n)
 | .jT _ l=>PV.bw n l
 | .agg l=>PV.bw n l
 | .tuple l=>PV.bw n l
 | .cond _ p=>PV.bH n p
 | .dJ=>true
def PV.bw (n:Nat):List PV→Bool
 | []=>true
 | x::r=>PV.bH n x&&PV.bw n r
end
theorem cz (n:Nat):∀ l:List D,PV.bw n (l.map .d)=true
 | []=>rfl
 | x::r=>by simp [PV.bw,PV.bH,cz n r]
mutual
theorem aO.bH {m:Mem} {ρ lH:dA} {n:Nat} (h:∀ i,i<n→lH i=ρ i):∀ (p:PV) (v:Value),p.bH n=true→aO m ρ p v→aO m lH p v
 | .d x,v,_,e=>by simpa [aO] using e
 | .full l,v,_,e=>by simpa [aO] using e
 | .own id l,v,b,e=>by
  simp only [PV.bH,decide_eq_true_eq] at b
  simp only [aO] at e ⊢
  rw [h id b];exact e
 | .aR id off,v,b,e=>by
  simp only [PV.bH,decide_eq_true_eq] at b
  simp only [aO] at e ⊢
  rw [h id b];exact e
 | .iG id off n',v,b,e=>by
  simp only [PV.bH,decide_eq_true_eq] at b
  simp only [aO] at e ⊢
  rw [h id b];exact e
 | .room id n',v,b,e=>by
  simp only [PV.bH,decide_eq_true_eq] at b
  simp only [aO] at e ⊢
  rw [h id b];exact e
 | .jT g l,v,b,e=>by
  simp only [PV.bH] at b
  simp only [aO] at e ⊢
  obtain ⟨vs,e1,e2⟩:=e
  exact ⟨vs,e1,bC.bH h l vs b e2⟩
 | .agg l,v,b,e=>by
  simp only [PV.bH] at b
  simp only [aO] at e ⊢
  obtain ⟨vs,e1,e2,e3⟩:=e
  exact ⟨vs,e1,bC.bH h l vs b e2,e3⟩
 | .tuple l,v,b,e=>by
  simp only [PV.bH] at b
  simp only [aO] at e ⊢
  obtain ⟨vs,e1,e2⟩:=e
  exact ⟨vs,e1,bC.bH h l vs b e2⟩
 | .cond g p,v,b,e=>by
  simp only [PV.bH] at b
  simp only [aO] at e ⊢
  exact ⟨fun hg=>aO.bH h p v b (e.1 hg),e.2⟩
 | .dJ,v,_,e=>by simp [aO]
theorem bC.bH {m:Mem} {ρ lH:dA} {n:Nat} (h:∀ i,i<n→lH i=ρ i):∀ (l:List PV) (vs:List Value),PV.bw n l=true→bC m ρ l vs→bC m lH l vs
 | [],vs,_,e=>by simpa [bC] using e
 | x::r,vs,b,e=>by
  simp only [PV.bw,Bool.and_eq_true] at b
  simp only [bC] at e ⊢
  obtain ⟨v,vr,e1,e2,e3⟩:=e
  exact ⟨v,vr,e1,aO.bH h x v b.1 e2,bC.bH h r vr b.2 e3⟩
end
def HO.bH (n:Nat):HO→Bool
 | .var l=>PV.bw n l
 | .spare _ _=>true
 | .dead=>true
 | .CX _ l=>PV.bw n l
def HO.bw (n:Nat):List HO→Bool
 | []=>true
 | x::r=>HO.bH n x&&HO.bw n r
theorem HO.HB {n:Nat}:∀ {M:List HO} {i:Nat} {o:HO},HO.bw n M=true→aK M i=some o→o.bH n=true
 | [],_,_,_,h=>by simp [aK] at h
 | x::r,0,o,hb,h=>by
  simp only [HO.bw,Bool.and_eq_true] at hb
  simp only [aK] at h
  have e:=D3 h
  subst e;exact hb.1
 | x::r,i+1,o,hb,h=>by
  simp only [HO.bw,Bool.and_eq_true] at hb
  exact HO.HB hb.2 h
theorem ec:∀ (M E:List HO) (i:Nat),i<M.length→aK (M++E) i=aK M i
 | [],_,_,h=>by simp at h
 | x::r,E,0,_=>rfl
 | x::r,E,i+1,h=>ec r E i (by simpa using h)
def gu (P:Program) (rs:List ResultVar) (N b n:Nat) (M':List HO) (out:Out) (px:PX) (s:St):Prop:=
 ∃ s',View N b s s'∧s'.df=[]∧n≤s'.nx∧(∀ i,i<n→s'.H i=aK M' i)∧M'.length=n∧HO.bw n M'=true∧
 match px with
 | .normal | .ret=>(pZ P rs s').2∧out= .ret (pZ P rs s').1∧(pZ P rs s').1.bH n=true
 | .panic p=>(∃ x,p= .d x)∧out= .nV p
 | .exit _=>False
theorem Spec.sw {f:Nat} {fn:Func} {c:Code} {args:List PV} {M M':List HO} {nx n:Nat} {out:Out} (hf:P.funcs[f]? =some fn) (hb:fn.body=some c) (hN:args.length≤fn.ntmps) (hle:nx≤n)
  (h:QW P fn.ntmps nx c ⟨nJ args,aK M,nx,[]⟩ (gu P fn.results.toList fn.ntmps nx n M' out)):Spec P f args (aK M) nx (mJ out (aK M') n):=by
 refine fun m ρ w vs V hn hρ hr=>?_
 refine calls_of_wp hf hb (wp_mono (h.2 m ρ _ w (Db V hn hρ hr hN)) ?_)
 rintro e a w' ⟨px,s,m',ρ',⟨s',hv,hdf,hnx,hH,hlen,YX,hpost⟩,tQ,hI,UF⟩
 obtain ⟨m2,lH,AD,EX⟩:=hv m' ρ' a w' hI
 have hA:=(UF.trans EX).N8 hρ
 have hd:=AD.defers
 rw [hdf] at hd
 let Oa:dA:=fun i=>if i<n then lH i else none
 have h3:∀ i,i<n→Oa i=lH i:=fun i hi=>by show (if _ then _ else _)=_;rw [if_pos hi]
 have Xl:∀ i,n≤i→Oa i=none:=fun i hi=>by show (if _ then _ else _)=_;rw [if_neg (by omega)]
 have hlt:∀ i o,aK M' i=some o→i<n:=fun i o ho=>hlen▸BX M' i o ho
 have sub:∀ i,aK M' i≠none→i<n∧s'.H i≠none:=by
  intro i hi
  cases hh:aK M' i with
  | none=>exact absurd hh hi
  | some o=>have h1:=hlt i o hh;exact ⟨h1,by rw [hH i h1,hh];simp⟩
 have V3:eu (fun _=>True) m2 Oa w' (aK M'):=by
  refine ⟨AD.valid.mem,fun i o _ ho=>?_,fun i j b' c c' _ _ hi hj gi kn=>?_⟩
  ·have h1:=hlt i o ho
   have hE:=AD.valid.entry i o trivial (by rw [hH i h1,ho])
   have YY:=HO.HB YX ho
   cases o with
   | var l=>
    simp only [iw] at hE ⊢
    rcases hE with ⟨e0,e⟩ | ⟨b,c,vs,tail,t,e1,e2,e3,e4⟩
    ·exact .inl ⟨e0,by rw [h3 i h1];exact e⟩
    exact .inr ⟨b,c,vs,tail,t,by rw [h3 i h1];exact e1,e2,bC.bH h3 l vs YY e3,e4⟩
   | spare sz k=>
    simp only [iw] at hE ⊢
    rw [h3 i h1];exact hE
   | dead=>exact hE.elim
   | CX sz l=>
    simp only [iw] at hE ⊢
    rcases hE with ⟨e0,e⟩ | ⟨b,c,vs,tail,t,e1,e2,e3,e4⟩
    ·exact .inl ⟨e0,by rw [h3 i h1];exact e⟩
    exact .inr ⟨b,c,vs,tail,t,by rw [h3 i h1];exact e1,e2,bC.bH h3 l vs YY e3,e4⟩
  ·have h1:=sub i hi
   have h2:=sub j hj
   rw [h3 i h1.1] at gi
   rw [h3 j h2.1] at kn
   exact AD.valid.apart i j b' c c' trivial trivial h1.2 h2.2 gi kn
 have Xm:∀ i,n≤i→aK M' i=none:=by
  intro i hi
  cases hh:aK M' i with
  | none=>rfl
  | some o=>have:=hlt i o hh;omega
 have A3:oG nx m ρ w (aK M) n m2 Oa w' (aK M'):=by
  refine ⟨hA.ext,fun i x hx=>?_,?_,hle,fun i hi=>?_⟩
  ·rcases Nat.lt_or_ge i nx with h1 | h1
   ·rw [h3 i (by omega)];exact hA.pU i x hx
   ·rw [hρ i h1] at hx;cases hx
  ·rintro b' ⟨i,c,_,hl,gi⟩
   have h1:=sub i hl
   rw [h3 i h1.1] at gi
   exact hA.place b' ⟨i,c,trivial,h1.2,gi⟩
  ·rw [h3 i (by omega)];exact hA.old i hi
 cases px with
 | exit i=>exact hpost.elim
 | normal=>
  obtain ⟨hres,rfl,Xn⟩:=hpost
  obtain ⟨v,NK,iY⟩:=oI (P:=P) AD hres
  simp only [RX] at tQ;subst tQ
  exact ⟨hd,v,NK,_,_,_,m2,Oa,⟨rfl,rfl,rfl⟩,V3,Xm,Xl,A3,v,rfl,aO.bH h3 _ _ Xn iY⟩
 | ret=>
  obtain ⟨hres,rfl,Xn⟩:=hpost
  obtain ⟨v,NK,iY⟩:=oI (P:=P) AD hres
  simp only [RX] at tQ;subst tQ
  exact ⟨hd,v,NK,_,_,_,m2,Oa,⟨rfl,rfl,rfl⟩,V3,Xm,Xl,A3,v,rfl,aO.bH h3 _ _ Xn iY⟩
 | panic p=>
  obtain ⟨v,rfl,UG⟩:=tQ
  obtain ⟨⟨x,rfl⟩,rfl⟩:=hpost
  refine ⟨hd,_,_,_,m2,Oa,⟨rfl,rfl,rfl⟩,V3,Xm,Xl,A3,v,rfl,?_⟩
  simp only [aO] at UG ⊢
  exact UG.mono EX.ext.mem
theorem gu.nV {rs:List ResultVar} {s s':St} {x:D} {n:Nat} {M':List HO} (hv:View N b s s') (hd:s'.df=[]) (hn:n≤s'.nx) (hH:∀ i,i<n→s'.H i=aK M' i) (hl:M'.length=n) (hb:HO.bw n M'=true):
  gu P rs N b n M' (.nV (.d x)) (.panic (.d x)) s:=⟨s',hv,hd,hn,hH,hl,hb,⟨x,rfl⟩,rfl⟩
theorem gu.none {s s':St} {px:PX} {n:Nat} {M':List HO} (hp:px= .normal∨px= .ret) (hv:View N b s s') (hd:s'.df=[]) (hn:n≤s'.nx) (hH:∀ i,i<n→s'.H i=aK M' i) (hl:M'.length=n) (hb:HO.bw n M'=true):
  gu P [] N b n M' (.ret (.tuple [])) px s:=by
 refine ⟨s',hv,hd,hn,hH,hl,hb,?_⟩
 rcases hp with rfl | rfl<;>exact ⟨by simp [pZ],rfl,rfl⟩
theorem gu.one {s s':St} {r:ResultVar} {p:PV} {px:PX} {n:Nat} {M':List HO} (hp:px= .normal∨px= .ret) (hv:View N b s s') (hd:s'.df=[]) (hn:n≤s'.nx) (hH:∀ i,i<n→s'.H i=aK M' i) (hl:M'.length=n) (hb:HO.bw n M'=true)
  (h:aN P s' r p) (Xo:p.bH n=true):gu P [r] N b n M' (.ret p) px s:=by
 refine ⟨s',hv,hd,hn,hH,hl,hb,?_⟩
 obtain ⟨h1,h2⟩:=h
 rcases hp with rfl | rfl<;>exact ⟨h1,congrArg Out.ret h2.symm,by show (pG P s' r).1.bH n=true;rw [h2];exact Xo⟩
theorem gu.more {s s':St} {r r':ResultVar} {rs:List ResultVar} {ps:List PV} {px:PX} {n:Nat} {M':List HO} (hp:px= .normal∨px= .ret) (hv:View N b s s') (hd:s'.df=[]) (hn:n≤s'.nx) (hH:∀ i,i<n→s'.H i=aK M' i) (hl:M'.length=n) (hb:HO.bw n M'=true)
  (h:vZ P s' (r::r'::rs) ps) (Xo:PV.bw n ps=true):gu P (r::r'::rs) N b n M' (.ret (.tuple ps)) px s:=by
 refine ⟨s',hv,hd,hn,hH,hl,hb,?_⟩
 have:=vZ.spec _ _ h
 have e1:(pZ P (r::r'::rs) s').2:=by rw [BW];exact this.2
 have e2:(pZ P (r::r'::rs) s').1= .tuple ps:=by rw [BW];show PV.tuple _=_;rw [this.1]
 rcases hp with rfl | rfl<;>exact ⟨e1,congrArg Out.ret e2.symm,by rw [e2];exact Xo⟩
end Go.Proofs.YtlfjfoknbjcncaaGreat.K
namespace Go.Proofs.YtlfjfoknbjcncaaGreat.K
open Go Go.RowKit
variable {P:Program} {N b:Nat}
def D9 (m:Mem):Option D→FrameMode→Prop
 | none,u=>u= .returning
 | some d,u=>∃ v,bk m d v∧u= .panicking [{v:=v,recovered:=false}]
def yQ (P:Program) (f:Nat) (args:List PV) (M:List HO) (x:Option D) (M':List HO):Prop:=
 ∀ m ρ w vs u,eu (fun _=>True) m ρ w (aK M)→(∀ i,M.length≤i→aK M i=none)→(∀ i,M.length≤i→ρ i=none)→bC m ρ args vs→D9 m x u→
  CallsD P f ⟨vs⟩ u w fun e u' w'=>∃ v m' ρ',e= .returned v∧settle u'= .returning∧eu (fun _=>True) m' ρ' w' (aK M')∧(∀ i,M'.length≤i→ρ' i=none)∧oG M.length m ρ w (aK M) M'.length m' ρ' w' (aK M')
def Am:Option D→PV
 | none=> .d (.val .nilIface)
 | some d=> .d d
section
variable {ops:Array Oper} {Q:Exit→Act→List Frame→World→Prop} {i:Nat} {l:List Nat} {a:Act} {cs cs':List Frame} {w:World} {o:Oper} {v:Value}
theorem FQ (ho:ops[i]? =some o) (hw:Region.wanted o (yielded ops a.tmps)=true) (hr:(execOp a.eval o).run P w= .ok .recover w) (h:(match recoverD cs with | some x=>x | none=>(.nilIface,cs))=(v,cs'))
  (k:wpOpsS P ops Q l (a.put o.dst v) cs' w):wpOpsS P ops Q (i::l) a cs w:=by
 unfold wpOpsS
 simp only [ho,hw,if_true,hr]
 cases hc:recoverD cs with
 | none=>rw [hc] at h;cases h;exact k
 | some x=>rw [hc] at h;simp only at h;subst h;exact k
theorem Mo (ho:ops[i]? =some o) (hw:Region.wanted o (yielded ops a.tmps)=true) (hr:(execOp a.eval o).run P w= .ok (.value v) w) (k:wpOpsS P ops Q l (a.put o.dst v) cs w):wpOpsS P ops Q (i::l) a cs w:=by
 unfold wpOpsS
 simp only [ho,hw,if_true,hr]
 exact k
end
theorem yQ.Mp {fd:Nat} {fn:Func} {id t t2:Nat} {o0 o1:Oper} {rest:Code} {c0:Call} {args:List PV} {M M':List HO} {r:PV} (x:Option D) (hf:P.funcs[fd]? =some fn) (hb:fn.body=some (.seq (.region id #[o0,o1] false) rest))
  (h0:o0.op= .call c0) (hc0:c0.callee= .builtin .recover) (g0:o0.guard=none) (g1:o1.guard=none) (d0:o0.dst=some t) (h1:o1.op= .assign (.tmp t)) (d1:o1.dst=some t2) (ht:t<fn.ntmps) (ht2:t2<fn.ntmps) (hN:args.length≤fn.ntmps)
  (h:QW P fn.ntmps M.length rest ⟨eK (eK (nJ args) (some t) (Am x)) (some t2) (Am x),aK M,M.length,[]⟩ (Dd P fn.results.toList fn.ntmps M.length (mJ (.ret r) (aK M') M'.length))):yQ P fd args M x M':=by
 intro m ρ w vs u V iq hρ hr hu
 refine callsD_of_wpS hf hb ?_
 intro c₀ cs hm
 have De:∀ a:Act,(execOp a.eval o0).run P w= .ok .recover w:=by
  intro a
  obtain ⟨dst,op',type,pos,after,guard⟩:=o0
  simp only at h0
  subst h0
  obtain ⟨callee,Xp,argTypes⟩:=c0
  simp only at hc0
  subst hc0
  simp [execOp,resolve,invoke,builtin]
 have Xq:∀ a:Act,(execOp a.eval o1).run P w= .ok (.value (a.tmps.getD t undef)) w:=by
  intro a
  obtain ⟨dst,op',type,pos,after,guard⟩:=o1
  simp only at h1
  subst h1
  rfl
 have w0:∀ tm,Region.wanted o0 tm=true:=fun tm=>by unfold Region.wanted;simp only [g0]
 have w1:∀ tm,Region.wanted o1 tm=true:=fun tm=>by unfold Region.wanted;simp only [g1]
 obtain ⟨v,u',Sf,hv,CA⟩:∃ v u',(match recoverD (c₀::cs) with | some x=>x | none=>(.nilIface,c₀::cs))=(v,{c₀ with mode:=u'}::cs)∧aO m ρ (Am x) v∧settle u'= .returning:=by
  cases x with
  | none=>
   simp only [D9] at hu
   subst hu
   refine ⟨.nilIface, .returning,?_,by simp [Am,aO,bk],rfl⟩
   have hc:({c₀ with mode:=FrameMode.returning}:Frame)=c₀:=by rw [← hm]
   simp only [recoverD,hm,hc]
  | some d=>
   obtain ⟨v,hv,rfl⟩:=hu
   refine ⟨v, .panicking [{v:=v,recovered:=true}],?_,by simpa [Am,aO] using hv,rfl⟩
   simp only [recoverD,hm]
 refine wpS_seq (wpS_region ?_)
 show wpOpsS P #[o0,o1] _ [0,1] _ _ _
 refine FQ (o:=o0) rfl (w0 _) (De _) Sf ?_
 refine Mo (o:=o1) rfl (w1 _) (Xq _) ?_
 have hI:=Db V iq hρ hr hN
 have hsz:({tmps:=(⟨vs⟩:Array Value)++Array.replicate (fn.ntmps-(⟨vs⟩:Array Value).size) undef,defers:=[]}:Act).tmps.size=fn.ntmps:=hI.size
 generalize ({tmps:=(⟨vs⟩:Array Value)++Array.replicate (fn.ntmps-(⟨vs⟩:Array Value).size) undef,defers:=[]}:Act)=a0 at hI hsz
 rw [d0,d1]
 have e1:(a0.put (some t) v).tmps.getD t undef=v:=by
  simp [Act.put,hsz,ht]
 rw [e1]
 have AD:Inv fn.ntmps ⟨eK (eK (nJ args) (some t) (Am x)) (some t2) (Am x),aK M,M.length,[]⟩ m ρ ((a0.put (some t) v).put (some t2) v) w:=by
  refine ⟨by simp [Act.put,hsz],by simpa [Act.put] using hI.defers,?_,hI.valid,hI.iq,hI.oX⟩
  exact ud (N:=fn.ntmps) (a:=a0.put (some t) v) (by simp [Act.put,hsz]) (ud hsz hI.slots (some t) (fun d hd=>by cases hd;exact ht) hv) (some t2) (fun d hd=>by cases hd;exact ht2) hv
 show Code.wpS P rest _ _ _ _
 refine wpS_of_wp (wp_mono (h.2 m ρ _ w AD) ?_)
 rintro e a' w' ⟨px,s,m',ρ',⟨s',Ob,hx,YZ⟩,tQ,nh,hA⟩
 obtain ⟨m2,lH,Lb,Xr⟩:=Ob m' ρ' a' w' nh
 have Xs:=(hA.trans Xr).N8 hρ
 obtain ⟨hdf,hpost⟩:=hx
 have hd:=Lb.defers
 rw [hdf] at hd
 have fin:(pZ P fn.results.toList s').2∧(∃ H',(∀ i,H' i=none∨H' i=s'.H i)∧mJ (.ret r) (aK M') M'.length (.ret (pZ P fn.results.toList s').1) H' s'.nx)→
   a'.defers=[]∧∃ Sg,({c₀ with mode:=u'}::cs:List Frame)={c₀ with mode:=Sg}::cs∧∃ v,(results fn a'.tmps).run P w'= .ok v w'∧
    ∃ v_1 m' ρ',Ending.returned v= .returned v_1∧settle Sg= .returning∧eu (fun _=>True) m' ρ' w' (aK M')∧(∀ i,M'.length≤i→ρ' i=none)∧oG M.length m ρ w (aK M) M'.length m' ρ' w' (aK M'):=by
  rintro ⟨hres,H',hs,Lc,Mq,AW⟩
  obtain ⟨vv,Sh,iY⟩:=oI (P:=P) Lb hres
  refine ⟨hd,u',rfl,vv,Sh,vv,m2,lH,rfl,CA,?_,?_,?_⟩
  ·rw [← Mq];exact Lb.valid.sub hs
  ·rw [← AW];exact Lb.oX
  ·rw [← Mq, ← AW];exact Xs.sub hs
 cases px with
 | normal=>simp only [RX] at tQ;subst tQ;exact fin hpost
 | ret=>simp only [RX] at tQ;subst tQ;exact fin hpost
 | exit i=>exact hpost.elim
 | panic p=>
  obtain ⟨H',_,hp,_⟩:=hpost
  cases hp
theorem Si {H:HM} {nx:Nat} {f:Nat} {args:List PV} {M M':List HO} {x:Option D} (F:List Nat) (hS:yQ P f args M x M')
  (hF:F.length=M.length) (hd:F.Nodup) (hH:FM (ld F nx) H M 0) (hle:M.length≤M'.length):
  ∀ (m:Mem) (ρ:dA) (w:World) (vs:List Value) (u:FrameMode),eu (fun _=>True) m ρ w H→(∀ i,nx≤i→H i=none)→(∀ i,nx≤i→ρ i=none)→bC m ρ (PV.res (ld F nx) args) vs→D9 m x u→
   CallsD P f ⟨vs⟩ u w fun e u' w'=>∃ v m' ρ',e= .returned v∧settle u'= .returning∧eu (fun _=>True) m' ρ' w' (iR (l5 F M.length nx) M' 0 H)∧(∀ i,nx+(M'.length-M.length)≤i→iR (l5 F M.length nx) M' 0 H i=none)∧(∀ i,nx+(M'.length-M.length)≤i→ρ' i=none)∧
    oG nx m ρ w H (nx+(M'.length-M.length)) m' ρ' w' (iR (l5 F M.length nx) M' 0 H):=by
 intro m ρ w vs u V hn hρ hr hu
 obtain ⟨⟨Vs,Hz,FN⟩,tr⟩:=JP (M':=M') F hF hd hH hle V hn hρ
 refine (hS m (fun i=>ρ (ld F nx i)) w vs u Vs Hz FN (bC.re args vs hr) hu).mono ?_
 rintro e u' w' ⟨v,m',ρ',rfl,CA,V',Mj,hA⟩
 obtain ⟨lH,h1,h2,h3,h4,_⟩:=tr m' ρ' w' V' Mj hA
 exact ⟨v,m',lH,rfl,CA,h1,h2,h3,h4⟩
theorem XK.df {ops:Array Oper} {o:Oper} {r:List Oper} {S:Nat→PV} {H:HM} {nx:Nat} {df:List (Nat×List PV)} {Q:PX→St→Prop} {c:Call} {f:Nat} {L:List PV} (d:Option Nat) (hd:o.dst=d) (hg:o.guard=none) (ho:o.op= .defer c) (hc:c.callee= .value (.func f)) (ha:c.args.toList.map (aH S)=L)
  (h:XK P ops r ⟨eK S d .dJ,H,nx,(f,L)::df⟩ Q):XK P ops (o::r) ⟨S,H,nx,df⟩ Q:=by
 subst hd ha
 exact XK.defer hg ho hc h
def wL (P:Program) (rs:List ResultVar) (fd:Nat) (res:D) (px:PX) (s:St):Prop:=
  ∃ id p0,s.df=[(fd,[.aR id 0])]∧s.H id=some (.var [p0])∧∃ x p1,yQ P fd [.aR 0 0] [.var [p0]] x [.var [p1]]∧p0.re (ld [id] s.nx)=p0∧p1.re (l5 [id] 1 s.nx)=p1∧
    (match px with
     | .normal | .ret=>x=none
     | .panic p=>∃ d,x=some d∧p= .d d
     | .exit _=>False)∧
    (pZ P rs ⟨s.S,cG s.H id (some (.var [p1])),s.nx,[]⟩).2∧(pZ P rs ⟨s.S,cG s.H id (some (.var [p1])),s.nx,[]⟩).1.cN=some res
end Go.Proofs.YtlfjfoknbjcncaaGreat.K
namespace Go.Proofs.YtlfjfoknbjcncaaGreat.K
open Go Go.RowKit
variable {P:Program} {α:Type} {n:Nat} {en:α→D} {A R R':List D} {m j:Nat}
theorem yR {ag:Bool} {w:Nat} {d:D} (m j:Nat) (h:A.length=m) (H:sP ag w (R.drop j) d):sP ag w ((A++R).drop (m+j)) d:=by
 subst h
 rw [List.drop_append,List.drop_eq_nil_of_le (Nat.le_add_right _ _),List.nil_append,Nat.add_sub_cancel_left]
 exact H
theorem HC (h:A.length=m):sP true m (A++R) (.agg A):=by
 subst h
 exact ⟨by simp,by rw [List.take_left]⟩
theorem s9 (h:A.length=m):sP true m A (.agg A):=by
 subst h
 exact ⟨Nat.le_refl _,by rw [List.take_length]⟩
theorem JQ {a:aD n α} (m j:Nat) (h:A.length=m) (H:Pre (R.drop j) en a):Pre ((A++R).drop (m+j)) en a:=by
 subst h
 rw [List.drop_append,List.drop_eq_nil_of_le (Nat.le_add_right _ _),List.nil_append,Nat.add_sub_cancel_left]
 exact H
theorem Oc {a:aD n α}:Pre (a.1.map en++R) en a:=⟨R,rfl⟩
theorem Qp {c:List PV} (m j:Nat) (h:A.length=m) (H:m4 (R.map PV.d) j c=R'.map PV.d):m4 ((A++R).map PV.d) (m+j) c=(A++R').map PV.d:=by
 subst h
 unfold m4 at H ⊢
 rw [List.map_append,List.take_append,List.drop_append,List.length_map,List.take_of_length_le (by simp),List.drop_eq_nil_of_le (by simp;omega),List.nil_append,Nat.add_sub_cancel_left,show A.length+j+c.length-A.length=j+c.length by omega,List.append_assoc,H, ← List.map_append]
theorem Od {c:List D} (h:A.length=m) (hc:c.length=m):m4 ((A++R).map PV.d) 0 (c.map PV.d)=(c++R).map PV.d:=by
 subst h
 unfold m4
 rw [List.take_zero,List.nil_append,List.map_append,Nat.zero_add,List.length_map,hc,List.drop_append,List.drop_eq_nil_of_le (by simp),List.nil_append,List.length_map,Nat.sub_self,List.drop_zero,List.map_append]
theorem Qq (h:∀ x∈A,x.flat=true) (k:∀ x∈R,x.flat=true):∀ x∈A++R,x.flat=true:=by
 intro x hx
 rcases List.mem_append.1 hx with hx | hx
 ·exact h x hx
 ·exact k x hx
theorem Df {d:D} (h:d.flat=true) (k:∀ x∈R,x.flat=true):∀ x∈d::R,x.flat=true:=by
 intro x hx
 rcases List.mem_cons.1 hx with rfl | hx
 ·exact h
 ·exact k x hx
theorem Qr:∀ x∈([]:List D),x.flat=true:=by simp
theorem cH {place:Nat→Option (Nat×Nat)} {cells:List PV}:(lW place cells []).2∧(lW place cells []).1=cells:=⟨trivial,rfl⟩
theorem bY {place:Nat→Option (Nat×Nat)} {cells cells' out:List PV} {i off size:Nat} {p:PV} {r:List (Nat×PV)} (hp:place i=some (off,size)) (hs:p.ir=true) (hl:p.iF.length=size) (hf:off+size≤cells.length)
  (RN:m4 cells off p.iF=cells') (H:(lW place cells' r).2∧(lW place cells' r).1=out):(lW place cells ((i,p)::r)).2∧(lW place cells ((i,p)::r)).1=out:=by
 unfold lW
 simp only [hp]
 rw [RN]
 exact ⟨⟨⟨hs,hl,hf⟩,H.1⟩,H.2⟩
theorem cI {z:List Value} {pl:List (Nat×Nat)⊕Nat} {parts:List (Nat×PV)} {out:List PV} (hz:z.all Value.oneCell'=true) (H:(lW (placeOf pl) (z.map oF) parts).2∧(lW (placeOf pl) (z.map oF) parts).1=out):
  (lX (some (z,pl)) parts).2∧(lX (some (z,pl)) parts).1= .agg out:=⟨⟨hz,H.1⟩,congrArg PV.agg H.2⟩
theorem dX {o:Oper} {S:Nat→PV} {H:HM} {nx:Nat} {df:List (Nat×List PV)} {eR:List Nat} {k:PV→HM→Nat→List Nat→List Nat→Prop} {t:TypeId} {parts:Array (Nat×Operand)} (v:PV) {b:List Value×(List (Nat×Nat)⊕Nat)} (ho:o.op= .build t parts) (hb:sv P t=some b) (h:(lX (some b) (pN S parts.toList)).2∧(lX (some b) (pN S parts.toList)).1=v) (hk:k v H nx [] []):aU P eR o ⟨S,H,nx,df⟩ k:=wz _ ho (by rw [hb];exact h.1) (by rw [hb];exact h.2) hk
section
variable {ops:Array Oper} {o:Oper} {r:List Oper} {S:Nat→PV} {H:HM} {nx:Nat} {df:List (Nat×List PV)} {Q:PX→St→Prop}
theorem XK.pr {v:PV} (d:Option Nat) (hd:o.dst=d) (hg:o.guard=none) (h:bp P o S v) (k:XK P ops r ⟨eK S d v,H,nx,df⟩ Q):XK P ops (o::r) ⟨S,H,nx,df⟩ Q:=by
 subst hd
 exact fun hn=> .step (.run hg (mH (s:=⟨S,H,nx,df⟩) hn h.op)) (k hn)
theorem HD {t u:TypeId} {ms:Array (String×TypeId)} {x:Operand} (ho:o.op= .binOp .eql t x (.const .nilIface) u) (ht:P.underlying t=some (.interface ms)) (hx:aH S x= .d (.val .nilIface)):bp P o S (.d (.val (.bool true))):=by
 refine bp.still fun m ρ a w _ hxs=>?_
 have h1:=hxs x (by simp [ho,Op.operands])
 rw [hx] at h1
 simp only [aO,bk] at h1
 obtain ⟨dst,op',type,pos,after,guard⟩:=o
 simp only at ho
 subst ho
 refine ⟨.bool true,?_,by simp [aO,bk]⟩
 have e:(Op.equal t .nilIface .nilIface).run P w= .ok true w:=by
  have:∀ n,(Op.equalIn (n+1) t .nilIface .nilIface).run P w= .ok true w:=fun n=>by simp [Op.equalIn,run_underlying ht]
  exact this 9999
 have hc:a.eval (.const .nilIface)= .nilIface:=rfl
 simp [execOp,h1,hc,eqGuard,binOp,e]
def JR:TypeDesc→Bool
 | .interface _=>false
 | _=>true
theorem Oe {xT t:TypeId} {d:TypeDesc} {x:Operand} {y:D} (ho:o.op= .typeAssert x xT t true) (ht:P.underlying t=some d) (hd:JR d=true) (hx:aH S x= .d (.iface t y)):bp P o S (.d (.tuple [y, .val (.bool true)])):=by
 refine bp.still fun m ρ a w _ hxs=>?_
 have h1:=hxs x (by simp [ho,Op.operands])
 rw [hx] at h1
 simp only [aO,bk] at h1
 obtain ⟨u,hu,hr⟩:=h1
 obtain ⟨dst,op',type,pos,after,guard⟩:=o
 simp only at ho
 subst ho
 refine ⟨.tuple #[u, .bool true],?_,?_⟩
 ·simp only [execOp,hu,Instr.typeAssert]
  cases d<;>simp_all [run_underlying ht,JR]
 ·simp only [aO,bk]
  exact ⟨[u, .bool true],rfl,by simp only [bP,bk];exact ⟨u,_,rfl,hr,_,_,rfl,rfl,rfl⟩⟩
theorem Mr {xT t:TypeId} {x:Operand} {y:D} (hi:yM P t=true) (ho:o.op= .typeAssert x xT t true) (hx:aH S x= .d (.iface t y)):bp P o S (.d (.tuple [y, .val (.bool true)])):=by
 unfold yM at hi
 cases hd:P.underlying t with
 | none=>rw [hd] at hi;cases hi
 | some d=>
  rw [hd] at hi
  refine Oe ho hd ?_ hx
  cases d<;>first | rfl | cases hi
variable {eR:List Nat} {k:PV→HM→Nat→List Nat→List Nat→Prop}
theorem Qs {t u:TypeId} {ms:Array (String×TypeId)} {x y:Operand} {t':TypeId} {z:D} (ht:P.underlying t=some (.interface ms)) (hk:k (.d (.val (.bool false))) H nx [] []) (ho:o.op= .binOp .eql t x y u:=by exact rfl) (hx:aH S x= .d (.iface t' z):=by exact rfl) (hy:aH S y= .d (.val .nilIface):=by exact rfl):aU P eR o ⟨S,H,nx,df⟩ k:=by
 unfold aU;rw [ho]
 simp only [isEq,CE,hx,hy,Bool.and_false,Bool.false_eq_true,if_false,xO,Ak,ht]
 exact ⟨trivial,hk⟩
end
section
variable {ops:Array Oper} {o:Oper} {r:List Oper} {S:Nat→PV} {H:HM} {nx:Nat} {df:List (Nat×List PV)}
theorem Sj {c x y:Operand} {g gc gx gy b u v:Bool} (hn:∀ i,nx≤i→H i=none) (hg:rJ ops o S=some g) (ho:o.op= .pick c x y) (hc:fE (aH S c)=(gc, .d (.val (.bool b)))) (hx:fE (aH S x)=(gx, .d (.val (.bool u)))) (hy:fE (aH S y)=(gy, .d (.val (.bool v))))
  (h0:g=true→gc=true) (h1:g=true→b=true→gx=true) (h2:g=true→b=false→gy=true):qo P ops o ⟨S,H,nx,df⟩ (.cond g (.d (.val (.bool (bif b then u else v))))) H ⟨[],[],nx,nx⟩:=by
 refine .gd hg (by simp) ?_
 rintro rfl
 refine ⟨ym S,fun z _ m ρ w hr=>by rw [L6];exact R0 hr,?_⟩
 have key:∀ (z:Operand) (gz q:Bool),fE (aH S z)=(gz, .d (.val (.bool q)))→(gz=true→aH (ym S) z= .d (.val (.bool q)))∧(fE (aH (ym S) z)).2= .d (.val (.bool q)):=by
  intro z gz q hz
  rw [L6]
  cases hp:aH S z with
  | cond b' p'=>
   rw [hp] at hz
   simp only [fE,Prod.mk.injEq] at hz
   obtain ⟨rfl,rfl⟩:=hz
   cases b' with
   | true=>exact ⟨fun _=>rfl,rfl⟩
   | false=>exact ⟨(fun h=>nomatch h),rfl⟩
  | _=>rw [hp] at hz;simp only [fE,Prod.mk.injEq] at hz;obtain ⟨rfl,hz⟩:=hz;first | (cases hz;done) | (rw [← hz];exact ⟨fun _=>rfl,rfl⟩)
 have kc:=(key c gc b hc).1 (h0 rfl)
 have hpk:zn (aH (ym S) c) (aH (ym S) x) (aH (ym S) y)=(.d (.val (.bool (bif b then u else v))),(b=true→(fE (aH (ym S) x)).1=true)∧(b=false→(fE (aH (ym S) y)).1=true)):=by
  unfold zn
  rw [kc,(key x gx u hx).2,(key y gy v hy).2]
 have hs:bp P o (ym S) (zn (aH (ym S) c) (aH (ym S) x) (aH (ym S) y)).1:=by
  refine FD ho ?_
  rw [hpk]
  refine ⟨fun hb=>?_,fun hb=>?_⟩
  ·rw [(key x gx u hx).1 (h1 rfl hb)];rfl
  ·rw [(key y gy v hy).1 (h2 rfl hb)];rfl
 rw [hpk] at hs
 exact mH (s:=⟨ym S,H,nx,df⟩) hn hs.op
variable {c x y:Operand} {g gc gx gy b u v:Bool}
theorem XK.gp {Q:PX→St→Prop} (d:Option Nat) (hd:o.dst=d) (hg:rJ ops o S=some g) (ho:o.op= .pick c x y) (hc:fE (aH S c)=(gc, .d (.val (.bool b)))) (hx:fE (aH S x)=(gx, .d (.val (.bool u)))) (hy:fE (aH S y)=(gy, .d (.val (.bool v))))
  (h0:g=true→gc=true) (h1:g=true→b=true→gx=true) (h2:g=true→b=false→gy=true) (w:Bool) (hw:(bif b then u else v)=w) (k:XK P ops r ⟨eK S d (.cond g (.d (.val (.bool w)))),H,nx,df⟩ Q):XK P ops (o::r) ⟨S,H,nx,df⟩ Q:=by
 subst hd hw;exact fun hn=> .step (Sj hn hg ho hc hx hy h0 h1 h2) (k hn)
theorem Ea (b u:Bool):(bif b then u else false)=(b&&u):=by cases b<;>rfl
end
section
variable {C R':Type} {step:C→Option (C⊕R')}
theorem E1:∀ (n k:Nat) (c:C) (r:R'),run step n c=some r→run step (n+k) c=some r
 | 0,_,_,_,h=>by cases h
 | n+1,k,c,r,h=>by
  rw [show n+1+k=(n+k)+1 by omega]
  simp only [run] at h ⊢
  cases hs:step c with
  | none=>rw [hs] at h;cases h
  | some x=>
   rw [hs] at h
   cases x with
   | inl c'=>exact E1 n k c' r h
   | inr r'=>exact h
theorem Comes.unique {c:C} {r r2:R'} (h:Comes step c r) (k:Comes step c r2):r=r2:=by
 obtain ⟨n,h⟩:=h
 obtain ⟨m,k⟩:=k
 have h1:=E1 n m c r h
 have h2:=E1 m n c r2 k
 rw [Nat.add_comm m n,h1] at h2
 exact Option.some.inj h2
open Classical in
noncomputable def gJ (step:C→Option (C⊕R')) (c:C):Option R':=if h:∃ r,Comes step c r then some (Classical.choose h) else none
theorem cP {c:C} {r:R'} (h:gJ step c=some r):Comes step c r:=by
 unfold gJ at h
 split at h
 ·rename_i hx
  cases h
  exact Classical.choose_spec hx
 ·cases h
theorem bZ {c:C} {r:R'} (h:Comes step c r):gJ step c=some r:=by
 unfold gJ
 rw [dif_pos ⟨r,h⟩]
 exact congrArg some (Comes.unique (Classical.choose_spec ⟨r,h⟩) h)
end
end Go.Proofs.YtlfjfoknbjcncaaGreat.K
namespace Go.Proofs.YtlfjfoknbjcncaaGreat.K
open Go Go.RowKit
open Classical in
noncomputable def vG {α:Type} (f:Nat→Option α):Option α:=if h:∃ r,∃ n,∀ m,n≤m→f m=some r then some (Classical.choose h) else none
theorem n8 {α:Type} {f:Nat→Option α} {r:α} (h:vG f=some r):∃ n,f n=some r:=by
 unfold vG at h
 split at h
 ·rename_i hx
  cases h
  obtain ⟨n,hn⟩:=Classical.choose_spec hx
  exact ⟨n,hn n (Nat.le_refl n)⟩
 ·cases h
theorem jY {α:Type} {f:Nat→Option α} {r:α} (n:Nat) (h:∀ m,n≤m→f m=some r):vG f=some r:=by
 unfold vG
 have hx:∃ r,∃ n,∀ m,n≤m→f m=some r:=⟨r,n,h⟩
 rw [dif_pos hx]
 obtain ⟨k,hk⟩:=Classical.choose_spec hx
 have h1:=hk (max n k) (Nat.le_max_right n k)
 have h2:=h (max n k) (Nat.le_max_left n k)
 rw [h2] at h1
 exact h1.symm
def Of (a b:Rec):Bool:=b.T.any (fun x=>a.W.any (· ==x)||(Nat.ble a.lo x&&Nat.blt x a.hi))||a.T.any (fun x=>b.W.any (· ==x))
def Xt (M:List Nat) (L:List Rec):Bool:=(List.range L.length).all fun j=>(List.range j).all fun i=>
 match L[i]?,L[j]? with
 | some a,some b=> !(Of a b)||(M.getD j 0).testBit i
 | _,_=>true
theorem fH.comp {M:List Nat} {L:List Rec} (h:Xt M L=true):fH M L:=by
 intro i j a b hij ha hb hx
 have hj:j<L.length:=(List.getElem?_eq_some_iff.1 hb).1
 have key:=List.all_eq_true.1 (List.all_eq_true.1 h j (List.mem_range.2 hj)) i (List.mem_range.2 hij)
 rw [ha,hb] at key
 simp only [Bool.or_eq_true,Bool.not_eq_true'] at key
 rcases key with k | k
 ·exfalso
  have:Of a b=true:=by
   unfold Of
   rw [Bool.or_eq_true,List.any_eq_true,List.any_eq_true]
   rcases hx with ⟨x,hx,Ja⟩ | ⟨x,hx,Ja⟩
   ·refine .inl ⟨x,hx,?_⟩
    rw [Bool.or_eq_true,List.any_eq_true,Bool.and_eq_true]
    rcases Ja with Ja | ⟨h1,h2⟩
    ·exact .inl ⟨x,Ja,by simp⟩
    ·exact .inr ⟨Nat.ble_eq_true_of_le h1,by simpa [Nat.blt_eq] using h2⟩
   ·refine .inr ⟨x,hx,?_⟩
    rw [List.any_eq_true]
    exact ⟨x,Ja,by simp⟩
  rw [this] at k;cases k
 ·exact k
section
variable {P:Program}
theorem wL.more {fd:Nat} {res:D} {px:PX} {s:St} {r r':ResultVar} {rs:List ResultVar} (ps:List PV) (id:Nat) (p0 p1:PV) (x:Option D) (h1:s.df=[(fd,[.aR id 0])]) (h2:s.H id=some (.var [p0])) (h3:yQ P fd [.aR 0 0] [.var [p0]] x [.var [p1]])
  (h4:p0.re (ld [id] s.nx)=p0) (h5:p1.re (l5 [id] 1 s.nx)=p1) (h6:match px with | .normal | .ret=>x=none | .panic p=>∃ d,x=some d∧p= .d d | .exit _=>False)
  (h:vZ P ⟨s.S,cG s.H id (some (.var [p1])),s.nx,[]⟩ (r::r'::rs) ps) (ht:(PV.tuple ps).cN=some res):wL P (r::r'::rs) fd res px s:=by
 have h7:=Ends.more (px:= .ret) (.inr rfl) rfl h ht rfl
 exact ⟨id,p0,h1,h2,x,p1,h3,h4,h5,h6,h7.2.2.1,h7.2.2.2⟩
end
end Go.Proofs.YtlfjfoknbjcncaaGreat.K
namespace Go.Proofs.YtlfjfoknbjcncaaGreat.K
open Go Go.RowKit
variable {P:Program}
theorem E2 {w:World} (t u ty e:TypeId) (d:TypeDesc) (i:TypeInfo) (ht:P.underlying t=some (.slice e)) (hu:P.underlying u=some d) (hd:ni d=true) (hi:P.info? e=some i)
  (base:Option Addr) (n:Nat) (y:Value) (hy:(Builtin.lenOf y).run P w= .ok 0 w) (hn:(Builtin.firstCells i.size 0 y).run P w= .ok #[] w):
  (Builtin.append_ #[t,u] ty #[.slice base n n,y]).run P w= .ok (.slice base n n) w:=by
 rcases uF hd with ⟨e2,rfl⟩ | rfl
 all_goals cases base<;>simp [Builtin.append_,run_underlying ht,run_underlying hu,sizeOf,typeInfo,hi,hy,hn,storeCells]
theorem Ld {o:Oper} {S:Nat→PV} {t u:TypeId} {x y:Operand} {l l2:List D} (ho:o.op= .call {callee:= .builtin .append,args:= #[x,y],argTypes:= #[t,u]}) {sz jq:Nat} (hrow:qH P t=some (sz,jq)) {d:TypeDesc} (hu:P.underlying u=some d) (hd:ni d=true)
  (hx:aH S x= .full l) (hy:(aH S y).more=some l2) (c1:∀ z∈l,z.cells.length=sz) (c2:∀ z∈l2,z.cells.length=sz) (hb:(l.length+l2.length)*jq≤140737488355328) (hm:l.length+l2.length≤maxLen):
  bp P o S (.d (.slice (l++l2))):=by
 intro m ρ a w hM hxs
 have h1:=hxs x (by simp [ho,Op.operands,Call.operands])
 have h2:=hxs y (by simp [ho,Op.operands,Call.operands])
 rw [hx] at h1
 obtain ⟨e,i,z,AP,hi,hz,hzs,h0,hsz,hby⟩:=ug hrow
 obtain ⟨g1,news,g2,g3,g4,g5⟩:=yL (P:=P) hM hy h2 c2
 obtain ⟨q1,olds,q2,q3,q4,q5⟩:=yL (P:=P) hM (p:= .full l) rfl h1 c1
 simp only [aO] at h1
 obtain ⟨ad,ev,iY⟩:=h1
 subst hsz
 subst hby
 by_cases hk:l2=[]
 ·subst hk
  have hrun:=E2 (P:=P) t u o.type e d i AP hu hd hi ad l.length (a.eval y) (by simpa using g1) (by
   have:=g5 w rfl
   have KY:news=[]:=List.eq_nil_of_length_eq_zero (by simpa using g2)
   subst KY
   simpa using this)
  refine ⟨_,m,w,iQ ho (by rw [ev];exact hrun),hM,Ext.refl _ _ _,?_⟩
  simp only [aO,bk,List.append_nil]
  exact ⟨ad,l.length,rfl,Nat.le_refl _,iY⟩
 ·have hpos:0<l2.length:=List.length_pos_iff.2 hk
  have hgrow:l.length<l.length+l2.length:=by omega
  have hrun:=pM (P:=P) w t u o.type e d i z AP hu hd hi hz ad l.length l.length l2.length (a.eval y) olds news g1 (by
   have:=q5 w.drew rfl
   rw [ev] at this
   exact this) (g5 w.drew rfl) hgrow (by simp only [maxLen] at hm;omega) (growslice_fits hgrow hb)
  have hge:=grownCap_ge w (l.length+l2.length) l.length e
  have I6:=grownCap_le_maxLen w (l.length+l2.length) l.length e hm
  have hlen:(olds++news).length=(l.length+l2.length)*i.size:=by rw [List.length_append,q2,g2,Nat.add_mul]
  have hD:=Da (s:=⟨S,fun _=>none,0,[]⟩) (m:=m) (ρ:=fun _=>none) (w:=w) [] ⟨hM,(fun k ob hk' hH=>nomatch hH),(fun k j b c c' hk'=>nomatch hk')⟩ (fun _ _ _=>rfl) (vals:=olds++news) (rest:=(Builtin.zeroCells z.cells (grownCap w (l.length+l2.length) l.length e-(l.length+l2.length))).toList) (sz:=i.size) (n:=l.length+l2.length) (cap:=grownCap w (l.length+l2.length) l.length e)
   (fun v hv=>(List.mem_append.1 hv).elim (q4 v) (g4 v)) hlen (by
    have RO:(Builtin.zeroCells z.cells (grownCap w (l.length+l2.length) l.length e-(l.length+l2.length))).toList.length=(grownCap w (l.length+l2.length) l.length e-(l.length+l2.length))*i.size:=by
     rw [Array.length_toList,size_zeroCells,hzs]
    rw [hlen,RO, ← Nat.add_mul]
    congr 1
    omega) hge I6 e (fun _=>none) (fun i=> .inr rfl)
  obtain ⟨d1,d2,d3,d4,d5⟩:=hD
  refine ⟨_,_,_,iQ ho (by rw [ev];exact hrun),d4.mem,⟨d1.1,d1.2,fun b hb hF=>d1.3 b hb (fun ⟨k,c,hk',_⟩=>nomatch hk'),d1.4,d1.5,d1.6,fun b o' v h=>(d1.7 b o' v h).imp id fun h=>h.elim (fun ⟨k,c,hk',_⟩=>nomatch hk') .inr⟩,?_⟩
  simp only [aO,bk]
  refine ⟨_,_,by rw [List.length_append],by rw [List.length_append];exact hge, .inr ⟨_,_,rfl,?_⟩⟩
  exact kR ((zy q3 g3).mono (Mem.uQ (uR hM))) (fun j v hj=>by simp [Mem.with,hj])
theorem UH {o:Oper} {S:Nat→PV} {α:Type} {en:α→D} {c:α→List D} {n jq:Nat} {t u:TypeId} {d:TypeDesc} {x y:Operand} {l l2:List α} (ho:o.op= .call {callee:= .builtin .append,args:= #[x,y],argTypes:= #[t,u]}) (ht:qH P t=some (n,jq)) (hu:P.underlying u=some d) (hd:ni d=true) (hl:uk en c n)
  (hx:aH S x= .full (l.map en)) (hy:(aH S y).more=some (l2.map en)) (h:(l.length+l2.length)*jq≤140737488355328) (hb:0<jq):bp P o S (.d (.slice ((l++l2).map en))):=by
 have:=Ld ho ht hu hd hx hy (hl.all l) (hl.all l2) (by simpa using h) (by
  have:(l.length+l2.length)*1≤(l.length+l2.length)*jq:=Nat.mul_le_mul_left _ hb
  rw [xU,List.length_map,List.length_map];omega)
 rwa [← List.map_append] at this
end Go.Proofs.YtlfjfoknbjcncaaGreat.K
namespace Go.Proofs.YtlfjfoknbjcncaaGreat.K
open Go Go.RowKit
set_option linter.unusedVariables false
variable {P:Program}
section
variable {ops:Array Oper} {o:Oper} {r:List Oper} {S:Nat→PV} {H:HM} {nx:Nat} {df:List (Nat×List PV)}
theorem XK.s2r {Q:PX→St→Prop} {t u e:TypeId} {x:Operand} {l:List UInt8} (d:Option Nat) (hd:o.dst=d) (hg:o.guard=none) (ho:o.op= .convert t u x) (hs:P.underlying t=some .string) (hu:P.underlying u=some (.slice e)) (he:P.underlying e=some (.int .u8))
  (hx:aH S x= .d (.val (sV l))) (hl:l.length≤9223372036854775807) (h:XK P ops r ⟨eK S d (.own nx (l.map aa)),cG H nx (some (.spare 1 l.length)),nx+1,df⟩ Q):XK P ops (o::r) ⟨S,H,nx,df⟩ Q:=by
 subst hd
 exact XK.Uw (s:=⟨S,H,nx,df⟩) hg ho hs hu he hx hl h
end
end Go.Proofs.YtlfjfoknbjcncaaGreat.K
namespace Go.Proofs.YtlfjfoknbjcncaaGreat.K
open Go Go.RowKit
set_option linter.unusedVariables false
variable {P:Program}
theorem HE (f:Nat→Nat):∀ (a b:List PV),PV.res f (a++b)=PV.res f a++PV.res f b
 | [],_=>rfl
 | x::r,b=>by simp only [List.cons_append,PV.res,HE f r b]
theorem ia {a b:List PV} {x y:List D} (ha:PV.dW a=some x) (hb:PV.dW b=some y):PV.dW (a++b)=some (x++y):=by
 induction a generalizing x with
 | nil=>simp only [PV.dW,Option.some.injEq] at ha;subst ha;exact hb
 | cons p r ih=>
  simp only [PV.dW] at ha
  cases hp:p.cN with
  | none=>rw [hp] at ha;cases ha
  | some q=>
   rw [hp] at ha
   cases hr:PV.dW r with
   | none=>rw [hr] at ha;cases ha
   | some z=>
    rw [hr] at ha
    simp only [Option.map_some,Option.some.injEq] at ha
    subst ha
    simp only [List.cons_append,PV.dW,hp,ih hr,Option.map_some]
theorem iu:∀ (a b:List PV),PV.dW (a++b)=(PV.dW a).bind fun x=>(PV.dW b).map fun y=>x++y
 | [],b=>by cases h:PV.dW b<;>simp [PV.dW,h]
 | p::r,b=>by
  simp only [List.cons_append,PV.dW,iu r b]
  cases p.cN with
  | none=>rfl
  | some q=>cases PV.dW r with
   | none=>rfl
   | some z=>cases PV.dW b<;>rfl
theorem jK {l:List PV} {x:List D} (h:PV.dW l=some x):PV.cN (.agg l)=some (.agg x):=by simp only [PV.cN,h,Option.map_some]
theorem ay {A R:List PV} {a b n:Nat} (h:A.length=a) (k:R.length=b) (e:a+b=n):(A++R).length=n:=by rw [List.length_append,h,k,e]
theorem bz {l:List PV} {off n m:Nat} (h:l.length=m) (k:off+n≤m):off+n≤l.length:=by rw [h];exact k
theorem UI {ag:Bool} {n:Nat} {A R:List PV} {v:PV} (m j:Nat) (h:A.length=m) (H:D4 ag n j R v):D4 ag n (m+j) (A++R) v:=by
 subst h
 obtain ⟨⟨h1,h2⟩,h3⟩:=H
 refine ⟨⟨by rw [List.length_append];omega,h2⟩,?_⟩
 unfold oH at h3 ⊢
 cases ag with
 | true=>
  simp only [if_true] at h3 ⊢
  rw [List.drop_append,List.drop_eq_nil_of_le (Nat.le_add_right _ _),List.nil_append,Nat.add_sub_cancel_left]
  exact h3
 | false=>
  simp only [Bool.false_eq_true,if_false] at h3 ⊢
  rw [List.getD_eq_getElem?_getD,List.getElem?_append_right (Nat.le_add_right _ _),Nat.add_sub_cancel_left, ← List.getD_eq_getElem?_getD]
  exact h3
theorem BZ {ag:Bool} {n j:Nat} {A R:List PV} {v:PV} (H:D4 ag n j A v):D4 ag n j (A++R) v:=by
 obtain ⟨⟨h1,h2⟩,h3⟩:=H
 refine ⟨⟨by rw [List.length_append];omega,h2⟩,?_⟩
 unfold oH at h3 ⊢
 cases ag with
 | true=>
  simp only [if_true] at h3 ⊢
  rw [List.drop_append_of_le_length (by omega),List.take_append_of_le_length (by rw [List.length_drop];omega)]
  exact h3
 | false=>
  simp only [Bool.false_eq_true,if_false] at h3 ⊢
  rw [List.getD_eq_getElem?_getD,List.getElem?_append_left (by omega), ← List.getD_eq_getElem?_getD]
  exact h3
theorem dr {n:Nat} {l:List PV} (h:l.length=n) (hp:0<n):D4 true n 0 l (.agg l):=by
 refine ⟨⟨by omega,hp⟩,?_⟩
 simp only [oH,if_true,List.drop_zero]
 rw [List.take_of_length_le (by omega)]
theorem qt {A R R' c:List PV} (m j:Nat) (h:A.length=m) (H:m4 R j c=R'):m4 (A++R) (m+j) c=A++R':=by
 subst h
 unfold m4 at H ⊢
 rw [List.take_append,List.drop_append,List.take_of_length_le (Nat.le_add_right _ _),List.drop_eq_nil_of_le (by omega),List.nil_append,Nat.add_sub_cancel_left,show A.length+j+c.length-A.length=j+c.length by omega,List.append_assoc,H]
theorem eJ {A R A' c:List PV} (j:Nat) (h:j+c.length≤A.length) (H:m4 A j c=A'):m4 (A++R) j c=A'++R:=by
 unfold m4 at H ⊢
 rw [List.take_append_of_le_length (by omega),List.drop_append_of_le_length h, ← H,List.append_assoc,List.append_assoc]
theorem HF {A R c:List PV} {m:Nat} (h:A.length=m) (hc:c.length=m):m4 (A++R) 0 c=c++R:=by
 unfold m4
 rw [List.take_zero,List.nil_append,Nat.zero_add,hc, ← h,List.drop_left' rfl]
theorem JS {A R:List PV} {p:PV} {j:Nat} (H:A[j]? =some p):(A++R)[j]? =some p:=by
 rw [List.getElem?_append_left (List.getElem?_eq_some_iff.1 H).1];exact H
theorem JT {A R A':List PV} {p:PV} {j:Nat} (h:j<A.length) (H:A.set j p=A'):(A++R).set j p=A'++R:=by
 rw [List.set_append_left _ _ h,H]
variable {N b:Nat}
theorem View.Sk {s:St} {l l':List PV} {p:PV} {x:D} (id j:Nat) (hH:s.H id=some (.var l)) (hj:l[j]? =some p) (hp:p.cN=some x) (hl:l.set j (.d x)=l') (hb:b≤s.nx):
  View N b s ⟨s.S,cG s.H id (some (.var l')),s.nx,s.df⟩:=by subst hl;exact View.Se id j hH hj hp hb
end Go.Proofs.YtlfjfoknbjcncaaGreat.K
