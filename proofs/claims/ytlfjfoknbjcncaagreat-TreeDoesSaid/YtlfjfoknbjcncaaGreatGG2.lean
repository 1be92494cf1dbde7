/- The reckoner over lists of operations, and its soundness. -/
import Derived.Test.YtlfjfoknbjcncaaGreatGG1
import Derived.IntWalk
import Derived.ProofKit
import Derived.OpenShut
import Derived.Below
import Derived.ChangeSame
import Derived.WideKeyArgs
import Derived.ChangeArms
import Derived.ChangeKeysEq
import Derived.Recover
namespace Go.Proofs.YtlfjfoknbjcncaaGreat.K
open Go Go.RowKit
variable {P:Program}
def cE (H:HM) (k:Nat) (v:Option HO):HM:=fun i=>if i=k then v else H i
def Sb (P:Program) (f:Nat) (ds:List D) (k:PV→Prop):Prop:=∃ res,bE P f ds res∧k (.d res)
def EqK (P:Program) (t:TypeId) (x y:D) (k:Bool→Prop):Prop:=∃ b,z0 P t x y b∧k b
def Sc (p:Prop):Prop:=p
def isEq:BinOp→Bool
 | .eql=>true
 | .neq=>true
 | _=>false
def zy:PV→Bool
 | .d (.agg _)=>true
 | .agg _=>true
 | _=>false
def x5 (P:Program) (s:St) (x y:PV) (t u:TypeId) (k:PV→HM→Nat→List Nat→List Nat→Prop):Prop:=
 match oE P t,P.underlying u,y.more with
 | some (sz,je),some d,some l2=>
  match x with
  | .own ix l=>(mw d=true∧s.H ix=some (.spare sz l.length)∧(∀ z∈l,z.cells.length=sz)∧(∀ z∈l2,z.cells.length=sz))∧Sc ((l.length+l2.length)*je≤140737488355328∧l.length+l2.length≤maxLen)∧
    k (.own s.nx (l++l2)) (cE (cE s.H ix none) s.nx (some (.spare sz (l.length+l2.length)))) (s.nx+1) [ix] [ix]
  | .full l=>(mw d=true∧(∀ z∈l,z.cells.length=sz)∧(∀ z∈l2,z.cells.length=sz))∧Sc ((l.length+l2.length)*je≤140737488355328∧l.length+l2.length≤maxLen∧(l2=[]→l=[]))∧
    k (.own s.nx (l++l2)) (cE s.H s.nx (some (.spare sz (l.length+l2.length)))) (s.nx+1) [] []
  | _=>False
 | _,_,_=>False
def yP (eB:List Nat):Option Nat→Bool
 | some d=>eB.contains d
 | none=>false
def aR (P:Program) (eB:List Nat) (o:Oper) (s:St) (k:PV→HM→Nat→List Nat→List Nat→Prop):Prop:=
 match o.op with
 | .load t x=>match aB s.S x with
  | .aK ix off=>match s.H ix with
   | some (.var l)=>(xA (jC P t) l off).2∧k (xA (jC P t) l off).1 s.H s.nx [ix] []
   | _=>False
  | .d (.cr l)=>(B4 (jC P t) l).2∧k (B4 (jC P t) l).1 s.H s.nx [] []
  | _=>False
 | .store t x y=>match aB s.S x,jC P t with
  | .aK ix off,some (_,n)=>match s.H ix with
   | some (.var l)=>((aB s.S y).cz=true∧(aB s.S y).g8.length=n∧off+n≤l.length)∧k .dJ (cE s.H ix (some (.var (lX l off (aB s.S y).g8)))) s.nx [ix] [ix]
   | _=>False
  | _,_=>False
 | .alloc t=>match lG P t with
  | some z=>z.all Value.oneCell'=true∧k (.aK s.nx 0) (cE s.H s.nx (some (.var (z.map nG)))) (s.nx+1) [] []
  | none=>False
 | .box _ x=>
  if yP eB o.dst=true then
   match PV.eg (aB s.S x).g8 with
   | some ds=>(aB s.S x).cz=true∧k (.d (.cr ds)) s.H s.nx [] []
   | none=>False
  else (aB s.S x).cz=true∧k (.aK s.nx 0) (cE s.H s.nx (some (.var (aB s.S x).g8))) (s.nx+1) [] []
 | .binOp op t x y _=>
  if isEq op&&zy (aB s.S x) then
   match (aB s.S x).cW,(aB s.S y).cW with
   | some dx,some dy=>EqK P t dx dy fun b=>k (.d (.val (.bool (n9 op b)))) s.H s.nx [] []
   | _,_=>False
  else (vo P op t (aB s.S x) (aB s.S y)).2∧k (vo P op t (aB s.S x) (aB s.S y)).1 s.H s.nx [] []
 | .call c=>match c.callee with
  | .builtin .append=>match c.args.toList,c.argTypes.toList with
   | [x,y],[t,u]=>x5 P s (aB s.S x) (aB s.S y) t u k
   | _,_=>False
  | .builtin b=>(ju P s.S b c.args.toList c.argTypes.toList).2∧k (ju P s.S b c.args.toList c.argTypes.toList).1 s.H s.nx [] []
  | .value (.func f)=>match PV.eg (c.args.toList.map (aB s.S)) with
   | some ds=>aN P f=true∧Sb P f ds fun p=>k p s.H s.nx [] []
   | none=>False
  | .value t=>match aB s.S t,PV.eg (c.args.toList.map (aB s.S)) with
   | .d (.gT f caps),some ds=>aN P f=true∧Sb P f (ds++caps) fun p=>k p s.H s.nx [] []
   | _,_=>False
  | _=>False
 | op=>(jD P s.S op).2∧k (jD P s.S op).1 s.H s.nx [] []
theorem lH {o:Oper} {s:St} {v:PV} (hn:∀ i,s.nx≤i→s.H i=none) (h:AP P o s.S v):m6 P o s v s.H s.nx [] []:=h.sem [] (by simp) hn
theorem Iv {o:Oper} {s:St} {x y:Operand} {t u:TypeId} {k:PV→HM→Nat→List Nat→List Nat→Prop} (ho:o.op= .call {callee:= .builtin .append,args:= #[x,y],argTypes:= #[t,u]}) (hn:∀ i,s.nx≤i→s.H i=none)
  (h:x5 P s (aB s.S x) (aB s.S y) t u k):∃ v H' cC T W,m6 P o s v H' cC T W∧k v H' cC T W:=by
 unfold x5 at h
 split at h
 ·rename_i sz je d l2 h1 h2 h3
  split at h
  ·rename_i ix l hx
   obtain ⟨⟨c1,c2,c3,c4⟩,⟨c5,c6⟩,hk⟩:=h
   exact ⟨_,_,_,_,_,Fl ho h1 h2 c1 hx c2 h3 hn c3 c4 c5 c6,hk⟩
  ·rename_i l hx
   obtain ⟨⟨c1,c3,c4⟩,⟨c5,c6,c7⟩,hk⟩:=h
   exact ⟨_,_,_,_,_,DW ho h1 h2 c1 hx h3 hn c3 c4 c5 c6 c7,hk⟩
  ·exact h.elim
 ·exact h.elim
theorem k9 {eB:List Nat} {o:Oper} {s:St} {k:PV→HM→Nat→List Nat→List Nat→Prop} (hn:∀ i,s.nx≤i→s.H i=none) (h:aR P eB o s k):∃ v H' cC T W,m6 P o s v H' cC T W∧k v H' cC T W:=by
 have Sd:(jD P s.S o.op).2→k (jD P s.S o.op).1 s.H s.nx [] []→∃ v H' cC T W,m6 P o s v H' cC T W∧k v H' cC T W:=
  fun h1 h2=>⟨_,_,_,_,_,lH hn (Kk h1).op,h2⟩
 unfold aR at h
 split at h
 ·rename_i t x ho
  split at h
  ·rename_i ix off hp
   split at h
   ·rename_i l hH
    exact ⟨_,_,_,_,_,Np ho hp hH hn h.1,h.2⟩
   ·exact h.elim
  ·rename_i l hp
   exact ⟨_,_,_,_,_,lH hn (EH ho hp h.1).op,h.2⟩
  ·exact h.elim
 ·rename_i t x y ho
  split at h
  ·rename_i ix off ag n hp ht
   split at h
   ·rename_i l hH
    exact ⟨_,_,_,_,_,Ld ho hp hH hn ht h.1.1 h.1.2.1 h.1.2.2,h.2⟩
   ·exact h.elim
  ·exact h.elim
 ·rename_i t ho
  split at h
  ·rename_i z hz
   exact ⟨_,_,_,_,_,Le ho hn hz h.1,h.2⟩
  ·exact h.elim
 ·rename_i t x ho
  split at h
  ·split at h
   ·rename_i ds hd
    exact ⟨_,_,_,_,_,lH hn (Lf ho h.1 hd).op,h.2⟩
   ·exact h.elim
  ·exact ⟨_,_,_,_,_,P7 ho hn h.1,h.2⟩
 ·rename_i op t x y u ho
  split at h
  ·rename_i he
   simp only [Bool.and_eq_true] at he
   split at h
   ·rename_i dx dy hx hy
    obtain ⟨b,hb,hk⟩:=h
    have hop:op= .eql∨op= .neq:=by cases op<;>simp_all [isEq]
    exact ⟨_,_,_,_,_,lH hn (Nu ho hop hx hy hb).op,hk⟩
   ·exact h.elim
  ·exact ⟨_,_,_,_,_,lH hn (EK ho h.1).op,h.2⟩
 ·rename_i c ho
  split at h
  ·rename_i hc
   split at h
   ·rename_i x y t u ha ht
    obtain ⟨callee,args,ts⟩:=c
    simp only at hc ha ht
    subst hc
    rw [AT ha,AT ht] at ho
    exact Iv ho hn h
   ·exact h.elim
  ·rename_i b hb hc
   exact ⟨_,_,_,_,_,lH hn (z2 ho hc h.1).op,h.2⟩
  ·rename_i f hc
   split at h
   ·rename_i ds hd
    obtain ⟨he,res,hF,hk⟩:=h
    exact ⟨_,_,_,_,_,lH hn (P9 ho hc he hd hF),hk⟩
   ·exact h.elim
  ·rename_i t hne hc
   split at h
   ·rename_i f caps ds ht hd
    obtain ⟨he,res,hF,hk⟩:=h
    exact ⟨_,_,_,_,_,lH hn (Qa ho hc ht he hd hF),hk⟩
   ·exact h.elim
  ·exact h.elim
 ·exact Sd h.1 h.2
def jz (S:Nat→PV):Nat→PV:=fun t=>(bV (S t)).2
theorem Iw (v:Value):bV (dK v)=(true,dK v):=by
 unfold dK
 split
 ·rfl
 ·rfl
 ·split<;>rfl
 ·rfl
theorem Se (S:Nat→PV) (x:Operand):aB (jz S) x=(bV (aB S x)).2:=by
 cases x with
 | tmp t=>rfl
 | const v=>simp only [aB,Iw]
 | global g=>rfl
 | func f=>rfl
def vp (g:Bool) (S:Nat→PV):List Operand→Prop
 | []=>True
 | x::r=>(g=true→(bV (aB S x)).1=true)∧vp g S r
theorem Kl {m:Mem} {ρ:cZ}:∀ {l:List D} {vs:List Value},ct m l vs→bM m ρ (l.map .d) vs
 | [],vs,h=>by simpa [bM,ct] using h
 | x::r,vs,h=>by
  simp only [ct,List.map_cons,bM] at h ⊢
  obtain ⟨v,vr,e1,e2,e3⟩:=h
  exact ⟨v,vr,e1,by simpa [aM] using e2,Kl e3⟩
end Go.Proofs.YtlfjfoknbjcncaaGreat.K
namespace Go.Proofs.YtlfjfoknbjcncaaGreat.K
open Go Go.RowKit
variable {P:Program} {N:Nat}
end Go.Proofs.YtlfjfoknbjcncaaGreat.K
namespace Go.Proofs.YtlfjfoknbjcncaaGreat.K
open Go Go.RowKit
variable {P:Program} {N:Nat}
theorem cu {S:Nat→PV} {d t:Nat} {v:PV}:fj S (some d) v t=if t=d then v else S t:=rfl
theorem oH {H:HM} {k i:Nat} {v:Option HO}:cE H k v i=if i=k then v else H i:=rfl
theorem wrap_i64 {n:Int} (h: -9223372036854775808≤n∧n≤9223372036854775807):IntKind.i64.wrap n=n:=IntWalk.i64_in n h
theorem wrap_u8 {n:Int} (h:0≤n∧n≤255):IntKind.u8.wrap n=n:=IntWalk.u8_in n h
theorem wrap_u64 {n:Int} (h:0≤n∧n≤18446744073709551615):IntKind.u64.wrap n=n:=IntWalk.u64_in n h
theorem Gf {v:Value}:(D.val v).cells=[.val v]:=rfl
end Go.Proofs.YtlfjfoknbjcncaaGreat.K
namespace Go.Proofs.YtlfjfoknbjcncaaGreat.K
open Go Go.RowKit
variable {P:Program} {N:Nat} {ops:Array Oper} {o:Oper} {r:List Oper} {s:St}
def jP:PV→PV
 | .cond true p=>p
 | p=>p
def iL (S:Nat→PV):Nat→PV:=fun t=>jP (S t)
theorem Sf {m:Mem} {ρ:cZ} {p:PV} {v:Value} (h:aM m ρ p v):aM m ρ (jP p) v:=by
 unfold jP
 split
 ·rw [aM] at h;exact h.1 rfl
 ·exact h
theorem Nw (v:Value):jP (dK v)=dK v:=by
 unfold dK
 split
 ·rfl
 ·rfl
 ·split<;>rfl
 ·rfl
theorem Lk (S:Nat→PV) (x:Operand):aB (iL S) x=jP (aB S x):=by
 cases x with
 | tmp t=>rfl
 | const v=>simp only [aB,Nw]
 | global g=>rfl
 | func f=>rfl
def XK (P:Program) (ops:Array Oper) (r:List Oper) (s:St) (Q:PX→St→Prop):Prop:=(∀ i,s.nx≤i→s.H i=none)→BB P ops r s Q
def RK (P:Program) (ops:Array Oper) (r:List Oper) (s:St) (acc:List Rec) (K:St→List Rec→Prop):Prop:=
 (∀ i,s.nx≤i→s.H i=none)→∃ s' L,CN P ops r s s' L∧K s' (acc.reverse++L)
def RQ (P:Program) (ops:Array Oper) (r:List Oper) (s:St) (Q:St→Prop):Prop:=
 (∀ i,s.nx≤i→s.H i=none)→∃ s' L,CN P ops r s s' L∧(∀ R∈L,R.W=[]∧R.lo=R.hi)∧Q s'
theorem XK.nil {Q:PX→St→Prop} (h:Q .normal s):XK P ops [] s Q:=fun _=> .nil h
theorem RK.nil {acc:List Rec} {K:St→List Rec→Prop} (h:K s acc.reverse):RK P ops [] s acc K:=fun _=>⟨s,[], .nil s,by simpa using h⟩
theorem RQ.nil {Q:St→Prop} (h:Q s):RQ P ops [] s Q:=fun _=>⟨s,[], .nil s,by simp,h⟩
theorem XK.step {Q:PX→St→Prop} (hg:o.guard=none) (h:aR P [] o s fun v H' cC _ _=>XK P ops r ⟨fj s.S o.dst v,H',cC,s.df⟩ Q):XK P ops (o::r) s Q:=by
 intro hn
 obtain ⟨v,H',cC,T,W,hs,hk⟩:=k9 hn h
 exact .step (R:=⟨T,W,s.nx,cC⟩) (.run hg hs) (hk hs.nil)
theorem XK.frozen {Q:PX→St→Prop} (hg:o.guard=none) (h:aR P o.dst.toList o s fun v H' cC _ _=>XK P ops r ⟨fj s.S o.dst v,H',cC,s.df⟩ Q):XK P ops (o::r) s Q:=by
 intro hn
 obtain ⟨v,H',cC,T,W,hs,hk⟩:=k9 hn h
 exact .step (R:=⟨T,W,s.nx,cC⟩) (.run hg hs) (hk hs.nil)
theorem XK.defer {Q:PX→St→Prop} {c:Call} {f:Nat} (hg:o.guard=none) (ho:o.op= .defer c) (hc:c.callee= .value (.func f)) (h:XK P ops r ⟨fj s.S o.dst .dJ,s.H,s.nx,(f,c.args.toList.map (aB s.S))::s.df⟩ Q):XK P ops (o::r) s Q:=
 fun hn=> .defer hg ho hc (h hn)
theorem RK.step {acc:List Rec} {K:St→List Rec→Prop} (hg:o.guard=none) (h:aR P [] o s fun v H' cC T W=>RK P ops r ⟨fj s.S o.dst v,H',cC,s.df⟩ (⟨T,W,s.nx,cC⟩::acc) K):RK P ops (o::r) s acc K:=by
 intro hn
 obtain ⟨v,H',cC,T,W,hs,hk⟩:=k9 hn h
 obtain ⟨s',L,hr,hK⟩:=hk hs.nil
 exact ⟨s',_, .cons (.run hg hs) hr,by simpa using hK⟩
theorem RQ.step {Q:St→Prop} (hg:o.guard=none) (h:aR P [] o s fun v H' cC _ W=>(W=[]∧cC=s.nx)∧RQ P ops r ⟨fj s.S o.dst v,H',cC,s.df⟩ Q):RQ P ops (o::r) s Q:=by
 intro hn
 obtain ⟨v,H',cC,T,W,hs,⟨hW,hx⟩,hk⟩:=k9 hn h
 obtain ⟨s',L,hr,hK,hQ⟩:=hk hs.nil
 refine ⟨s',_, .cons (.run hg hs) hr,?_,hQ⟩
 intro R hR
 rcases List.mem_cons.1 hR with rfl | hR
 ·exact ⟨hW,hx.symm⟩
 ·exact hK R hR
theorem PW.WO {id:Nat} {Q:PX→St→Prop} (hok:qj ops N=true) (h:XK P ops ops.toList s Q):PW P N (.region id ops false) s Q:=
 fun m ρ a w hI=>PW.region hok (h hI.gP) m ρ a w hI
theorem PW.tN {id:Nat} {Q:PX→St→Prop} (hm:P.follows .mixedOrders=true) {M:List Nat} (hM:M=masks ops.toList []) (hok:AN ops N M=true)
  (h:RK P ops ops.toList s [] fun s' L=>gl M L∧Q .normal s'):PW P N (.region id ops true) s Q:=by
 intro m ρ a w hI
 obtain ⟨s',L,hr,hL,hQ⟩:=h hI.gP
 exact PW.draw hm M hok hM hr (by simpa using hL) hQ m ρ a w hI
theorem gl.quiet {M:List Nat} {L:List Rec} (h:∀ R∈L,R.W=[]∧R.lo=R.hi):gl M L:=by
 intro i j a b _ ha hb hx
 have h1:=h a (List.mem_of_getElem? ha)
 have h2:=h b (List.mem_of_getElem? hb)
 rcases hx with ⟨x,_,hx | hx⟩ | ⟨x,_,hx⟩
 ·rw [h1.1] at hx;cases hx
 ·omega
 ·rw [h2.1] at hx;cases hx
theorem PW.kC {id:Nat} {Q:PX→St→Prop} (hm:P.follows .mixedOrders=true) {M:List Nat} (hM:M=masks ops.toList []) (hok:AN ops N M=true)
  (h:RQ P ops ops.toList s fun s'=>Q .normal s'):PW P N (.region id ops true) s Q:=by
 intro m ρ a w hI
 obtain ⟨s',L,hr,hL,hQ⟩:=h hI.gP
 exact PW.draw hm M hok hM hr (gl.quiet hL) hQ m ρ a w hI
end Go.Proofs.YtlfjfoknbjcncaaGreat.K
namespace Go.Proofs.YtlfjfoknbjcncaaGreat.K
open Go Go.RowKit Go.ChangeShapes Go.WideShapes Go.ChangeAt
variable {P:Program}
theorem Ext.below {m m':Mem} {w w':World} (h:Ext (fun _=>False) m w m' w'):Below w.heap.size w w':=⟨h.os,h.tape,h.output,h.size,fun k hk=>h.block k hk fun f=>f⟩
def vq (w:World):Mem:=fun b o=>match w.cell? ⟨b,o,none⟩ with
 | some v=>if v.oneCell'=true then some v else none
 | none=>none
theorem Qd (w:World):ga (vq w) w:=by
 intro b o v h
 unfold vq at h
 split at h
 ·rename_i u hu
  split at h
  ·rename_i h1
   simp only [Option.some.injEq] at h
   subst h
   exact ⟨hu,h1⟩
  ·cases h
 ·cases h
theorem z3 {H:Type} {enc:TypeId×Value→H} (hl:laidOutB P=true) {W W':World} (hb:Below W.heap.size W W') {sp':Nat→Bool}:∀ {ts:List TypeId} {vs:List Value} {ds:List (DataW H)} {ps:List MemPlace},
  (∀ t∈ts,P.readableRec t=true∧t<P.types.size)→DataW.TrodAll enc P W 0 (fun _=>true) true ts vs ds ps→(∀ p∈ps,sp' p.block=true)→DataW.TrodAll enc P W' 0 sp' true ts vs ds ps
 | [],[],[],_,_,h,_=>h
 | t::ts,v::vs,d::ds,ps,ht,h,hs=>by
  have hlt:=DataW.TrodAll.lt h
  obtain ⟨p,q,h1,h2,rfl⟩:=h
  refine ⟨p,q,?_,z3 hl hb (fun t' h'=>ht t' (List.mem_cons_of_mem _ h')) h2 (fun x hx=>hs x (by simp [hx])),rfl⟩
  exact WideElems.Trod_stays hl (ht t (List.mem_cons_self ..)).1 (ht t (List.mem_cons_self ..)).2 h1 (fun x hx=>hb.same (hlt x (by simp [hx]))) (fun x hx=>hs x (by simp [hx]))
 | [],_::_,_,_,_,h,_=>by cases h
 | [],[],_::_,_,_,h,_=>by cases h
 | _::_,[],_,_,_,h,_=>by cases h
 | _::_,_::_,[],_,_,h,_=>by cases h
theorem Nx {H:Type} {enc:TypeId×Value→H} {f:Func} {s:ChangeSpec} {fresh handsOn again:Bool} {W W':World} {args:Array Value} {ds gs:List (DataW H)} {before:List MemPlace} {t:TypeId}
  (hl:laidOutB P=true) (hp:∀ t∈f.params.toList,P.readableRec t=true∧t<P.types.size) (hW:DataW.Whole enc P f.params.toList s.vars false W args.toList ds gs before) (hv:s.vars=[])
  (hres:(s.fn H (ds++gs)).results=[.lit (.bool true)]) (hargs:(s.fn H (ds++gs)).args=ds) (hvs:(s.fn H (ds++gs)).vars=[]) (Ux:f.resultTypes= #[t]) (ht:P.underlying t=some .bool)
  (hb:Below W.heap.size W W'):s.post enc P f false fresh handsOn again W args (.bool true) W':=by
 have Uy:=hW
 have hlt:=fun p hp=>hW.lt p hp
 obtain ⟨p,q,hA,hV,rfl,hz,hn⟩:=hW
 rw [hv] at hV
 obtain ⟨rfl,rfl⟩:=trodVars_none hV
 have hold:∀ x∈p,(fun b=>decide (b<W.heap.size)) x.block=true:=fun x hx=>by simpa using hlt x (by simp [hx])
 have Sg:∀ (b:Nat) (sp:Nat→Bool) (hd:Bool),DataW.TrodAll enc P W' b sp hd f.resultTypes.toList ((Value.bool true).resultList f.resultTypes.size) (s.fn H (ds++[])).results []:=by
  intro b sp hd
  rw [hres,Ux]
  exact trodAll_cons_mk (shut_bool ht _) trodAll_mk0
 have Pj:∀ sp:Nat→Bool,(∀ x∈p,sp x.block=true)→DataW.TrodAll enc P W' 0 sp true f.params.toList args.toList (s.fn H (ds++[])).args p:=by
  intro sp hs
  rw [hargs]
  exact z3 hl hb hp hA hs
 have Pk:∀ sp:Nat→Bool,DataW.TrodVars enc P W' sp s.vars (s.fn H (ds++[])).vars []:=by
  intro sp
  rw [hv,hvs]
  rfl
 have hok:∀ (j:Nat) (t':TypeId) (r:Value),f.resultTypes[j]? =some t'→((Value.bool true).resultList f.resultTypes.size)[j]? =some r→Value.okWide P W' .any 0 t' r:=ok_one Ux rfl (okWide_bool_mk ht _)
 refine ⟨ds,[],p++[],[],p,[],Uy,Sg _ _ _,Pj _ hold,Pk _,World.keptBut_mono (fun x hx=>⟨hx, .inr (by simpa using hx)⟩) (hb.frame _),fun _=>⟨hok,_,_,([]++p)++[],⟨[]++p,[],trodAll_append (Pj _ (fun _ _=>rfl)) (Sg _ _ _),Pk _,rfl,?_,?_⟩,?_⟩⟩
 ·intro b off hx
  have hb':b<W.heap.size:=hlt (.cell b off) (by simpa using hx)
  have e:W'.frozen? ⟨b,off,none⟩=W.frozen? ⟨b,off,none⟩:=by
   unfold World.frozen?
   rw [hb.block b hb']
  rw [e]
  exact hz b off (by simpa using hx)
 ·intro ha
  cases ha
 ·intro x hx _
  simpa using hx
theorem Ny {H:Type} {enc:TypeId×Value→H} {f:Func} {n:Nat} {s:ChangeSpec} {fresh handsOn again:Bool} {W:World} {args:Array Value} {ds gs:List (DataW H)} {before:List MemPlace} {t:TypeId} {data:List D}
  (hF:bE P n data (.val (.bool true))) (iQ:ct (vq W) data args.toList)
  (hl:laidOutB P=true) (hp:∀ t∈f.params.toList,P.readableRec t=true∧t<P.types.size) (hW:DataW.Whole enc P f.params.toList s.vars false W args.toList ds gs before) (hv:s.vars=[])
  (hres:(s.fn H (ds++gs)).results=[.lit (.bool true)]) (hargs:(s.fn H (ds++gs)).args=ds) (hvs:(s.fn H (ds++gs)).vars=[]) (Ux:f.resultTypes= #[t]) (ht:P.underlying t=some .bool):
  Calls P n args W fun e W'=>∃ v,e= .returned v∧s.post enc P f false fresh handsOn again W args v W':=by
 have:=hF (vq W) W args.toList (Qd W) iQ
 refine this.mono ?_
 rintro e W' ⟨v,m',rfl,YM,_,hE⟩
 simp only [bh] at YM
 subst YM
 exact ⟨_,rfl,Nx hl hp hW hv hres hargs hvs Ux ht hE.below⟩
end Go.Proofs.YtlfjfoknbjcncaaGreat.K
namespace Go.Proofs.YtlfjfoknbjcncaaGreat.K
open Go Go.RowKit Go.ChangeShapes Go.WideShapes Go.ChangeAt
variable {P:Program}
inductive Ty where
 | bool
 | int (k:IntKind)
 | str
 | slice (e:Ty)
 | st (l:List Ty)
 | arr (n:Nat) (e:Ty)
def Ty.isAgg:Ty→Bool
 | .st _=>true
 | .arr _ _=>true
 | _=>false
mutual
def Ty.size:Ty→Nat
 | .st l=>Ty.sizes l
 | .arr n e=>n*e.size
 | _=>1
def Ty.sizes:List Ty→Nat
 | []=>0
 | t::r=>t.size+Ty.sizes r
end
mutual
def kD:Ty→List D→Prop
 | .bool,l=>∃ b,l=[.val (.bool b)]
 | .int k,l=>∃ n,l=[.val (.int k n)]∧(Lit.int k n).wf=true
 | .str,l=>∃ s:ByteArray,l=[.val (.string s)]∧s.size≤maxLen
 | .slice e,l=>∃ xs:List D,l=[.slice xs]∧xs.length≤maxLen∧∀ x∈xs,kD e x.cells∧(∃ c,x= .agg c)=(e.isAgg=true)
 | .st ts,l=>EM ts l
 | .arr n e,l=>∃ ls:List (List D),ls.length=n∧l=ls.flatten∧∀ c∈ls,kD e c
def EM:List Ty→List D→Prop
 | [],l=>l=[]
 | t::r,l=>∃ a b,l=a++b∧kD t a∧EM r b
end
mutual
def CZ (P:Program):Ty→TypeId→Bool
 | .bool,t=>match P.underlying t with
  | some .bool=>true
  | _=>false
 | .int k,t=>match P.underlying t with
  | some (.int k')=>k'==k
  | _=>false
 | .str,t=>match P.underlying t with
  | some .string=>true
  | _=>false
 | .slice e,t=>match P.underlying t with
  | some (.slice u)=>CZ P e u&&(P.cellsOf u==e.size&&decide (0<e.size))
  | _=>false
 | .st ts,t=>match P.underlying t with
  | some (.struct fs)=>(P.cellsOf t==Ty.sizes ts)&&I0 P ts fs.toList 0
  | _=>false
 | .arr n e,t=>match P.underlying t with
  | some (.array k u)=>(k==n)&&(CZ P e u&&(P.cellsOf u==e.size&&P.cellsOf t==n*e.size))
  | _=>false
def I0 (P:Program):List Ty→List Field→Nat→Bool
 | [],[],_=>true
 | T::r,f::q,off=>(f.offset==off)&&((P.cellsOf f.type==T.size)&&(CZ P T f.type&&I0 P r q (off+T.size)))
 | _,_,_=>false
end
def z4 (e:Ty) (l:List D):D:=if e.isAgg then .agg l else l.headD default
theorem C0 {e:Ty} {l:List D} (h:kD e l):(z4 e l).cells=l:=by
 cases e<;>simp only [kD] at h<;>simp only [z4,Ty.isAgg,if_true,Bool.false_eq_true,if_false]
 ·obtain ⟨b,rfl⟩:=h;rfl
 ·obtain ⟨n,rfl,_⟩:=h;rfl
 ·obtain ⟨n,rfl,_⟩:=h;rfl
 ·obtain ⟨n,rfl,_⟩:=h;rfl
 ·rfl
 ·rfl
theorem Nz {e:Ty} {l:List D} (h:kD e l):(∃ c,z4 e l= .agg c)=(e.isAgg=true):=by
 cases e<;>simp only [kD] at h<;>simp only [z4,Ty.isAgg,if_true,Bool.false_eq_true,if_false]
 ·obtain ⟨b,rfl⟩:=h;simp
 ·obtain ⟨n,rfl,_⟩:=h;simp
 ·obtain ⟨n,rfl,_⟩:=h;simp
 ·obtain ⟨n,rfl,_⟩:=h;simp
 ·simp
 ·simp
theorem trod_array {H:Type} {enc:TypeId×Value→H} {w:World} {base:Nat} {sp:Nat→Bool} {held:Bool} {fuel:Nat} {t e:TypeId} {n:Nat} {cs:List Value} {x:DataW H×List MemPlace} (ht:P.underlying t=some (.array n e))
  (h:DataW.trod enc P w base sp held fuel t cs=some x):
  ∃ (xs:List (DataW H×List MemPlace)) (k:Nat),fuel=k+1∧cs.length=P.cellsOf t∧xs.length=n∧∀ i,i<n→DataW.trod enc P w base sp held k e ((cs.drop (i*P.cellsOf e)).take (P.cellsOf e))=xs[i]? :=by
 cases fuel with
 | zero=>simp [DataW.trod] at h
 | succ k=>
  unfold DataW.trod at h
  rw [ht] at h
  split at h<;>simp_all
  obtain ⟨hl,xs,hp,hd⟩:=h
  exact ⟨xs,by simpa using mapM_some_length hp,fun i hi=>mapM_some_get hp i i (by simp [hi])⟩
theorem Ll {W:World} {b o:Nat} {v:Value} (h:W.cell? ⟨b,o,none⟩=some v) (h1:v.oneCell'=true):vq W b o=some v:=by
 unfold vq
 rw [h]
 simp [h1]
theorem NA {m:Mem} {e:Ty} {sz:Nat}:∀ (n:Nat) (cs:List Value),cs.length=n*sz→
  (∀ i,i<n→∃ l,kD e l∧ct m l ((cs.drop (i*sz)).take sz)∧∀ u∈(cs.drop (i*sz)).take sz,u.oneCell'=true)→
  ∃ ls:List (List D),ls.length=n∧(∀ c∈ls,kD e c)∧ct m ls.flatten cs∧∀ u∈cs,u.oneCell'=true:=by
 intro n
 induction n with
 | zero=>
  intro cs hl _
  have:cs=[]:=by simpa using hl
  subst this
  exact ⟨[],rfl,by simp,by simp [ct],by simp⟩
 | succ n ih=>
  intro cs hl h
  obtain ⟨l,h1,h2,h3⟩:=h 0 (by omega)
  simp only [Nat.zero_mul,List.drop_zero] at h2 h3
  have hlen:(cs.drop sz).length=n*sz:=by
   rw [List.length_drop,hl,Nat.succ_mul]
   omega
  obtain ⟨ls,e1,e2,e3,e4⟩:=ih (cs.drop sz) hlen (fun i hi=>by
   have:=h (i+1) (by omega)
   rw [Nat.succ_mul] at this
   rw [List.drop_drop]
   rwa [Nat.add_comm sz (i*sz)])
  refine ⟨l::ls,by simp [e1],?_,?_,?_⟩
  ·intro c hc
   rcases List.mem_cons.1 hc with rfl | hc
   ·exact h1
   ·exact e2 c hc
  ·rw [List.flatten_cons, ← List.take_append_drop sz cs]
   exact pq h2 e3
  ·intro u hu
   rw [← List.take_append_drop sz cs] at hu
   rcases List.mem_append.1 hu with hu | hu
   ·exact h3 u hu
   ·exact e4 u hu
theorem NB {m:Mem} {b:Nat} {e:Ty} {sz:Nat}:∀ (n o:Nat),
  (∀ i,i<n→∃ l vs,kD e l∧ct m l vs∧vs.length=sz∧∀ j v,vs[j]? =some v→m b (o+i*sz+j)=some v)→
  ∃ xs:List D,xs.length=n∧gv m b xs o∧∀ x∈xs,kD e x.cells∧(∃ c,x= .agg c)=(e.isAgg=true):=by
 intro n
 induction n with
 | zero=>intro o _;exact ⟨[],rfl,by simp [gv],by simp⟩
 | succ n ih=>
  intro o h
  obtain ⟨l,vs,h1,h2,h3,h4⟩:=h 0 (by omega)
  obtain ⟨xs,e1,e2,e3⟩:=ih (o+sz) (fun i hi=>by
   obtain ⟨l',vs',k1,k2,k3,k4⟩:=h (i+1) (by omega)
   refine ⟨l',vs',k1,k2,k3,fun j v hv=>?_⟩
   have:=k4 j v hv
   rw [Nat.succ_mul] at this
   rwa [show o+sz+i*sz+j=o+(i*sz+sz)+j from by omega])
  have hc:=C0 h1
  have hlen:l.length=sz:=by rw [← qU h2];exact h3
  refine ⟨z4 e l::xs,by simp [e1],?_,?_⟩
  ·rw [mN,hc,hlen]
   refine ⟨xy h2 fun j v hv=>?_,e2⟩
   have:=h4 j v hv
   rwa [Nat.zero_mul,Nat.add_zero] at this
  ·intro x hx
   rcases List.mem_cons.1 hx with rfl | hx
   ·rw [hc];exact ⟨h1,Nz h1⟩
   ·exact e3 x hx
theorem Lm {W:World} {base:Nat} {a:Addr} {n:Nat} {cs:List Value} (h:W.cells? base a n=some cs) (hn:0<n):a.spot=none:=by
 unfold World.cells? at h
 split at h
 ·have h0:=mapM_some_get h 0 0 (by simp [hn])
  have hl:=mapM_some_length h
  simp only [List.length_range] at hl
  have:cs[0]? ≠none:=fun hc=>by have:=List.getElem?_eq_none_iff.1 hc;omega
  rw [← h0] at this
  cases hs:a.spot with
  | none=>rfl
  | some s=>
   refine absurd ?_ this
   have:a.add 0=a:=by simp [Addr.add]
   rw [this]
   simp only [World.cell?]
   split
   ·simp [hs]
   ·rfl
 ·cases h
theorem NC {W:World} {base b o n:Nat} {cs:List Value} (h:W.cells? base ⟨b,o,none⟩ n=some cs):cs.length=n∧∀ j v,cs[j]? =some v→W.cell? ⟨b,o+j,none⟩=some v:=by
 unfold World.cells? at h
 split at h
 ·have hl:=mapM_some_length h
  simp only [List.length_range] at hl
  refine ⟨hl,fun j v hv=>?_⟩
  have hj:j<n:=by
   have:=(List.getElem?_eq_some_iff.1 hv).1
   omega
  have:=mapM_some_get h j j (by simp [hj])
  rw [iY] at this
  rw [this,hv]
 ·cases h
mutual
theorem wN {H:Type} {enc:TypeId×Value→H} {W:World} {sp:Nat→Bool}:∀ (T:Ty) (t:TypeId) (fuel:Nat) (cs:List Value) (x:DataW H×List MemPlace),
  CZ P T t=true→DataW.trod enc P W 0 sp true fuel t cs=some x→∃ l,kD T l∧ct (vq W) l cs∧∀ u∈cs,u.oneCell'=true
 | .bool,t,fuel,cs,x,hs,h=>by
  simp only [CZ] at hs
  split at hs
  ·rename_i hu
   obtain ⟨b,rfl,_⟩:=DataW.trod_bool hu h
   exact ⟨_,⟨b,rfl⟩,by simp [ct,bh],by simp [Value.oneCell']⟩
  ·cases hs
 | .int k,t,fuel,cs,x,hs,h=>by
  simp only [CZ] at hs
  split at hs
  ·rename_i k' hu
   have hk:k'=k:=by simpa using hs
   subst hk
   obtain ⟨n,rfl,_,hw⟩:=DataW.trod_int hu h
   exact ⟨_,⟨n,rfl,hw⟩,by simp [ct,bh],by simp [Value.oneCell']⟩
  ·cases hs
 | .str,t,fuel,cs,x,hs,h=>by
  simp only [CZ] at hs
  split at hs
  ·rename_i hu
   obtain ⟨s,rfl,_,hw⟩:=DataW.trod_string hu h
   exact ⟨_,⟨s,rfl,hw⟩,by simp [ct,bh],by simp [Value.oneCell']⟩
  ·cases hs
 | .slice e,t,fuel,cs,x,hs,h=>by
  simp only [CZ] at hs
  split at hs
  ·rename_i u hu
   simp only [Bool.and_eq_true,beq_iff_eq,decide_eq_true_eq] at hs
   obtain ⟨h1,h2,h3⟩:=hs
   rcases DataW.trod_slice hu h with ⟨rfl,_⟩ | ⟨a,len,cap,elems,rest,n,rfl,rfl,_,_,hlc,Iu,hel,BE,_⟩
   ·exact ⟨_,⟨[],rfl,by simp,by simp⟩,by simp [ct,bh],by simp [Value.oneCell']⟩
   ·rw [h2] at BE
    have each:∀ i,i<len→∃ Ln xi,W.cells? 0 (a.add (i*e.size)) e.size=some Ln∧DataW.trod enc P W 0 sp true n u Ln=some xi:=by
     intro i hi
     have:=BE i hi
     have hx:elems[i]? =some (elems[i]'(by omega)):=List.getElem?_eq_getElem (by omega)
     rw [hx,Option.bind_eq_some_iff] at this
     obtain ⟨Ln,k1,k2⟩:=this
     exact ⟨Ln,_,k1,k2⟩
    by_cases h0:len=0
    ·subst h0
     exact ⟨_,⟨[],rfl,by simp,by simp⟩,by simp [ct,bh],by simp [Value.oneCell']⟩
    ·have Sh:a.spot=none:=by
      obtain ⟨Ln,_,k1,_⟩:=each 0 (by omega)
      have:=Lm k1 h3
      simpa [Addr.add] using this
     obtain ⟨b,o,s⟩:=a
     simp only at Sh
     subst Sh
     obtain ⟨xs,e1,e2,e3⟩:=NB (m:=vq W) (b:=b) (e:=e) (sz:=e.size) len o (fun i hi=>by
      obtain ⟨Ln,xi,k1,k2⟩:=each i hi
      obtain ⟨l,l1,l2,l3⟩:=wN e u n Ln xi h1 k2
      rw [iY] at k1
      obtain ⟨k3,k4⟩:=NC k1
      exact ⟨l,Ln,l1,l2,k3,fun j v hv=>Ll (k4 j v hv) (l3 v (List.mem_of_getElem? hv))⟩)
     refine ⟨[.slice xs],⟨xs,rfl,by omega,e3⟩,?_,by simp [Value.oneCell']⟩
     simp only [ct,bh]
     exact ⟨_,[],rfl,⟨some ⟨b,o,none⟩,cap,by rw [e1],by omega, .inr ⟨b,o,rfl,e2⟩⟩,rfl⟩
  ·cases hs
 | .st ts,t,fuel,cs,x,hs,h=>by
  simp only [CZ] at hs
  split at hs
  ·rename_i fs hu
   simp only [Bool.and_eq_true,beq_iff_eq] at hs
   obtain ⟨h1,h2⟩:=hs
   obtain ⟨xs,n,rfl,_,hl,hx,BE⟩:=DataW.trod_struct hu h
   obtain ⟨l,l1,l2,l3⟩:=Gg ts fs.toList 0 n cs h2 (fun f hf=>by
    obtain ⟨i,hi⟩:=List.mem_iff_getElem?.1 hf
    have hi':fs[i]? =some f:=by simpa using hi
    have:=BE i f hi'
    have hlt:i<fs.size:=(Array.getElem?_eq_some_iff.1 hi').1
    exact ⟨xs[i]'(by omega),by rw [this];exact List.getElem?_eq_getElem (by omega)⟩) (by omega)
   have e:(cs.drop 0).take (Ty.sizes ts)=cs:=by rw [List.drop_zero,List.take_of_length_le (by omega)]
   rw [e] at l2 l3
   exact ⟨l,by simpa only [kD] using l1,l2,l3⟩
  ·cases hs
 | .arr k e,t,fuel,cs,x,hs,h=>by
  simp only [CZ] at hs
  split at hs
  ·rename_i k' u hu
   simp only [Bool.and_eq_true,beq_iff_eq] at hs
   obtain ⟨rfl,h1,h2,h3⟩:=hs
   obtain ⟨xs,n,rfl,hl,hx,BE⟩:=trod_array hu h
   rw [h2] at BE
   obtain ⟨ls,e1,e2,e3,e4⟩:=NA (m:=vq W) (e:=e) (sz:=e.size) k' cs (by omega) (fun i hi=>by
    have:=BE i hi
    rw [List.getElem?_eq_getElem (by omega)] at this
    exact wN e u n _ _ h1 this)
   exact ⟨_,⟨ls,e1,rfl,e2⟩,e3,e4⟩
  ·cases hs
theorem Gg {H:Type} {enc:TypeId×Value→H} {W:World} {sp:Nat→Bool}:∀ (Ts:List Ty) (fs:List Field) (off n:Nat) (cs:List Value),
  I0 P Ts fs off=true→(∀ f∈fs,∃ x,DataW.trod enc P W 0 sp true n f.type ((cs.drop f.offset).take (P.cellsOf f.type))=some x)→off+Ty.sizes Ts≤cs.length→
  ∃ l,EM Ts l∧ct (vq W) l ((cs.drop off).take (Ty.sizes Ts))∧∀ u∈(cs.drop off).take (Ty.sizes Ts),u.oneCell'=true
 | [],[],off,n,cs,_,_,_=>⟨[],rfl,by simp [ct,Ty.sizes],by simp [Ty.sizes]⟩
 | T::r,f::q,off,n,cs,hs,h,hl=>by
  simp only [I0,Bool.and_eq_true,beq_iff_eq] at hs
  obtain ⟨h1,h2,h3,h4⟩:=hs
  obtain ⟨x,hx⟩:=h f (List.mem_cons_self ..)
  rw [h1,h2] at hx
  simp only [Ty.sizes] at hl
  obtain ⟨a,a1,a2,a3⟩:=wN T f.type n _ x h3 hx
  obtain ⟨b,b1,b2,b3⟩:=Gg r q (off+T.size) n cs h4 (fun g hg=>h g (List.mem_cons_of_mem _ hg)) (by omega)
  have e:(cs.drop off).take (Ty.sizes (T::r))=(cs.drop off).take T.size++(cs.drop (off+T.size)).take (Ty.sizes r):=by
   simp only [Ty.sizes]
   rw [List.take_add,List.drop_drop]
  refine ⟨a++b,?_,?_,?_⟩
  ·simp only [EM];exact ⟨a,b,rfl,a1,b1⟩
  ·rw [e];exact pq a2 b2
  ·intro u hu
   rw [e] at hu
   rcases List.mem_append.1 hu with hu | hu
   ·exact a3 u hu
   ·exact b3 u hu
 | [],_::_,_,_,_,hs,_,_=>by simp [I0] at hs
 | _::_,[],_,_,_,hs,_,_=>by simp [I0] at hs
end
end Go.Proofs.YtlfjfoknbjcncaaGreat.K
namespace Go.Proofs.YtlfjfoknbjcncaaGreat.K
open Go Go.RowKit Go.ChangeShapes Go.WideShapes Go.ChangeAt
variable {P:Program}
theorem Uz {W:World} {r:Reach} {b0:Nat} {t:TypeId} {v:Value} {T:Ty} (hT:T.isAgg=false) (hs:CZ P T t=true) (hv:Value.okWide P W r b0 t v):v.cells.toList=[v]:=by
 have key:∀ cs,v≠ .agg cs:=by
  intro cs e
  subst e
  cases T<;>simp only [Ty.isAgg,Bool.true_eq_false] at hT<;>simp only [CZ] at hs<;>split at hs<;>first | (cases hs;done) | (rename_i hu;simp [Value.okWide,hu,Cell.okWide,Cell.ok] at hv)
 cases v<;>simp_all [Value.cells]
theorem Qe {H:Type} {enc:TypeId×Value→H} {W:World} {sp:Nat→Bool} {r:Reach} {b0:Nat} {t:TypeId} {v:Value} {d:DataW H} {ps:List MemPlace} (T:Ty) (hs:CZ P T t=true) (hv:Value.okWide P W r b0 t v) (h:DataW.Trod enc P W 0 sp true t v d ps):
  ∃ l,kD T l∧bh (vq W) (z4 T l) v:=by
 obtain ⟨fuel,h⟩:=h
 obtain ⟨l,h1,h2,h3⟩:=wN T t fuel _ _ hs h
 refine ⟨l,h1,?_⟩
 cases hT:T.isAgg with
 | true=>
  have:∃ cs,v= .agg cs:=by
   cases T<;>simp only [Ty.isAgg,Bool.false_eq_true] at hT<;>simp only [CZ] at hs<;>split at hs<;>first | (cases hs;done) | (rename_i hu;simp only [Value.okWide,hu] at hv;obtain ⟨cs,e,_⟩:=hv;exact ⟨cs,e⟩)
  obtain ⟨cs,rfl⟩:=this
  simp only [z4,hT,if_true,bh]
  exact ⟨cs.toList,rfl,by simpa [Value.cells] using h2,by simpa [Value.cells] using h3⟩
 | false=>
  have hc:=Uz hT hs hv
  rw [hc] at h2
  have hw:=C0 h1
  simp only [z4,hT,Bool.false_eq_true,if_false] at hw ⊢
  cases l with
  | nil=>simp [ct] at h2
  | cons x q=>
   simp only [ct] at h2
   obtain ⟨v',vr,e,e1,e2⟩:=h2
   simp only [List.cons.injEq] at e
   obtain ⟨rfl,_⟩:=e
   simpa using e1
theorem UA {l:List D} (h:kD (.int .u8) l):∃ b:UInt8,l=[U b]:=by
 simp only [kD] at h
 obtain ⟨n,rfl,hw⟩:=h
 have hr:0≤n∧n≤255:=by
  simp only [Lit.wf,Bool.and_eq_true,decide_eq_true_eq] at hw
  have h1:IntKind.u8.min=0:=by decide
  have h2:IntKind.u8.max=255:=by decide
  rw [h1,h2] at hw
  exact hw
 refine ⟨UInt8.ofNat n.toNat,?_⟩
 have:((UInt8.ofNat n.toNat).toNat:Int)=n:=by
  rw [UInt8.toNat_ofNat']
  omega
 rw [U,this]
theorem Gh {α:Type} {e:Ty} {f:α→D} (one:∀ x:D,kD e x.cells→(∃ c,x= .agg c)=(e.isAgg=true)→∃ a,x=f a):∀ {xs:List D},(∀ x∈xs,kD e x.cells∧(∃ c,x= .agg c)=(e.isAgg=true))→∃ as:List α,as.length=xs.length∧xs=as.map f
 | [],_=>⟨[],rfl,rfl⟩
 | x::r,h=>by
  obtain ⟨a,e1⟩:=one x (h x (List.mem_cons_self ..)).1 (h x (List.mem_cons_self ..)).2
  obtain ⟨as,h1,h2⟩:=Gh one (xs:=r) fun y hy=>h y (List.mem_cons_of_mem _ hy)
  exact ⟨a::as,by simp [h1],by simp [e1,h2]⟩
theorem Lo {x y:D} (h:x.cells=[y]) (ha:(∃ c,x= .agg c)=(false=true)):x=y:=by
 cases x with
 | agg c=>
  have:(false=true):=ha▸⟨c,rfl⟩
  cases this
 | _=>simpa [D.cells] using h
end Go.Proofs.YtlfjfoknbjcncaaGreat.K
namespace Go.Proofs.YtlfjfoknbjcncaaGreat.K
open Go Go.RowKit
theorem ofInt_u8 (a:UInt8):BitVec.ofInt IntKind.u8.bits (a.toNat:Int)=a.toBitVec:=by
 apply BitVec.eq_of_toNat_eq
 simp [IntKind.bits]
theorem Xh (a:UInt8):(0:Int)≤a.toNat∧(a.toNat:Int)≤255:=by
 have:a.toNat<256:=a.toNat_lt
 omega
theorem wO (a:UInt8):IntKind.u8.wrap (a.toNat:Int)=a.toNat:=wrap_u8 (Xh a)
theorem Xi (a b:UInt8):IntKind.u8.wrap ((BitVec.ofInt IntKind.u8.bits (a.toNat:Int)||| BitVec.ofInt IntKind.u8.bits (b.toNat:Int)).toNat:Int)=(a||| b).toNat:=by
 rw [ofInt_u8,ofInt_u8]
 exact wO (a||| b)
theorem UB (a b:UInt8):IntKind.u8.wrap ((BitVec.ofInt IntKind.u8.bits (a.toNat:Int)&&& BitVec.ofInt IntKind.u8.bits (b.toNat:Int)).toNat:Int)=(a&&& b).toNat:=by
 rw [ofInt_u8,ofInt_u8]
 exact wO (a&&& b)
theorem UC (a b:UInt8):IntKind.u8.wrap ((a.toNat:Int)+(b.toNat:Int))=(a+b).toNat:=by
 rw [IntKind.wrap_u8,UInt8.toNat_add]
 omega
theorem wP:∀ l:List D,PV.eg (l.map .d)=some l
 | []=>rfl
 | x::r=>by simp only [List.map_cons,PV.eg,PV.cW,wP r,Option.map_some]
theorem wQ:maxLen=9223372036854775807:=rfl
theorem gl.lone {M:List Nat} {L:List Rec} (n:Nat) (h1:∀ R∈L.take n,R.T=[]∧R.W=[]∧R.lo=R.hi) (h2:∀ R∈L.drop (n+1),R.T=[]∧R.W=[]):gl M L:=by
 intro i j a b hij ha hb hx
 have front:∀ (k:Nat) (R:Rec),k<n→L[k]? =some R→R.T=[]∧R.W=[]∧R.lo=R.hi:=fun k R hk hR=>h1 R (List.mem_of_getElem? (i:=k) (by rw [List.getElem?_take,if_pos hk];exact hR))
 have back:∀ (k:Nat) (R:Rec),n<k→L[k]? =some R→R.T=[]∧R.W=[]:=fun k R hk hR=>h2 R (List.mem_of_getElem? (i:=k-(n+1)) (by rw [List.getElem?_drop,show n+1+(k-(n+1))=k from by omega];exact hR))
 rcases Nat.lt_trichotomy j n with hj | hj | hj
 ·have hB:=front j b hj hb
  rcases hx with ⟨x,hx,_⟩ | ⟨x,_,hx⟩
  ·rw [hB.1] at hx;cases hx
  ·rw [hB.2.1] at hx;cases hx
 ·have hA:=front i a (by omega) ha
  rcases hx with ⟨x,_,hx | hx⟩ | ⟨x,hx,_⟩
  ·rw [hA.2.1] at hx;cases hx
  ·rw [hA.2.2] at hx;omega
  ·rw [hA.1] at hx;cases hx
 ·have hB:=back j b hj hb
  rcases hx with ⟨x,hx,_⟩ | ⟨x,_,hx⟩
  ·rw [hB.1] at hx;cases hx
  ·rw [hB.2] at hx;cases hx
end Go.Proofs.YtlfjfoknbjcncaaGreat.K
namespace Go.Proofs.YtlfjfoknbjcncaaGreat.K
open Go Go.RowKit
variable {P:Program} {N:Nat} {ops:Array Oper} {o:Oper} {r:List Oper} {s:St}
def AtS (S:Nat→PV):List (Nat×PV)→Prop
 | []=>True
 | x::r=>S x.1=x.2∧AtS S r
theorem Km (bs:ByteArray):∀ (n i:Nat) (r:List UInt8),bs.size-i=n→ByteArray.toList.loop bs i r=r.reverse++bs.data.toList.drop i:=by
 have e:bs.data.size=bs.size:=rfl
 intro n
 induction n with
 | zero=>
  intro i r h
  rw [ByteArray.toList.loop,if_neg (by omega),List.drop_eq_nil_of_le (by simp;omega),List.append_nil]
 | succ n ih=>
  intro i r h
  rw [ByteArray.toList.loop,if_pos (by omega),ih (i+1) _ (by omega)]
  have hi:i<bs.data.toList.length:=by simp;omega
  rw [List.drop_eq_getElem_cons hi,List.reverse_cons,List.append_assoc]
  congr 2
  rw [ByteArray.get!,getElem!_pos bs.data i (by simpa using hi)]
  simp
theorem z5 (l:List UInt8):(ByteArray.mk l.toArray).toList=l:=by
 rw [ByteArray.toList,Km _ _ 0 [] rfl]
 simp
theorem sS (l:List UInt8):(ByteArray.mk l.toArray).size=l.length:=by simp [ByteArray.size]
theorem EN (a b:List UInt8):ByteArray.mk a.toArray++ByteArray.mk b.toArray=ByteArray.mk (a++b).toArray:=by
 apply WideShapes.bytes_inj
 simp
theorem C1 (l:List UInt8) (i j:Nat):(ByteArray.mk l.toArray).extract i j=ByteArray.mk ((l.drop i).take (j-i)).toArray:=by
 apply WideShapes.bytes_inj
 simp
theorem Lp:IntKind.i64.max=9223372036854775807:=rfl
theorem DX {m:Mem} {ρ:cZ} {p q:PV} (h:∀ v,aM m ρ p v→aM m ρ q v):∀ (l:List PV) (vs:List Value) (j:Nat),l[j]? =some p→bM m ρ l vs→bM m ρ (l.set j q) vs
 | [],vs,j,hj,_=>by simp at hj
 | x::r,vs,0,hj,hr=>by
  simp only [List.getElem?_cons_zero,Option.some.injEq] at hj
  subst hj
  simp only [List.set_cons_zero,bM] at hr ⊢
  obtain ⟨v,vr,e1,e2,e3⟩:=hr
  exact ⟨v,vr,e1,h v e2,e3⟩
 | x::r,vs,j+1,hj,hr=>by
  simp only [List.getElem?_cons_succ] at hj
  simp only [List.set_cons_succ,bM] at hr ⊢
  obtain ⟨v,vr,e1,e2,e3⟩:=hr
  exact ⟨v,vr,e1,e2,DX h r vr j hj e3⟩
theorem m7 (a:UInt8):a.toNat<256:=a.toNat_lt
theorem ND (b:UInt8):IntKind.i64.wrap (b.toNat:Int)=(b.toNat:Int):=wrap_i64 (by have:=m7 b;omega)
def Lq (P:Program) (t:TypeId) (n:Nat):Bool:=
 match P.underlying t with
 | some (.array k e)=>k==n&&(match P.underlying e with | some (.int .u8)=>true | _=>false)&&(match P.info? e with | some _=>P.cellsOf e==1 | none=>false)&& !P.eqGuardType P.depth t
 | _=>false
theorem z6 {e:TypeId} {w:World} (he:P.underlying e=some (.int .u8)) (d:Nat):∀ (a b:List UInt8) (pa pb:List UInt8),a.length=b.length→pa.length=pb.length→
  (Op.eqItems (d+1) e 1 ⟨(pa++a).map fun b=>Value.int .u8 b.toNat⟩ ⟨(pb++b).map fun b=>Value.int .u8 b.toNat⟩ (List.range' pa.length a.length)).run P w= .ok (a==b) w
 | [],[],pa,pb,_,_=>rfl
 | x::a,y::b,pa,pb,h,hp=>by
  have hpk:P.plainKey e=true:=by simp [Program.plainKey,he]
  have e1:((⟨(pa++x::a).map fun b=>Value.int .u8 b.toNat⟩:Array Value)[pa.length*1]?)=some (.int .u8 x.toNat):=by simp
  have e2:((⟨(pb++y::b).map fun b=>Value.int .u8 b.toNat⟩:Array Value)[pa.length*1]?)=some (.int .u8 y.toNat):=by rw [hp];simp
  have ih:=z6 (w:=w) he d a b (pa++[x]) (pb++[y]) (by simpa using h) (by simp [hp])
  simp only [List.append_assoc,List.cons_append,List.nil_append,List.length_append,List.length_cons,List.length_nil,Nat.zero_add] at ih
  simp only [List.length_cons,List.range'_succ,Op.eqItems,Sem.run_bind,run_part_plain w hpk e1,run_part_plain w hpk e2,run_equalIn_int w d e _ _ _ _ he,Result.andThen_ok]
  by_cases hx:x=y
  ·subst hx
   simp only [beq_self_eq_true,Bool.not_true,Bool.false_eq_true,if_false]
   rw [ih]
   simp
  ·have:(((x.toNat:Int))==(y.toNat:Int))=false:=by rw [beq_eq_false_iff_ne];intro e;exact hx (UInt8.toNat_inj.1 (by omega))
   rw [this]
   have h2:(x::a==y::b)=false:=by simp [hx]
   rw [h2]
   rfl
 | [],_::_,_,_,h,_=>by simp at h
 | _::_,[],_,_,h,_=>by simp at h
theorem z0.bytes {t:TypeId} {n:Nat} (h:Lq P t n=true) (a b:List UInt8) (ha:a.length=n) (hb:b.length=n):z0 P t (.agg (a.map U)) (.agg (b.map U)) (a==b):=by
 unfold Lq at h
 split at h
 ·rename_i k e hu
  simp only [Bool.and_eq_true,beq_iff_eq,Bool.not_eq_true'] at h
  obtain ⟨⟨⟨rfl,h2⟩,h3⟩,h4⟩:=h
  have he:P.underlying e=some (.int .u8):=by
   split at h2
   ·assumption
   ·cases h2
  split at h3
  ·rename_i i hi
   have hc:P.cellsOf e=1:=by simpa using h3
   refine ⟨h4,fun m w v u hv YP=>?_⟩
   simp only [bh] at hv YP
   obtain ⟨vs,rfl,hvs,_⟩:=hv
   obtain ⟨us,rfl,hus,_⟩:=YP
   refine ⟨_,_,rfl,rfl,?_⟩
   have e1:=tI hvs
   have e2:=tI hus
   subst e1;subst e2
   show (Op.equalIn (9998+1+1) t _ _).run P w=_
   rw [run_equalIn_array w (9998+1) _ _ hu hi,hc,List.range_eq_range']
   have:=z6 (w:=w) he 9998 a b [] [] (by omega) rfl
   simp only [List.nil_append,List.length_nil] at this
   rw [← ha]
   exact this
  ·cases h3
 ·cases h
attribute [go_sem] Int.natCast_zero Int.cast_ofNat_Int List.all_cons List.all_nil ND UInt8.ofNat_toNat List.size_toArray Int.tdiv_eq_ediv_of_nonneg Int.tmod_eq_emod_of_nonneg wO z5 sS EN C1 Lp aR cQ og dg AU eq_self true_implies false_implies Int.toNat_natCast Op.operands Call.operands Array.toList_append List.nil_append List.append_nil vp bV jz iL jP jD aB dK isEq zy yP vo x4 n9 bin un yH sN ju z1 PV.elems B4 xA nG oD nA CR wK zW n7 B5 uk CY oz k8 k7 placeOf Lb PV.g8 PV.cz PV.cW PV.eg PV.more Gf cu oH Nat.one_ne_zero Nat.zero_ne_one if_true if_false and_true true_and and_self Bool.and_true Bool.true_and Bool.and_false Bool.false_and Bool.false_eq_true beq_self_eq_true Bool.not_true Bool.not_false Bool.not_eq_true Bool.not_eq_false Bool.cond_true Bool.cond_false List.map_cons List.map_nil List.length_cons List.length_nil List.length_map decide_true decide_false List.drop_zero List.drop_succ_cons List.headD_cons List.getD_cons_zero List.getD_cons_succ forall_const imp_self ne_eq not_true not_false_eq_true Option.map_some Option.map_none List.cons_append and_assoc x5 Sc mw wP Nat.mul_one List.forall_mem_cons List.not_mem_nil List.mem_cons forall_eq_or_imp forall_eq implies_true Option.some.injEq HO.spare.injEq Value.oneCell' List.length_replicate wQ CV CX wrap_i64 wrap_u64 wrap_u8
end Go.Proofs.YtlfjfoknbjcncaaGreat.K
namespace Go.Proofs.YtlfjfoknbjcncaaGreat.K
open Go Go.RowKit
abbrev Wd:=BitVec 32
def C2 (m:Nat):List Rec→Nat→Bool
 | [],_=>true
 | R::r,i=>(R.T.isEmpty||m.testBit i)&&C2 m r (i+1)
theorem EO {m:Nat}:∀ {L:List Rec} {k i:Nat} {R:Rec},C2 m L k=true→L[i]? =some R→R.T≠[]→m.testBit (k+i)=true
 | R'::r,k,0,R,h,e,hT=>by
  simp only [List.getElem?_cons_zero,Option.some.injEq] at e
  subst e
  simp only [C2,Bool.and_eq_true,Bool.or_eq_true,List.isEmpty_iff] at h
  exact h.1.resolve_left hT
 | R'::r,k,i+1,R,h,e,hT=>by
  simp only [List.getElem?_cons_succ] at e
  simp only [C2,Bool.and_eq_true] at h
  have:=EO h.2 e hT
  rwa [show k+1+i=k+(i+1) by omega] at this
 | [],_,_,_,_,e,_=>by simp at e
theorem gl.last {M:List Nat} {L:List Rec} (n:Nat) (h1:∀ R∈L.take n,R.W=[]∧R.lo=R.hi) (h2:∀ R∈L.drop (n+1),R.T=[]∧R.W=[]) (h3:C2 (M.getD n 0) (L.take n) 0=true):gl M L:=by
 intro i j a b hij ha hb hx
 have front:∀ (k:Nat) (R:Rec),k<n→L[k]? =some R→R.W=[]∧R.lo=R.hi:=fun k R hk hR=>h1 R (List.mem_of_getElem? (i:=k) (by rw [List.getElem?_take,if_pos hk];exact hR))
 have back:∀ (k:Nat) (R:Rec),n<k→L[k]? =some R→R.T=[]∧R.W=[]:=fun k R hk hR=>h2 R (List.mem_of_getElem? (i:=k-(n+1)) (by rw [List.getElem?_drop,show n+1+(k-(n+1))=k from by omega];exact hR))
 rcases Nat.lt_trichotomy j n with hj | hj | hj
 ·have hB:=front j b hj hb
  have hA:=front i a (by omega) ha
  rcases hx with ⟨x,_,hx | hx⟩ | ⟨x,_,hx⟩
  ·rw [hA.1] at hx;cases hx
  ·omega
  ·rw [hB.1] at hx;cases hx
 ·subst hj
  have hA:=front i a hij ha
  rcases hx with ⟨x,_,hx | hx⟩ | ⟨x,hx,_⟩
  ·rw [hA.1] at hx;cases hx
  ·omega
  ·have:=EO h3 (i:=i) (R:=a) (by rw [List.getElem?_take,if_pos hij];exact ha) (by intro e;rw [e] at hx;cases hx)
   simpa using this
 ·have hB:=back j b hj hb
  rcases hx with ⟨x,hx,_⟩ | ⟨x,_,hx⟩
  ·rw [hB.1] at hx;cases hx
  ·rw [hB.2] at hx;cases hx
attribute [go_sem] Nat.zero_add
end Go.Proofs.YtlfjfoknbjcncaaGreat.K
namespace Go.Proofs.YtlfjfoknbjcncaaGreat.K
open Go Go.RowKit
variable {P:Program} {N:Nat} {ops:Array Oper} {o:Oper} {r:List Oper} {s:St}
theorem Lr {s:St} {m:Mem} {ρ:cZ} {w:World} (T:List Nat) (V:dS (· ∈T) m ρ w s.H) (hf:∀ i,s.nx≤i→i<s.nx+1→ρ i=none) {vals rest:List Value} {sz n cap:Nat} (h1:∀ v∈vals,v.oneCell'=true) (hv:vals.length=n*sz)
  (hr:vals.length+rest.length=cap*sz) (hc:n≤cap) (hm:cap≤maxLen) (e:TypeId) (fr:Nat×Nat) (hfr:(vals++rest).length≤fr.1) (Hd:HM) (hd:∀ i,Hd i=none∨Hd i=s.H i):
  xX (· ∈T) s.nx (s.nx+1) m ρ w s.H (m.with w.heap.size vals) (fun i=>if i=s.nx then some (w.heap.size,cap) else ρ i) (w.drew.alloc (.cells ⟨vals++rest⟩ e fr)) (fun i=>if i=s.nx then some (.spare sz n) else Hd i):=by
 have hle:ρ.le (fun i=>if i=s.nx then some (w.heap.size,cap) else ρ i):=by
  intro i x e
  have:i≠s.nx:=by intro h;subst h;rw [hf _ (Nat.le_refl _) (by omega)] at e;cases e
  simp [this,e]
 have hml:=Mem.tJ (vs:=vals) (tK V.mem)
 have hold:∀ k,k<w.heap.size→(w.drew.alloc (.cells ⟨vals++rest⟩ e fr)).heap[k]? =w.heap[k]? :=fun k hk=>heap_alloc_old w.drew _ hk
 have hnew:(w.drew.alloc (.cells ⟨vals++rest⟩ e fr)).heap[w.heap.size]? =some (.cells ⟨vals++rest⟩ e fr):=heap_alloc_new w.drew _
 have hnm:∀ b o v,(m.with w.heap.size vals) b o=some v→m b o=some v∨w.heap.size≤b:=by
  intro b o v h
  unfold Mem.with at h
  split at h
  ·exact .inr (by omega)
  ·exact .inl h
 have hmem:ga (m.with w.heap.size vals) (w.drew.alloc (.cells ⟨vals++rest⟩ e fr)):=by
  refine V.mem.with (fun b ⟨_,_,h⟩=>hold b (V.mem.lt h)) (fun o v h=>?_) h1
  rw [hY hnew,List.getElem?_append_left (List.getElem?_eq_some_iff.1 h).1]
  exact h
 refine ⟨⟨hml,by simp,fun b hb _=>hold b hb,rfl,rfl,rfl,fun b o v h=>(hnm b o v h).imp id .inr⟩,hle,fun i=>?_,⟨hmem,?_,?_⟩,?_⟩
 ·by_cases h:i=s.nx
  ·exact .inr ⟨by omega,by omega⟩
  ·simp [h]
 ·intro i o hi hH
  by_cases h:i=s.nx
  ·subst h
   simp only [if_true,Option.some.injEq] at hH
   subst hH
   refine .inr ⟨w.heap.size,cap,_,e,fr,by simp,hnew,by simp;omega,hc,hm,by simp only [List.size_toArray] at hfr ⊢;omega,fun o ho=>?_⟩
   simp only [Mem.with,if_true]
   exact List.getElem?_eq_none (by omega)
  ·simp only [h,if_false] at hH
   have uj:s.H i=some o:=by
    rcases hd i with h' | h'
    ·rw [h'] at hH;cases hH
    ·rw [← h'];exact hH
   have hE:=V.entry i o (hi.elim id (by omega)) uj
   refine hE.move hml hle (by simp [h]) (fun b c hr=>hold b (hE.oy hr)) (fun b c hr o' v h'=>?_)
   rcases hnm b o' v h' with h'' | h''
   ·exact h''
   ·have:=hE.oy hr;omega
 ·intro i j b c c' hi hj Bn yM fl jd
  have old:∀ k,(k∈T∨(s.nx≤k∧k<s.nx+1))→k≠s.nx→(if k=s.nx then some (HO.spare sz n) else Hd k)≠none→∀ b c,(if k=s.nx then some (w.heap.size,cap) else ρ k)=some (b,c)→k∈T∧s.H k≠none∧ρ k=some (b,c)∧b<w.heap.size:=by
   intro k hk hne hl b c hr
   simp only [hne,if_false] at hl hr
   have Ga:k∈T:=hk.elim id (by omega)
   have hl':s.H k≠none:=by
    rcases hd k with h' | h'
    ·exact absurd h' hl
    ·rw [← h'];exact hl
   refine ⟨Ga,hl',hr,?_⟩
   cases e:s.H k with
   | none=>exact absurd e hl'
   | some o=>exact (V.entry k o Ga e).oy hr
  by_cases h:i=s.nx<;>by_cases h':j=s.nx
  ·rw [h,h']
  ·subst h
   have:=old j hj h' yM b c' jd
   simp at fl
   omega
  ·subst h'
   have:=old i hi h Bn b c fl
   simp at jd
   omega
  ·have e1:=old i hi h Bn b c fl
   have e2:=old j hj h' yM b c' jd
   exact V.apart i j b c c' e1.1 e2.1 e1.2.1 e2.2.1 e1.2.2.1 e2.2.2.1
 ·rintro b ⟨i,c,hi,hl,hr⟩
  by_cases h:i=s.nx
  ·subst h
   simp at hr
   exact .inr (by omega)
  ·simp only [h,if_false] at hl hr
   have hl':s.H i≠none:=by
    rcases hd i with h' | h'
    ·exact absurd h' hl
    ·rw [← h'];exact hl
   exact .inl ⟨i,c,hi.elim id (by omega),hl',hr⟩
theorem Ls {t u e:TypeId} {x:Operand} {l:List UInt8} (ho:o.op= .convert t u x) (hs:P.underlying t=some .string) (hd:P.underlying u=some (.slice e)) (he:P.underlying e=some (.int .u8))
  (hx:aB s.S x= .d (.val (.string ⟨l.toArray⟩))) (hn:∀ i,s.nx≤i→s.H i=none) (hl:l.length≤maxLen):
  m6 P o s (.own s.nx (l.map U)) (fun i=>if i=s.nx then some (.spare 1 l.length) else s.H i) (s.nx+1) [] []:=by
 refine ⟨by omega,fun i _ hi=>?_,fun i hi=>?_,by simp,by simp,?_⟩
 ·have:i≠s.nx:=by omega
  simp [this]
 ·have:i≠s.nx:=by omega
  simp [this,hn i (by omega)]
 intro m ρ a w K Q V hf hxs hK
 have h1:=hxs x (by simp [ho,Op.operands])
 rw [hx] at h1
 simp only [aM,bh] at h1
 have hz:(ByteArray.mk l.toArray).size=l.length:=sS l
 have hrun:=run_bytes_of_string (P:=P) w t u e ⟨l.toArray⟩ hs hd he
 have hge:=grownCap_ge w (ByteArray.mk l.toArray).size 0 e
 have Iu:=grownCap_le_maxLen w (ByteArray.mk l.toArray).size 0 e (by rw [hz];exact hl)
 have hb:bytesRow ⟨l.toArray⟩ (grownCap w (ByteArray.mk l.toArray).size 0 e)=⟨(l.map fun b=>Value.int .u8 b.toNat)++List.replicate (grownCap w (ByteArray.mk l.toArray).size 0 e-l.length) (.int .u8 0)⟩:=by
  apply Array.ext'
  simp [bytesRow,hz]
 rw [hb] at hrun
 generalize grownCap w (ByteArray.mk l.toArray).size 0 e=cap at*
 rw [hz] at hge hrun
 have hD:=Lr (s:=s) (w:=w) [] V hf (vals:=l.map fun b=>Value.int .u8 b.toNat) (rest:=List.replicate (cap-l.length) (.int .u8 0)) (sz:=1) (n:=l.length) (cap:=cap)
  (fun v hv=>by obtain ⟨b,_,rfl⟩:=List.mem_map.1 hv;rfl) (by simp) (by simp;omega) hge Iu e (((l.map fun b=>Value.int .u8 b.toNat)++List.replicate (cap-l.length) (Value.int .u8 0)).length,((l.map fun b=>Value.int .u8 b.toNat)++List.replicate (cap-l.length) (Value.int .u8 0)).length+1) (Nat.le_refl _) s.H (fun i=> .inr rfl)
 unfold Oper.wp
 have NF:(execOp a.eval o).run P w= .ok (.value (.slice (some ⟨w.heap.size,0,none⟩) l.length cap)) (w.drew.alloc (.cells ⟨(l.map fun b=>Value.int .u8 b.toNat)++List.replicate (cap-l.length) (.int .u8 0)⟩ e (((l.map fun b=>Value.int .u8 b.toNat)++List.replicate (cap-l.length) (Value.int .u8 0)).length,((l.map fun b=>Value.int .u8 b.toNat)++List.replicate (cap-l.length) (Value.int .u8 0)).length+1))):=by
  obtain ⟨dst,op',type,pos,after,guard⟩:=o
  simp only at ho
  subst ho
  simp only [execOp,h1,Sem.run_bind,hrun,Result.andThen_ok]
  rfl
 rw [NF,Oper.upon_value]
 refine hK _ _ _ _ hD ?_
 simp only [aM]
 refine .inl ⟨w.heap.size,cap,by simp,by simp,by simpa using hge,?_⟩
 refine kq (vs:=l.map fun b=>Value.int .u8 b.toNat) ?_ (fun j v hj=>by simp [Mem.with,hj])
 have:∀ bs:List UInt8,ct (m.with w.heap.size (l.map fun b=>Value.int .u8 b.toNat)) ((bs.map U).flatMap D.cells) (bs.map fun b=> .int .u8 b.toNat):=by
  intro bs
  induction bs with
  | nil=>simp [ct]
  | cons b r ih=>simp only [List.map_cons,List.flatMap_cons,U,Gf,List.singleton_append,ct,bh];exact ⟨_,_,rfl,rfl,by simpa [U] using ih⟩
 exact this l
theorem XK.UD {Q:PX→St→Prop} {t u e:TypeId} {x:Operand} {l:List UInt8} (hg:o.guard=none) (ho:o.op= .convert t u x) (hs:P.underlying t=some .string) (hd:P.underlying u=some (.slice e)) (he:P.underlying e=some (.int .u8))
  (hx:aB s.S x= .d (.val (.string ⟨l.toArray⟩))) (hl:l.length≤maxLen) (h:XK P ops r ⟨fj s.S o.dst (.own s.nx (l.map U)),cE s.H s.nx (some (.spare 1 l.length)),s.nx+1,s.df⟩ Q):XK P ops (o::r) s Q:=by
 intro hn
 have WQ:=Ls (P:=P) ho hs hd he hx hn hl
 exact .step (R:=⟨[],[],s.nx,s.nx+1⟩) (.run hg WQ) (h WQ.nil)
theorem Lt (k:Nat):IntKind.u8.wrap (k:Int)=((UInt8.ofNat k).toNat:Int):=by
 rw [IntKind.wrap_u8,UInt8.toNat_ofNat']
 omega
attribute [go_sem] Option.isSome_some Option.isSome_none Int.sub_zero
end Go.Proofs.YtlfjfoknbjcncaaGreat.K
namespace Go.Proofs.YtlfjfoknbjcncaaGreat.K
open Go Go.RowKit
variable {P:Program} {N:Nat} {ops:Array Oper} {o:Oper} {r:List Oper} {s:St}
theorem Lu {t e:TypeId} {w:World} (hu:P.underlying t=some (.slice e)) (a:Option Addr) (n c:Nat):(Op.equal t (.slice a n c) (.slice none 0 0)).run P w= .ok a.isNone w:=by
 have:∀ k,(Op.equalIn (k+1) t (.slice a n c) (.slice none 0 0)).run P w= .ok a.isNone w:=fun k=>by cases a<;>simp [Op.equalIn,run_underlying hu]
 exact this 9999
theorem Ko {t e u:TypeId} {x:Operand} {op:BinOp} (ho:o.op= .binOp op t x (.const (.slice none 0 0)) u) (hop:op= .eql∨op= .neq) (hu:P.underlying t=some (.slice e)) {l:List D} (hx:aB s.S x= .d (.slice l)):
  DT P o s fun out H' cC=>∃ b:Bool,(l≠[]→b=false)∧out= .ret (.d (.val (.bool (n9 op b))))∧H'=s.H∧cC=s.nx:=by
 intro m ρ a w K Q V hn hρ hxs h1 _
 have h2:=hxs x (by simp [ho,Op.operands])
 rw [hx] at h2
 simp only [aM,bh] at h2
 obtain ⟨ad,c,ev,_,hl⟩:=h2
 have hb:l≠[]→ad.isNone=false:=by
  intro hne
  rcases hl with rfl | ⟨b,o',rfl,_⟩
  ·exact absurd rfl hne
  ·rfl
 have NF:(execOp a.eval o).run P w= .ok (.value (.bool (n9 op ad.isNone))) w:=by
  obtain ⟨dst,op',type,pos,after,guard⟩:=o
  simp only at ho
  subst ho
  have hc:a.eval (.const (.slice none 0 0))= .slice none 0 0:=rfl
  rcases hop with rfl | rfl<;>simp [execOp,ev,hc,eqGuard,binOp,Lu hu,n9]
 unfold Oper.wp
 rw [NF,Oper.upon_value]
 exact h1 _ s.H s.nx m ρ w _ ⟨_,hb,rfl,rfl,rfl⟩ V hn hρ (nH.refl _ _ _ _ _) (by simp [aM,bh])
theorem XK.Si {Q:PX→St→Prop} {t e u:TypeId} {x:Operand} {op:BinOp} {l:List D} (hg:o.guard=none) (ho:o.op= .binOp op t x (.const (.slice none 0 0)) u) (hop:op= .eql∨op= .neq) (hu:P.underlying t=some (.slice e)) (hx:aB s.S x= .d (.slice l))
  (h:∀ b:Bool,(l≠[]→b=false)→XK P ops r ⟨fj s.S o.dst (.d (.val (.bool (n9 op b)))),s.H,s.nx,s.df⟩ Q):XK P ops (o::r) s Q:=by
 intro hn
 refine .call hg (Ko ho hop hu hx) ?_ ?_
 ·rintro p H' cC ⟨b,hb,e,rfl,rfl⟩ hn'
  cases e
  exact h b hb hn
 ·rintro p H' cC ⟨b,_,e,_⟩
  cases e
end Go.Proofs.YtlfjfoknbjcncaaGreat.K
namespace Go.Proofs.YtlfjfoknbjcncaaGreat.K
open Go Go.RowKit
variable {P:Program} {N:Nat} {ops:Array Oper} {o:Oper} {r:List Oper} {s:St}
def Xj (nx sz:Nat) (l:List D):Out→HM→Nat→Prop:=fun out H' cC=>∃ j,nx≤j∧j<cC∧out= .ret (.own j l)∧H'=fun i=>if i=j then some (.spare sz l.length) else none
def YQ (P:Program) (f:Nat) (ds:List D) (sz:Nat) (l:List D):Prop:=∀ nx,Spec P f (ds.map .d) (fun _=>none) nx (Xj nx sz l)
theorem Xk {c:Call} {f sz:Nat} {ds l:List D} (ho:o.op= .call c) (hc:c.callee= .value (.func f)) (he:aN P f=true) (hd:PV.eg (c.args.toList.map (aB s.S))=some ds) (hF:YQ P f ds sz l) (hn:∀ i,s.nx≤i→s.H i=none):
  m6 P o s (.own s.nx l) (cE s.H s.nx (some (.spare sz l.length))) (s.nx+1) [] []:=by
 refine ⟨by omega,fun i _ hi=>?_,fun i hi=>?_,by simp,by simp,?_⟩
 ·have:i≠s.nx:=by omega
  simp [cE,this]
 ·have:i≠s.nx:=by omega
  simp [cE,this,hn i (by omega)]
 intro m ρ a w K Q V hf hx hK
 have hx':∀ x∈c.args.toList,aM m ρ (aB s.S x) (a.eval x):=fun x hx'=>hx x (by simp only [ho,Op.operands,Call.operands];simp only [Array.mem_append];exact .inr (by simpa using hx'))
 unfold Oper.wp
 rw [oF ho hc he,Oper.upon_enter]
 have hr:=wM hx' hd
 have:=hF s.nx m (fun _=>none) w _ ⟨V.mem,fun i o _ h=>(by cases h),fun i j b c c' _ _ h _ _ _=>absurd rfl h⟩ (fun _ _=>rfl) (fun _ _=>rfl) (Kl hr)
 have e:(⟨c.args.toList.map a.eval⟩:Array Value)=c.args.map a.eval:=by apply Array.ext';simp
 rw [e] at this
 refine this.mono ?_
 rintro e w' ⟨out,H',cC,m',ρ',⟨j,YR,hj2,rfl,rfl⟩,V',hn',hr',hA,Ix⟩
 obtain ⟨v,rfl,hv⟩:=Ix
 have YS:ρ s.nx=none:=hf _ (Nat.le_refl _) (by omega)
 refine hK v m' (fun i=>if i=s.nx then ρ' j else ρ i) w' ⟨hA.ext.mono (by rintro b ⟨i,c,_,h,_⟩;exact absurd rfl h),fun i x e=>?_,fun i=>?_,⟨V'.mem,fun i o hi hH=>?_,fun i k b c1 c2 hi hk _ _ _ _=>?_⟩,?_⟩ ?_
 ·have:i≠s.nx:=by intro h;subst h;rw [YS] at e;cases e
  simp [this,e]
 ·by_cases h:i=s.nx
  ·exact .inr ⟨by omega,by omega⟩
  ·simp [h]
 ·have h:i=s.nx:=hi.elim (fun h=>by cases h) (by omega)
  subst h
  simp only [cE,if_true,Option.some.injEq] at hH
  subst hH
  have hE:=V'.entry j (.spare sz l.length) trivial (by simp)
  rcases hE with ⟨e1,e2⟩ | ⟨b,c1,vs,t,fr,e1,e2⟩
  ·exact .inl ⟨e1,by simp [e2]⟩
  ·exact .inr ⟨b,c1,vs,t,fr,by simp [e1],e2⟩
 ·have h1:i=s.nx:=hi.elim (fun h=>by cases h) (by omega)
  have h2:k=s.nx:=hk.elim (fun h=>by cases h) (by omega)
  rw [h1,h2]
 ·rintro b ⟨i,c1,hi,hl,fl⟩
  have h1:i=s.nx:=hi.elim (fun h=>by cases h) (by omega)
  subst h1
  simp only [if_true] at fl
  rcases hA.place b ⟨j,c1,trivial,by simp,fl⟩ with ⟨_,_,_,h,_⟩ | h
  ·exact absurd rfl h
  ·exact .inr h
 ·simp only [aM] at hv ⊢
  rcases hv with ⟨b,c1,e1,e2⟩ | h
  ·exact .inl ⟨b,c1,by simp [e1],e2⟩
  ·exact .inr h
attribute [go_sem] List.getElem?_cons_zero List.getElem?_cons_succ Int.toNat_sub
end Go.Proofs.YtlfjfoknbjcncaaGreat.K
namespace Go.Proofs.YtlfjfoknbjcncaaGreat.K
open Go Go.RowKit
variable {P:Program} {N:Nat}
structure zA (b:Nat) (m0:Mem) (kQ:cZ) (w0:World) (H0:HM) (n:Nat) (m:Mem) (ρ:cZ) (w:World) (H:HM):Prop where
 ext:Ext (vh kQ H0 fun _=>True) m0 w0 m w
 place:∀ c,vh ρ H (fun _=>True) c→vh kQ H0 (fun _=>True) c∨w0.heap.size≤c
 le:b≤n
 old:∀ i,i<b→ρ i=kQ i
theorem nH.UE {b n0 n:Nat} {m0 m:Mem} {kQ ρ:cZ} {w0 w:World} {H0 H:HM} (h:nH n0 m0 kQ w0 H0 n m ρ w H) (hb:b≤n0):zA b m0 kQ w0 H0 n m ρ w H:=
 ⟨h.ext,h.place,Nat.le_trans hb h.le,fun i hi=>h.old i (Nat.lt_of_lt_of_le hi hb)⟩
theorem zA.trans {b n1 n2:Nat} {m0 m1 m2:Mem} {kQ Fg jO:cZ} {w0 w1 w2:World} {H0 H1 H2:HM} (h:zA b m0 kQ w0 H0 n1 m1 Fg w1 H1) (k:zA b m1 Fg w1 H1 n2 m2 jO w2 H2):
  zA b m0 kQ w0 H0 n2 m2 jO w2 H2:=
 ⟨h.ext.trans k.ext h.place,fun c hc=>(k.place c hc).elim (h.place c) (fun x=> .inr (Nat.le_trans h.ext.size x)),k.le,fun i hi=>(k.old i hi).trans (h.old i hi)⟩
def Kp (N b:Nat) (m0:Mem) (kQ:cZ) (w0:World) (H0:HM) (Q:PX→St→Prop) (e:Exit) (a:Act) (w:World):Prop:=
 ∃ px s m ρ,Q px s∧RX m ρ px e∧Inv N s m ρ a w∧zA b m0 kQ w0 H0 s.nx m ρ w s.H
def QW (P:Program) (N b:Nat) (c:Code) (s:St) (Q:PX→St→Prop):Prop:=
 b≤s.nx∧∀ m ρ a w,Inv N s m ρ a w→c.wp P (Kp N b m ρ w s.H Q) a w
theorem Kp.Kq {b n1:Nat} {m0 m1:Mem} {kQ Fg:cZ} {w0 w1:World} {H0 H1:HM} {Q:PX→St→Prop} {e:Exit} {a:Act} {w:World} (hA:zA b m0 kQ w0 H0 n1 m1 Fg w1 H1)
  (h:Kp N b m1 Fg w1 H1 Q e a w):Kp N b m0 kQ w0 H0 Q e a w:=by
 obtain ⟨px,s,m,ρ,h1,h2,h3,h4⟩:=h
 exact ⟨px,s,m,ρ,h1,h2,h3,hA.trans h4⟩
variable {b:Nat}
theorem QW.region {id:Nat} {ops:Array Oper} {g:Bool} {s:St} {Q:PX→St→Prop} (hb:b≤s.nx) (h:PW P N (.region id ops g) s Q):QW P N b (.region id ops g) s Q:=by
 refine ⟨hb,fun m ρ a w hI=>wp_mono (h m ρ a w hI) ?_⟩
 rintro e a' w' ⟨px,s',m',ρ',h1,h2,h3,h4⟩
 exact ⟨px,s',m',ρ',h1,h2,h3,h4.UE hb⟩
theorem QW.seq {x y:Code} {s:St} {Q:PX→St→Prop} (h:QW P N b x s (PX.then (fun s'=>QW P N b y s' Q) Q)):QW P N b (.seq x y) s Q:=by
 refine ⟨h.1,fun m ρ a w hI=>?_⟩
 refine wp_seq (wp_mono (h.2 m ρ a w hI) ?_)
 rintro e a' w' ⟨px,s',m',ρ',hq,hr,mq,hA⟩
 cases px with
 | normal=>
  simp only [RX] at hr
  subst hr
  exact wp_mono (hq.2 m' ρ' a' w' mq) fun _ _ _ hp=>hp.Kq hA
 | exit i=>simp only [RX] at hr;subst hr;exact ⟨.exit i,s',m',ρ',hq,rfl,mq,hA⟩
 | ret=>simp only [RX] at hr;subst hr;exact ⟨.ret,s',m',ρ',hq,rfl,mq,hA⟩
 | panic p=>obtain ⟨v,rfl,hv⟩:=hr;exact ⟨.panic p,s',m',ρ',hq,⟨v,rfl,hv⟩,mq,hA⟩
theorem QW.skip {s:St} {Q:PX→St→Prop} (hb:b≤s.nx) (h:Q .normal s):QW P N b .skip s Q:=
 ⟨hb,fun m ρ _ _ hI=>wp_skip ⟨.normal,s,m,ρ,h,rfl,hI,(nH.refl _ _ _ _ _).UE hb⟩⟩
theorem QW.exit {id:Nat} {s:St} {Q:PX→St→Prop} (hb:b≤s.nx) (h:Q (.exit id) s):QW P N b (.exit id) s Q:=
 ⟨hb,fun m ρ _ _ hI=>wp_exit ⟨.exit id,s,m,ρ,h,rfl,hI,(nH.refl _ _ _ _ _).UE hb⟩⟩
theorem QW.ret {s:St} {Q:PX→St→Prop} (hb:b≤s.nx) (h:Q .ret s):QW P N b .ret s Q:=
 ⟨hb,fun m ρ _ _ hI=>wp_ret ⟨.ret,s,m,ρ,h,rfl,hI,(nH.refl _ _ _ _ _).UE hb⟩⟩
theorem QW.cond {c:Operand} {x y:Code} {s:St} {Q:PX→St→Prop} {t:Bool} (hc:aB s.S c= .d (.val (.bool t))) (hb:b≤s.nx) (h1:t=true→QW P N b x s Q) (h2:t=false→QW P N b y s Q):
  QW P N b (.cond c x y) s Q:=by
 refine ⟨hb,fun m ρ a w hI=>?_⟩
 have hr:=DS hI.slots c
 rw [hc] at hr
 simp only [aM,bh] at hr
 exact wp_cond_split hr (fun hb=>(h1 hb).2 m ρ a w hI) (fun hb=>(h2 hb).2 m ρ a w hI)
theorem QW.Gi {c:Operand} {x y:Code} {s:St} {Q:PX→St→Prop} (hc:aB s.S c= .d (.val (.bool true))) (h1:QW P N b x s Q):QW P N b (.cond c x y) s Q:=
 QW.cond hc h1.1 (fun _=>h1) (fun h=>nomatch h)
theorem QW.NG {c:Operand} {x y:Code} {s:St} {Q:PX→St→Prop} (hc:aB s.S c= .d (.val (.bool false))) (h1:QW P N b y s Q):QW P N b (.cond c x y) s Q:=
 QW.cond hc h1.1 (fun h=>nomatch h) (fun _=>h1)
theorem QW.block {id:Nat} {c:Code} {s:St} {Q:PX→St→Prop} (h:QW P N b c s (PX.inBlock id Q)):QW P N b (.block id c) s Q:=by
 refine ⟨h.1,fun m ρ a w hI=>?_⟩
 refine wp_block (wp_mono (h.2 m ρ a w hI) ?_)
 rintro e a' w' ⟨px,s',m',ρ',hq,hr,mq,hA⟩
 cases px with
 | normal=>simp only [RX] at hr;subst hr;exact ⟨.normal,s',m',ρ',hq,rfl,mq,hA⟩
 | exit i=>
  simp only [RX] at hr;subst hr
  simp only [PX.inBlock] at hq
  simp only [Exit.inBlock]
  split
  ·rename_i he
   rw [if_pos he] at hq
   exact ⟨.normal,s',m',ρ',hq,rfl,mq,hA⟩
  ·rename_i he
   rw [if_neg he] at hq
   exact ⟨.exit i,s',m',ρ',hq,rfl,mq,hA⟩
 | ret=>simp only [RX] at hr;subst hr;exact ⟨.ret,s',m',ρ',hq,rfl,mq,hA⟩
 | panic p=>obtain ⟨v,rfl,hv⟩:=hr;exact ⟨.panic p,s',m',ρ',hq,⟨v,rfl,hv⟩,mq,hA⟩
def View (N b:Nat) (s s':St):Prop:=
 ∀ m ρ a w,Inv N s m ρ a w→∃ m' ρ',Inv N s' m' ρ' a w∧zA b m ρ w s.H s'.nx m' ρ' w s'.H
theorem View.of {s s':St} (hb:b≤s'.nx) (h:∀ m ρ a w,Inv N s m ρ a w→∃ ρ',Inv N s' m ρ' a w∧(∀ c,vh ρ' s'.H (fun _=>True) c→vh ρ s.H (fun _=>True) c)∧∀ i,i<b→ρ' i=ρ i):View N b s s':=by
 intro m ρ a w hI
 obtain ⟨ρ',mq,hB,ho⟩:=h m ρ a w hI
 exact ⟨m,ρ',mq,⟨Ext.refl _ _ _,fun c hc=> .inl (hB c hc),hb,ho⟩⟩
theorem QW.view {c:Code} {s s':St} {Q:PX→St→Prop} (hv:View N b s s') (hb:b≤s.nx) (h:QW P N b c s' Q):QW P N b c s Q:=by
 refine ⟨hb,fun m ρ a w hI=>?_⟩
 obtain ⟨m',ρ',mq,hA⟩:=hv m ρ a w hI
 exact wp_mono (h.2 m' ρ' a w mq) fun _ _ _ hp=>hp.Kq hA
theorem View.refl {s:St} (h:b≤s.nx):View N b s s:=View.of h fun _ ρ _ _ hI=>⟨ρ,hI,fun _ h=>h,fun _ _=>rfl⟩
theorem QW.loop {c:Code} {s:St} {Q:PX→St→Prop} (I:Nat→St→Prop) (k:Nat) (hb:b≤s.nx) (h0:∃ s0,View N b s s0∧I k s0) (round:∀ k s,I k s→QW P N b c s (PX.then (fun s'=>∃ j,j<k∧∃ s'',View N b s' s''∧I j s'') Q)):QW P N b (.loop c) s Q:=by
 refine ⟨hb,fun m ρ a w hI=>?_⟩
 let R:Act→World→Nat→Prop:=fun a' w' k=>∃ s' m' ρ',I k s'∧Inv N s' m' ρ' a' w'∧zA b m ρ w s.H s'.nx m' ρ' w' s'.H
 have hex:R a w k:=by
  obtain ⟨s0,hv,hi⟩:=h0
  obtain ⟨m',ρ',mq,hA⟩:=hv m ρ a w hI
  exact ⟨s0,m',ρ',hi,mq,hA⟩
 open Classical in
 refine wp_loop (fun a' w'=>∃ k,R a' w' k) (fun a' w'=>if h:∃ k,R a' w' k∧∀ j,R a' w' j→k≤j then Classical.choose h else 0) ⟨_,hex⟩ ?_
 intro a1 w1 h1
 obtain ⟨k1,CS⟩:=h1
 have h1:=least k1 CS
 have Sj:=Classical.choose_spec h1
 generalize hk:Classical.choose h1=kk at Sj
 obtain ⟨⟨s1,m1,Fg,i1,v1,A1⟩,hmin⟩:=Sj
 refine wp_mono ((round kk s1 i1).2 m1 Fg a1 w1 v1) ?_
 rintro e a' w' ⟨px,s',m',ρ',hq,hr,mq,hA⟩
 cases px with
 | normal=>
  simp only [RX] at hr;subst hr
  obtain ⟨j,hlt,s'',hv,hi⟩:=hq
  obtain ⟨m2,jO,zO,DY⟩:=hv m' ρ' a' w' mq
  have R7:R a' w' j:=⟨s'',m2,jO,hi,zO,(A1.trans hA).trans DY⟩
  have h2:=least _ R7
  refine ⟨⟨_,R7⟩,?_⟩
  simp only [dif_pos h1,dif_pos h2,hk]
  have:=(Classical.choose_spec h2).2 _ R7
  omega
 | exit i=>simp only [RX] at hr;subst hr;exact ⟨.exit i,s',m',ρ',hq,rfl,mq,A1.trans hA⟩
 | ret=>simp only [RX] at hr;subst hr;exact ⟨.ret,s',m',ρ',hq,rfl,mq,A1.trans hA⟩
 | panic p=>obtain ⟨v,rfl,hv⟩:=hr;exact ⟨.panic p,s',m',ρ',hq,⟨v,rfl,hv⟩,mq,A1.trans hA⟩
mutual
def PV.re (f:Nat→Nat):PV→PV
 | .d x=> .d x
 | .full l=> .full l
 | .own id l=> .own (f id) l
 | .aK id off=> .aK (f id) off
 | .gA id off n=> .gA (f id) off n
 | .room id n=> .room (f id) n
 | .gT g l=> .gT g (PV.res f l)
 | .agg l=> .agg (PV.res f l)
 | .tuple l=> .tuple (PV.res f l)
 | .cond g p=> .cond g (PV.re f p)
 | .dJ=> .dJ
def PV.res (f:Nat→Nat):List PV→List PV
 | []=>[]
 | x::r=>PV.re f x::PV.res f r
end
theorem PV.bR (f:Nat→Nat):∀ l:List D,PV.res f (l.map .d)=l.map .d
 | []=>rfl
 | x::r=>by simp only [List.map_cons,PV.res,PV.re,PV.bR f r]
mutual
theorem aM.re {m:Mem} {ρ:cZ} {f:Nat→Nat}:∀ (p:PV) (v:Value),aM m ρ (p.re f) v→aM m (fun i=>ρ (f i)) p v
 | .d x,v,e=>by simpa [PV.re,aM] using e
 | .full l,v,e=>by simpa [PV.re,aM] using e
 | .own id l,v,e=>by simpa [PV.re,aM] using e
 | .aK id off,v,e=>by simpa [PV.re,aM] using e
 | .gA id off n,v,e=>by simpa [PV.re,aM] using e
 | .room id n,v,e=>by simpa [PV.re,aM] using e
 | .gT g l,v,e=>by
  simp only [PV.re,aM] at e ⊢
  obtain ⟨vs,e1,e2⟩:=e
  exact ⟨vs,e1,bM.re l vs e2⟩
 | .agg l,v,e=>by
  simp only [PV.re,aM] at e ⊢
  obtain ⟨vs,e1,e2,e3⟩:=e
  exact ⟨vs,e1,bM.re l vs e2,e3⟩
 | .tuple l,v,e=>by
  simp only [PV.re,aM] at e ⊢
  obtain ⟨vs,e1,e2⟩:=e
  exact ⟨vs,e1,bM.re l vs e2⟩
 | .cond g p,v,e=>by
  simp only [PV.re,aM] at e ⊢
  exact ⟨fun h=>aM.re p v (e.1 h),e.2⟩
 | .dJ,v,e=>by simp [aM]
theorem bM.re {m:Mem} {ρ:cZ} {f:Nat→Nat}:∀ (l:List PV) (vs:List Value),bM m ρ (PV.res f l) vs→bM m (fun i=>ρ (f i)) l vs
 | [],vs,e=>by simpa [PV.res,bM] using e
 | x::r,vs,e=>by
  simp only [PV.res,bM] at e ⊢
  obtain ⟨v,vr,e1,e2,e3⟩:=e
  exact ⟨v,vr,e1,aM.re x v e2,bM.re r vr e3⟩
end
def HO.re (f:Nat→Nat):HO→HO
 | .var l=> .var (PV.res f l)
 | .spare sz n=> .spare sz n
 | .dead=> .dead
 | .Bm sz l=> .Bm sz (PV.res f l)
def Sk (f:Nat→Nat):List (Nat×List PV)→List (Nat×List PV)
 | []=>[]
 | x::r=>(x.1,PV.res f x.2)::Sk f r
theorem wJ.re {m:Mem} {ρ:cZ} {f:Nat→Nat}:∀ (l:List (Nat×List PV)) (ds:List Deferred),wJ m ρ (Sk f l) ds→wJ m (fun i=>ρ (f i)) l ds
 | [],_,h=>h
 | x::r,_,h=>by
  obtain ⟨d,l',e1,e2,e3,e4⟩:=h
  exact ⟨d,l',e1,e2,bM.re _ _ e3,wJ.re r l' e4⟩
def iy (p q:PV):Prop:=∀ m ρ v,aM m ρ p v→aM m ρ q v
theorem iy.refl {p:PV}:iy p p:=fun _ _ _ h=>h
theorem iy.cW {p:PV} {x:D} (h:p.cW=some x):iy p (.d x):=fun _ _ v e=>by
 simp only [aM];exact aM.cW p x v h e
def aF:List (Nat×PV)→Nat→PV
 | [],_=> .dJ
 | x::r,t=>if t=x.1 then x.2 else aF r t
def lv:HO→Option HO
 | .var l=>some (.var l)
 | .spare a b=>some (.spare a b)
 | .dead=>none
 | .Bm a l=>some (.Bm a l)
theorem C3 {x o:HO} (h:lv x=some o):x=o:=by
 cases x<;>simp only [lv,Option.some.injEq,reduceCtorEq] at h<;>exact h
theorem Xl {f:Nat→Nat} {x o:HO} (h:lv x=some o):lv (x.re f)=some (o.re f):=by
 have:=C3 h
 subst this
 cases x<;>first | rfl | simp [lv] at h
def aj:List HO→Nat→Option HO
 | [],_=>none
 | x::_,0=>lv x
 | _::r,i+1=>aj r i
def AtR (f:Nat→Nat) (S:Nat→PV):List (Nat×PV)→Prop
 | []=>True
 | x::r=>iy (S x.1) (x.2.re f)∧AtR f S r
def cF (f:Nat→Nat) (H:HM) (i:Nat):HO→Prop
 | .var l=>H (f i)=some (.var (PV.res f l))
 | .spare a b=>H (f i)=some (.spare a b)
 | .dead=>True
 | .Bm a l=>H (f i)=some (.Bm a (PV.res f l))
def Sl (f:Nat→Nat) (H:HM):List HO→Nat→Prop
 | [],_=>True
 | x::r,i=>cF f H i x∧Sl f H r (i+1)
def wR (f:Nat→Nat) (H:HM):List HO→Nat→Prop
 | [],_=>True
 | x::r,i=>H (f i)=some (x.re f)∧wR f H r (i+1)
theorem Pm {f:Nat→Nat} {S:Nat→PV} {m:Mem} {ρ:cZ} {t:Nat} {v:Value} (h:aM m ρ (S t) v):∀ (L:List (Nat×PV)),AtR f S L→aM m (fun i=>ρ (f i)) (aF L t) v
 | [],_=>by simp [aF,aM]
 | x::r,hL=>by
  unfold aF
  split
  ·rename_i e
   subst e
   exact aM.re _ _ (hL.1 _ _ _ h)
  ·exact Pm h r hL.2
theorem I1 {f:Nat→Nat} {H:HM}:∀ (M:List HO) (k i:Nat) (o:HO),Sl f H M k→aj M i=some o→i<M.length∧H (f (k+i))=some (o.re f)
 | [],_,_,_,_,h=>by simp [aj] at h
 | x::r,k,0,o,hM,h=>by
  simp only [aj] at h
  have e:=C3 h
  subst e
  refine ⟨by simp,?_⟩
  have h1:=hM.1
  cases x with
  | var l=>exact h1
  | spare a b=>exact h1
  | dead=>simp [lv] at h
  | Bm a l=>exact h1
 | x::r,k,i+1,o,hM,h=>by
  have:=I1 r (k+1) i o hM.2 h
  exact ⟨by simp;omega,by rw [show k+(i+1)=k+1+i by omega];exact this.2⟩
theorem Gj {f:Nat→Nat} {H:HM}:∀ (M:List HO) (k i:Nat) (o:HO),wR f H M k→aj M i=some o→i<M.length∧H (f (k+i))=some (o.re f)
 | [],_,_,_,_,h=>by simp [aj] at h
 | x::r,k,0,o,hM,h=>by
  simp only [aj] at h
  have e:=C3 h
  subst e
  exact ⟨by simp,hM.1⟩
 | x::r,k,i+1,o,hM,h=>by
  have:=Gj r (k+1) i o hM.2 h
  exact ⟨by simp;omega,by rw [show k+(i+1)=k+1+i by omega];exact this.2⟩
theorem I2 {f:Nat→Nat} {H:HM}:∀ (M:List HO) (j k:Nat) (x:HO),wR f H M j→M[k]? =some x→H (f (j+k))=some (x.re f)
 | [],_,_,_,_,h=>by simp at h
 | y::r,j,0,x,h,e=>by simp only [List.getElem?_cons_zero,Option.some.injEq] at e;subst e;exact h.1
 | y::r,j,k+1,x,h,e=>by
  have:=I2 r (j+1) k x h.2 (by simpa using e)
  rwa [show j+1+k=j+(k+1) by omega] at this
def iI (F:List Nat) (nx i:Nat):Nat:=F.getD i (nx+i)
theorem fX.re {m:Mem} {ρ ρ':cZ} {w:World} {i j:Nat} {f:Nat→Nat} {o:HO} (hr:ρ' i=ρ j) (hρ:∀ p v,aM m ρ (PV.re f p) v→aM m ρ' p v) (h:fX m ρ w j (o.re f)):fX m ρ' w i o:=by
 cases o with
 | var l=>
  simp only [HO.re,fX] at h ⊢
  rcases h with ⟨e0,e⟩ | ⟨b,c,vs,tail,t,e1,e2,e3,e4⟩
  ·exact .inl ⟨by cases l with | nil=>rfl | cons x r=>simp [PV.res] at e0,by rw [hr];exact e⟩
  refine .inr ⟨b,c,vs,tail,t,by rw [hr];exact e1,e2,?_,e4⟩
  have:∀ (l:List PV) (vs:List Value),bM m ρ (PV.res f l) vs→bM m ρ' l vs:=by
   intro l
   induction l with
   | nil=>intro vs h;simpa [PV.res,bM] using h
   | cons x r ih=>
    intro vs h
    simp only [PV.res,bM] at h ⊢
    obtain ⟨v,vr,e1,e2,e3⟩:=h
    exact ⟨v,vr,e1,hρ _ _ e2,ih _ e3⟩
  exact this l vs e3
 | spare sz n=>
  simp only [HO.re,fX] at h ⊢
  rw [hr]
  exact h
 | dead=>exact h.elim
 | Bm sz l=>
  simp only [HO.re,fX] at h ⊢
  rcases h with ⟨e0,e⟩ | ⟨b,c,vs,tail,t,e1,e2,e3,e4⟩
  ·exact .inl ⟨by cases l with | nil=>rfl | cons x r=>simp [PV.res] at e0,by rw [hr];exact e⟩
  refine .inr ⟨b,c,vs,tail,t,by rw [hr];exact e1,e2,?_,e4⟩
  have:∀ (l:List PV) (vs:List Value),bM m ρ (PV.res f l) vs→bM m ρ' l vs:=by
   intro l
   induction l with
   | nil=>intro vs h;simpa [PV.res,bM] using h
   | cons x r ih=>
    intro vs h
    simp only [PV.res,bM] at h ⊢
    obtain ⟨v,vr,e1,e2,e3⟩:=h
    exact ⟨v,vr,e1,hρ _ _ e2,ih _ e3⟩
  exact this l vs e3
theorem View.mk {s:St} (n:Nat) (F:List Nat) (L:List (Nat×PV)) (M:List HO) (df:List (Nat×List PV)) (hn:M.length=n) (hF:F.length=M.length) (hd:F.Nodup) (hS:AtR (iI F s.nx) s.S L) (hH:Sl (iI F s.nx) s.H M 0) (hdf:s.df=Sk (iI F s.nx) df)
  (hb:b≤M.length) (YT:F.take b=List.range b):View N b s ⟨aF L,aj M,n,df⟩:=by
 subst hn
 refine View.of hb fun m ρ a w hI=>?_
 have Gk:∀ i,M.length≤i→ρ (iI F s.nx i)=none:=by
  intro i hi
  have:iI F s.nx i=s.nx+i:=by
   unfold iI
   rw [List.getD_eq_getElem?_getD,List.getElem?_eq_none (by omega)];rfl
  rw [this]
  exact hI.nQ _ (Nat.le_add_right _ _)
 have Fm:∀ i,i<M.length→∃ x,F[i]? =some x∧iI F s.nx i=x:=by
  intro i hi
  refine ⟨F[i]'(by omega),List.getElem?_eq_getElem (by omega),?_⟩
  unfold iI
  rw [List.getD_eq_getElem?_getD,List.getElem?_eq_getElem (by omega)];rfl
 have DZ:∀ i o,aj M i=some o→i<M.length∧s.H (iI F s.nx i)=some (o.re (iI F s.nx)):=by
  intro i o h
  have:=I1 M 0 i o hH h
  rw [Nat.zero_add] at this
  exact this
 have hne:∀ i,aj M i≠none→i<M.length∧s.H (iI F s.nx i)≠none:=by
  intro i h
  cases hh:aj M i with
  | none=>exact absurd hh h
  | some o=>have:=DZ i o hh;exact ⟨this.1,by rw [this.2];simp⟩
 refine ⟨fun i=>ρ (iI F s.nx i),⟨hI.size,?_,?_,⟨hI.valid.mem,?_,?_⟩,?_,Gk⟩,?_,?_⟩
 ·have:=hI.defers
  rw [hdf] at this
  exact wJ.re df _ this
 ·intro t
  exact Pm (hI.slots t) L hS
 ·intro i o _ ho
  have:=DZ i o ho
  exact fX.re rfl (fun p v h=>aM.re p v h) (hI.valid.entry _ _ trivial this.2)
 ·intro i j c d d' _ _ hi hj fl jd
  have h1:=hne i hi
  have h2:=hne j hj
  have:=hI.valid.apart _ _ _ _ _ trivial trivial h1.2 h2.2 fl jd
  obtain ⟨x,hx,ex⟩:=Fm i h1.1
  obtain ⟨y,hy,ey⟩:=Fm j h2.1
  rw [ex,ey] at this
  subst this
  have e1:=List.getElem?_eq_some_iff.1 hx
  have e2:=List.getElem?_eq_some_iff.1 hy
  obtain ⟨l1,e1⟩:=e1
  obtain ⟨l2,e2⟩:=e2
  exact (List.getElem_inj hd).1 (e1.trans e2.symm)
 ·intro i hi
  cases hh:aj M i with
  | none=>exact hh
  | some o=>have:=(DZ i o hh).1;have hi':M.length≤i:=hi;omega
 ·rintro c ⟨i,d,_,hl,hr⟩
  exact ⟨iI F s.nx i,d,trivial,(hne i hl).2,hr⟩
 ·intro i hi
  have h1:F[i]? =some i:=by
   have h2:(F.take b)[i]? =(List.range b)[i]? :=by rw [YT]
   rw [List.getElem?_take,if_pos hi,List.getElem?_range hi] at h2
   exact h2
  show ρ (iI F s.nx i)=ρ i
  unfold iI
  rw [List.getD_eq_getElem?_getD,h1];rfl
theorem bE.aU {f:Nat} {fn:Func} {c:Code} {args:List D} {res:D} (hf:P.funcs[f]? =some fn) (hb:fn.body=some c) (hN:args.length≤fn.ntmps)
  (h:QW P fn.ntmps 0 c ⟨yO args,fun _=>none,0,[]⟩ (Ends P fn.results.toList fun p=>p.cW=some res)):bE P f args res:=by
 intro m w vs hm hr
 refine calls_of_wp hf hb (wp_mono (h.2 m _ _ w (IZ hm hr hN)) ?_)
 rintro e a w' ⟨px,s,m',ρ',⟨hpx,hdf,hres,hp⟩,sw,hI,hA⟩
 obtain ⟨v,hv,iQ⟩:=nI (P:=P) hI hres
 have hd:=hI.defers
 rw [hdf] at hd
 have hE:Ext (fun _=>False) m w m' w':=hA.ext.mono (by rintro b ⟨i,c,_,h,_⟩;exact absurd rfl h)
 have key:a.defers=[]∧∃ v,(results fn a.tmps).run P w'= .ok v w'∧∃ v_1 m',Ending.returned v= .returned v_1∧bh m' res v_1∧ga m' w'∧Ext (fun _=>False) m w m' w':=
  ⟨hd,v,hv,v,m',rfl,aM.cW _ _ _ hp iQ,hI.valid.mem,hE⟩
 rcases hpx with rfl | rfl<;>simp only [RX] at sw<;>subst sw<;>exact key
theorem zA.NH {n0 n:Nat} {m0 m:Mem} {kQ ρ:cZ} {w0 w:World} {H0 H:HM} (h:zA n0 m0 kQ w0 H0 n m ρ w H) (hρ:∀ i,n0≤i→kQ i=none):nH n0 m0 kQ w0 H0 n m ρ w H:=
 ⟨h.ext,fun i x e=>by
  rcases Nat.lt_or_ge i n0 with h1 | h1
  ·rw [h.old i h1,e]
  ·rw [hρ i h1] at e;exact absurd e (by simp),h.place,h.le,h.old⟩
end Go.Proofs.YtlfjfoknbjcncaaGreat.K
namespace Go.Proofs.YtlfjfoknbjcncaaGreat.K
open Go Go.RowKit
variable {P:Program} {N:Nat} {ops:Array Oper} {o:Oper} {r:List Oper} {s:St}
theorem m6.imp {o:Oper} {s:St} {v v':PV} {H':HM} {cC:Nat} {T W:List Nat} (h:m6 P o s v H' cC T W) (hi:iy v v'):m6 P o s v' H' cC T W:=
 ⟨h.le,h.keep,h.nil,h.sub,h.old,fun m ρ a w K Q V hf hx hK=>h.sem m ρ a w K Q V hf hx fun u m' ρ' w' hD hr=>hK u m' ρ' w' hD (hi _ _ _ hr)⟩
section
variable {S:Nat→PV} {H:HM} {nx:Nat} {df:List (Nat×List PV)}
theorem XK.st {Q:PX→St→Prop} (d:Option Nat) (hd:o.dst=d) (hg:o.guard=none) (h:aR P [] o ⟨S,H,nx,df⟩ fun v H' cC _ _=>XK P ops r ⟨fj S d v,H',cC,df⟩ Q):XK P ops (o::r) ⟨S,H,nx,df⟩ Q:=by subst hd;exact XK.step hg h
theorem RK.st {acc:List Rec} {K:St→List Rec→Prop} (d:Option Nat) (hd:o.dst=d) (hg:o.guard=none) (h:aR P [] o ⟨S,H,nx,df⟩ fun v H' cC T W=>RK P ops r ⟨fj S d v,H',cC,df⟩ (⟨T,W,nx,cC⟩::acc) K):RK P ops (o::r) ⟨S,H,nx,df⟩ acc K:=by subst hd;exact RK.step hg h
theorem RQ.st {Q:St→Prop} (d:Option Nat) (hd:o.dst=d) (hg:o.guard=none) (h:aR P [] o ⟨S,H,nx,df⟩ fun v H' cC _ W=>(W=[]∧cC=nx)∧RQ P ops r ⟨fj S d v,H',cC,df⟩ Q):RQ P ops (o::r) ⟨S,H,nx,df⟩ Q:=by subst hd;exact RQ.step hg h
theorem XK.as {Q:PX→St→Prop} (d:Option Nat) (hd:o.dst=d) (hg:o.guard=none) (h:aR P [] o ⟨S,H,nx,df⟩ fun v H' cC _ _=>∃ v',iy v v'∧XK P ops r ⟨fj S d v',H',cC,df⟩ Q):XK P ops (o::r) ⟨S,H,nx,df⟩ Q:=by
 intro hn
 subst hd
 obtain ⟨v,H',cC,T,W,h1,v',h2,h3⟩:=k9 hn h
 exact .step (.run hg (h1.imp h2)) (h3 h1.nil)
theorem RK.as {acc:List Rec} {K:St→List Rec→Prop} (d:Option Nat) (hd:o.dst=d) (hg:o.guard=none) (h:aR P [] o ⟨S,H,nx,df⟩ fun v H' cC T W=>∃ v',iy v v'∧RK P ops r ⟨fj S d v',H',cC,df⟩ (⟨T,W,nx,cC⟩::acc) K):RK P ops (o::r) ⟨S,H,nx,df⟩ acc K:=by
 intro hn
 subst hd
 obtain ⟨v,H',cC,T,W,h1,v',h2,h3⟩:=k9 hn h
 obtain ⟨s',L,h4,h5⟩:=h3 h1.nil
 exact ⟨s',_, .cons (.run hg (h1.imp h2)) h4,by simpa using h5⟩
theorem XK.fz {Q:PX→St→Prop} (d:Option Nat) (hd:o.dst=d) (hg:o.guard=none) (h:aR P d.toList o ⟨S,H,nx,df⟩ fun v H' cC _ _=>XK P ops r ⟨fj S d v,H',cC,df⟩ Q):XK P ops (o::r) ⟨S,H,nx,df⟩ Q:=by subst hd;exact XK.frozen hg h
end
section
variable {S:Nat→PV} {H:HM} {nx:Nat} {df:List (Nat×List PV)}
variable {eB:List Nat} {k:PV→HM→Nat→List Nat→List Nat→Prop}
theorem au {x:Operand} {v:PV} (ho:o.op= .move x) (hx:aB S x=v) (hk:k v H nx [] []):aR P eB o ⟨S,H,nx,df⟩ k:=by
 unfold aR;rw [ho];subst hx;exact ⟨trivial,hk⟩
theorem cq {x:Operand} {v:PV} (ho:o.op= .assign x) (hx:aB S x=v) (hk:k v H nx [] []):aR P eB o ⟨S,H,nx,df⟩ k:=by
 unfold aR;rw [ho];subst hx;exact ⟨trivial,hk⟩
theorem mz {x:Operand} {v:PV} (ho:o.op= .nilCheck x) (hx:aB S x=v) (hv:B5 v=true) (hk:k v H nx [] []):aR P eB o ⟨S,H,nx,df⟩ k:=by
 unfold aR;rw [ho];subst hx
 obtain ⟨h1,h2⟩:=Nn hv
 refine ⟨h2,?_⟩
 show k (AR (aB S x)) H nx [] []
 rw [h1];exact hk
theorem dA {x:Operand} {z:Bool} {l:List D} (ho:o.op= .nilCheck x) (hx:aB S x= .d (.l5 z l)) (hz:z=false) (hk:k (.d (.cr l)) H nx [] []):aR P eB o ⟨S,H,nx,df⟩ k:=by
 unfold aR;rw [ho];simp only [jD,hx];exact ⟨hz,hk⟩
def bA (n:Int):Prop:= -9223372036854775808≤n∧n≤9223372036854775807
instance (n:Int):Decidable (bA n):=by unfold bA;exact inferInstance
theorem tO {n:Int} (h:bA n):IntKind.i64.wrap n=n:=wrap_i64 h
theorem gr {op:BinOp} {t u:TypeId} {x y:Operand} {p q v:PV} (ho:o.op= .binOp op t x y u) (hx:aB S x=p) (hy:aB S y=q) (hop:isEq op=false) (hv:(bin op p q).2) (he:(bin op p q).1=v) (hk:k v H nx [] []):aR P eB o ⟨S,H,nx,df⟩ k:=by
 unfold aR;rw [ho]
 subst hx hy he
 cases op<;>first | (exact absurd hop (by decide)) | exact ⟨hv,hk⟩
theorem bY {t u:TypeId} {x y:Operand} {a b:Int} (ho:o.op= .binOp .add t x y u) (hx:aB S x= .d (.val (.int .i64 a))) (hy:aB S y= .d (.val (.int .i64 b))) (h:bA (a+b)) (hk:k (.d (.val (.int .i64 (a+b)))) H nx [] []):aR P eB o ⟨S,H,nx,df⟩ k:=
 gr ho hx hy rfl rfl (by show PV.d (.val (.int .i64 (IntKind.i64.wrap (a+b))))=_;rw [tO h]) hk
theorem nJ {t u:TypeId} {x y:Operand} {a b:Int} (ho:o.op= .binOp .sub t x y u) (hx:aB S x= .d (.val (.int .i64 a))) (hy:aB S y= .d (.val (.int .i64 b))) (h:bA (a-b)) (hk:k (.d (.val (.int .i64 (a-b)))) H nx [] []):aR P eB o ⟨S,H,nx,df⟩ k:=
 gr ho hx hy rfl rfl (by show PV.d (.val (.int .i64 (IntKind.i64.wrap (a-b))))=_;rw [tO h]) hk
theorem AV {t u:TypeId} {x y:Operand} {a b:Int} (ho:o.op= .binOp .mul t x y u) (hx:aB S x= .d (.val (.int .i64 a))) (hy:aB S y= .d (.val (.int .i64 b))) (h:bA (a*b)) (hk:k (.d (.val (.int .i64 (a*b)))) H nx [] []):aR P eB o ⟨S,H,nx,df⟩ k:=
 gr ho hx hy rfl rfl (by show PV.d (.val (.int .i64 (IntKind.i64.wrap (a*b))))=_;rw [tO h]) hk
theorem FJ {t u:TypeId} {x y:Operand} {a b:Int} (ho:o.op= .binOp .quo t x y u) (hx:aB S x= .d (.val (.int .i64 a))) (hy:aB S y= .d (.val (.int .i64 b))) (h:b≠0∧bA (a.tdiv b)) (hk:k (.d (.val (.int .i64 (a.tdiv b)))) H nx [] []):aR P eB o ⟨S,H,nx,df⟩ k:=
 gr ho hx hy rfl ⟨rfl,h.1⟩ (by show PV.d (.val (.int .i64 (IntKind.i64.wrap (a.tdiv b))))=_;rw [tO h.2]) hk
theorem wS {t u:TypeId} {x y:Operand} {a b:Int} (ho:o.op= .binOp .rem t x y u) (hx:aB S x= .d (.val (.int .i64 a))) (hy:aB S y= .d (.val (.int .i64 b))) (h:b≠0) (hk:k (.d (.val (.int .i64 (a.tmod b)))) H nx [] []):aR P eB o ⟨S,H,nx,df⟩ k:=
 gr ho hx hy rfl ⟨rfl,h⟩ rfl hk
def NI (a b:Int):Int:=IntKind.i64.wrap (BitVec.ofInt 64 a||| BitVec.ofInt 64 b).toNat
theorem Xm {t u:TypeId} {x y:Operand} {a b:Int} (ho:o.op= .binOp .or t x y u) (hx:aB S x= .d (.val (.int .i64 a))) (hy:aB S y= .d (.val (.int .i64 b))) (hk:k (.d (.val (.int .i64 (NI a b)))) H nx [] []):aR P eB o ⟨S,H,nx,df⟩ k:=
 gr ho hx hy rfl rfl rfl hk
def wT (a b:Int):Int:=a*2 ^ (min b.toNat 64)
def Gl (a b:Int):Int:=a.fdiv (2 ^ (min b.toNat 64))
theorem UF {t u:TypeId} {x y:Operand} {a b:Int} {k':IntKind} (ho:o.op= .binOp .shl t x y u) (hx:aB S x= .d (.val (.int .i64 a))) (hy:aB S y= .d (.val (.int k' b))) (h:0≤b∧bA (wT a b)) (hk:k (.d (.val (.int .i64 (wT a b)))) H nx [] []):aR P eB o ⟨S,H,nx,df⟩ k:=
 gr ho hx hy rfl h.1 (by show PV.d (.val (.int .i64 (IntKind.i64.wrap (wT a b))))=_;rw [tO h.2]) hk
theorem UG {t u:TypeId} {x y:Operand} {a b:Int} {k':IntKind} (ho:o.op= .binOp .shr t x y u) (hx:aB S x= .d (.val (.int .i64 a))) (hy:aB S y= .d (.val (.int k' b))) (h:0≤b) (hk:k (.d (.val (.int .i64 (Gl a b)))) H nx [] []):aR P eB o ⟨S,H,nx,df⟩ k:=
 gr ho hx hy rfl h rfl hk
theorem cK {t u:TypeId} {x y:Operand} {a b:Int} {kd:IntKind} (ho:o.op= .binOp .lss t x y u) (hx:aB S x= .d (.val (.int kd a))) (hy:aB S y= .d (.val (.int kd b))) (hk:k (.d (.val (.bool (decide (a<b))))) H nx [] []):aR P eB o ⟨S,H,nx,df⟩ k:=
 gr ho hx hy rfl rfl rfl hk
theorem yQ {t u:TypeId} {x y:Operand} {a b:Int} {kd:IntKind} (ho:o.op= .binOp .leq t x y u) (hx:aB S x= .d (.val (.int kd a))) (hy:aB S y= .d (.val (.int kd b))) (hk:k (.d (.val (.bool (decide (a≤b))))) H nx [] []):aR P eB o ⟨S,H,nx,df⟩ k:=
 gr ho hx hy rfl rfl rfl hk
theorem oh {t u:TypeId} {x y:Operand} {a b:Int} {kd:IntKind} (ho:o.op= .binOp .gtr t x y u) (hx:aB S x= .d (.val (.int kd a))) (hy:aB S y= .d (.val (.int kd b))) (hk:k (.d (.val (.bool (decide (b<a))))) H nx [] []):aR P eB o ⟨S,H,nx,df⟩ k:=
 gr ho hx hy rfl rfl rfl hk
theorem wU {t u:TypeId} {x y:Operand} {a b:Int} {kd:IntKind} (ho:o.op= .binOp .geq t x y u) (hx:aB S x= .d (.val (.int kd a))) (hy:aB S y= .d (.val (.int kd b))) (hk:k (.d (.val (.bool (decide (b≤a))))) H nx [] []):aR P eB o ⟨S,H,nx,df⟩ k:=
 gr ho hx hy rfl rfl rfl hk
theorem I3 {t:TypeId} {kd Bo:IntKind} {a b:Int}:x4 P t (.d (.val (.int kd a))) (.d (.val (.int Bo b)))=none:=by
 unfold x4;split<;>simp_all
theorem I4 {t:TypeId} {a b:ByteArray}:x4 P t (.d (.val (.string a))) (.d (.val (.string b)))=none:=by
 unfold x4;split<;>simp_all
theorem Pn {op:BinOp} {t u:TypeId} {x y:Operand} {a b:Int} {kd:IntKind} {c:Bool} (ho:o.op= .binOp op t x y u) (hx:aB S x= .d (.val (.int kd a))) (hy:aB S y= .d (.val (.int kd b))) (hop:(op= .eql∧c=decide (a=b))∨(op= .neq∧c= !decide (a=b)))
  (hk:k (.d (.val (.bool c))) H nx [] []):aR P eB o ⟨S,H,nx,df⟩ k:=by
 unfold aR;rw [ho]
 rcases hop with ⟨rfl,rfl⟩ | ⟨rfl,rfl⟩
 ·simp only [isEq,zy,hx,hy,Bool.and_false,Bool.false_eq_true,if_false,vo,I3]
  exact ⟨rfl,hk⟩
 ·simp only [isEq,zy,hx,hy,Bool.and_false,Bool.false_eq_true,if_false,vo,I3]
  exact ⟨rfl,hk⟩
theorem ej {t u:TypeId} {x y:Operand} {a b:Int} {kd:IntKind} (ho:o.op= .binOp .eql t x y u) (hx:aB S x= .d (.val (.int kd a))) (hy:aB S y= .d (.val (.int kd b))) (hk:k (.d (.val (.bool (decide (a=b))))) H nx [] []):aR P eB o ⟨S,H,nx,df⟩ k:=
 Pn ho hx hy (.inl ⟨rfl,rfl⟩) hk
theorem oa {t u:TypeId} {x y:Operand} {a b:Int} {kd:IntKind} (ho:o.op= .binOp .neq t x y u) (hx:aB S x= .d (.val (.int kd a))) (hy:aB S y= .d (.val (.int kd b))) (hk:k (.d (.val (.bool (!decide (a=b))))) H nx [] []):aR P eB o ⟨S,H,nx,df⟩ k:=
 Pn ho hx hy (.inr ⟨rfl,rfl⟩) hk
abbrev sV (l:List UInt8):Value:= .string ⟨l.toArray⟩
theorem qk {t u:TypeId} {x y:Operand} {a b:List UInt8} (ho:o.op= .binOp .eql t x y u) (hx:aB S x= .d (.val (sV a))) (hy:aB S y= .d (.val (sV b))) (hk:k (.d (.val (.bool (a==b)))) H nx [] []):aR P eB o ⟨S,H,nx,df⟩ k:=by
 unfold aR;rw [ho]
 simp only [isEq,zy,hx,hy,Bool.and_false,Bool.false_eq_true,if_false,vo,I4,bin,z5]
 exact ⟨trivial,hk⟩
theorem uP {t u:TypeId} {x y:Operand} {a b:List UInt8} (ho:o.op= .binOp .neq t x y u) (hx:aB S x= .d (.val (sV a))) (hy:aB S y= .d (.val (sV b))) (hk:k (.d (.val (.bool (!(a==b))))) H nx [] []):aR P eB o ⟨S,H,nx,df⟩ k:=by
 unfold aR;rw [ho]
 simp only [isEq,zy,hx,hy,Bool.and_false,Bool.false_eq_true,if_false,vo,I4,bin,z5]
 exact ⟨trivial,hk⟩
theorem ld {t u:TypeId} {x y:Operand} {a b:List UInt8} (ho:o.op= .binOp .add t x y u) (hx:aB S x= .d (.val (sV a))) (hy:aB S y= .d (.val (sV b))) (h:a.length+b.length≤9223372036854775807) (hk:k (.d (.val (sV (a++b)))) H nx [] []):aR P eB o ⟨S,H,nx,df⟩ k:=
 gr ho hx hy rfl (by show ((_+_:Nat):Int)≤IntKind.i64.max;rw [sS,sS,Lp];omega) (by show PV.d (.val (.string _))=_;rw [EN]) hk
theorem Kr {t u:TypeId} {x y:Operand} {a b:Bool} (ho:o.op= .binOp .neq t x y u) (ht:P.underlying t=some .bool) (hx:aB S x= .d (.val (.bool a))) (hy:aB S y= .d (.val (.bool b))) (hk:k (.d (.val (.bool (!(a==b))))) H nx [] []):aR P eB o ⟨S,H,nx,df⟩ k:=by
 unfold aR;rw [ho]
 simp only [isEq,zy,hx,hy,Bool.and_false,Bool.false_eq_true,if_false,vo,x4,ht]
 exact ⟨trivial,hk⟩
theorem mC {t:TypeId} {x:Operand} {a:Bool} (ho:o.op= .unOp .not t x) (hx:aB S x= .d (.val (.bool a))) (hk:k (.d (.val (.bool (!a)))) H nx [] []):aR P eB o ⟨S,H,nx,df⟩ k:=by
 unfold aR;rw [ho];simp only [jD,un,hx];exact ⟨trivial,hk⟩
theorem UH {t:TypeId} {x:Operand} {a:Int} (ho:o.op= .unOp .neg t x) (hx:aB S x= .d (.val (.int .i64 a))) (h:bA (0-a)) (hk:k (.d (.val (.int .i64 (0-a)))) H nx [] []):aR P eB o ⟨S,H,nx,df⟩ k:=by
 unfold aR;rw [ho];simp only [jD,un,hx,tO h];exact ⟨trivial,hk⟩
theorem Gm {t u:TypeId} {x:Operand} {p v:PV} (ho:o.op= .convert t u x) (hx:aB S x=p) (h1:(uk P t u p).2) (h2:(uk P t u p).1=v) (hk:k v H nx [] []):aR P eB o ⟨S,H,nx,df⟩ k:=by
 unfold aR;rw [ho];subst hx h2;exact ⟨h1,hk⟩
theorem yR {t u:TypeId} {d:TypeDesc} {kd Bo:IntKind} {n:Int} (ht:P.underlying t=some d) (hu:P.underlying u=some (.int kd)):uk P t u (.d (.val (.int Bo n)))=(.d (.val (.int kd (kd.wrap n))),True):=by
 unfold uk;rw [ht,hu]
theorem C4 {t u:TypeId} {x:Operand} {n:Int} {Bo:IntKind} {d:TypeDesc} (ho:o.op= .convert t u x) (ht:P.underlying t=some d) (hu:P.underlying u=some (.int .i64)) (hx:aB S x= .d (.val (.int Bo n))) (h:bA n) (hk:k (.d (.val (.int .i64 n))) H nx [] []):aR P eB o ⟨S,H,nx,df⟩ k:=
 Gm ho hx (by rw [yR ht hu];trivial) (by rw [yR ht hu,tO h]) hk
def gb (n:Int):UInt8:=UInt8.ofNat (n%256).toNat
theorem Qf (n:Int):IntKind.u8.wrap n=((gb n).toNat:Int):=by
 rw [IntKind.wrap_u8]
 unfold gb
 have h:(UInt8.ofNat (n%256).toNat).toNat=(n%256).toNat:=by
  rw [UInt8.toNat_ofNat'];omega
 rw [h];omega
theorem nR {t u:TypeId} {x:Operand} {n:Int} {Bo:IntKind} {d:TypeDesc} (ho:o.op= .convert t u x) (ht:P.underlying t=some d) (hu:P.underlying u=some (.int .u8)) (hx:aB S x= .d (.val (.int Bo n))) (hk:k (.d (.val (.int .u8 ((gb n).toNat:Int)))) H nx [] []):aR P eB o ⟨S,H,nx,df⟩ k:=
 Gm ho hx (by rw [yR ht hu];trivial) (by rw [yR ht hu,Qf]) hk
theorem nK {t u e:TypeId} {x:Operand} {l:List UInt8} (ho:o.op= .convert t u x) (ht:P.underlying t=some (.slice e)) (he:P.underlying e=some (.int .u8)) (hu:P.underlying u=some .string) (hx:(aB S x).elems=some (l.map U)) (hk:k (.d (.val (sV l))) H nx [] []):aR P eB o ⟨S,H,nx,df⟩ k:=by
 refine Gm (p:=aB S x) ho rfl ?_ ?_ hk
 ·unfold uk;rw [ht,hu];simp only [hx];exact ⟨he,CX l⟩
 ·unfold uk;rw [ht,hu];simp only [hx,CV]
theorem wV {c:Call} {b:Builtin} {v:PV} (ho:o.op= .call c) (hc:c.callee= .builtin b) (hb:b≠ .append) (h1:(ju P S b c.args.toList c.argTypes.toList).2) (h2:(ju P S b c.args.toList c.argTypes.toList).1=v) (hk:k v H nx [] []):aR P eB o ⟨S,H,nx,df⟩ k:=by
 unfold aR;rw [ho];simp only [hc];subst h2
 cases b<;>first | exact absurd rfl hb | exact ⟨h1,hk⟩
theorem gB {x:Operand} {t:TypeId} {l:List UInt8} (ho:o.op= .call {callee:= .builtin .len,args:= #[x],argTypes:= #[t]}) (ht:P.underlying t=some .string) (hx:aB S x= .d (.val (sV l))) (hk:k (.d (.val (.int .i64 (l.length:Int)))) H nx [] []):aR P eB o ⟨S,H,nx,df⟩ k:=
 wV ho rfl (by simp) (by show (z1 P t (aB S x)).2;unfold z1;rw [ht,hx];trivial) (by show (z1 P t (aB S x)).1=_;unfold z1;rw [ht,hx];simp [sS]) hk
theorem cM {x:Operand} {t e:TypeId} {α:Type} {en:α→D} {l:List α} (ho:o.op= .call {callee:= .builtin .len,args:= #[x],argTypes:= #[t]}) (ht:P.underlying t=some (.slice e)) (hx:(aB S x).elems=some (l.map en)) (hk:k (.d (.val (.int .i64 (l.length:Int)))) H nx [] []):aR P eB o ⟨S,H,nx,df⟩ k:=
 wV ho rfl (by simp) (by show (z1 P t (aB S x)).2;unfold z1;rw [ht];simp only [hx]) (by show (z1 P t (aB S x)).1=_;unfold z1;rw [ht];simp only [hx,List.length_map]) hk
def e8 (a b:Int):Int:=if b<a then b else a
def gQ (a b:Int):Int:=if b>a then b else a
theorem FK {x y:Operand} {ts:Array TypeId} {a b:Int} {kd:IntKind} (ho:o.op= .call {callee:= .builtin .min,args:= #[x,y],argTypes:=ts}) (hx:aB S x= .d (.val (.int kd a))) (hy:aB S y= .d (.val (.int kd b))) (hk:k (.d (.val (.int kd (e8 a b)))) H nx [] []):aR P eB o ⟨S,H,nx,df⟩ k:=
 wV ho rfl (by simp) (by show (ju P S .min [x,y] _).2;simp only [ju,hx,hy]) (by show (ju P S .min [x,y] _).1=_;simp only [ju,hx,hy,e8]) hk
theorem Po {x y:Operand} {ts:Array TypeId} {a b:Int} {kd:IntKind} (ho:o.op= .call {callee:= .builtin .max,args:= #[x,y],argTypes:=ts}) (hx:aB S x= .d (.val (.int kd a))) (hy:aB S y= .d (.val (.int kd b))) (hk:k (.d (.val (.int kd (gQ a b)))) H nx [] []):aR P eB o ⟨S,H,nx,df⟩ k:=
 wV ho rfl (by simp) (by show (ju P S .max [x,y] _).2;simp only [ju,hx,hy]) (by show (ju P S .max [x,y] _).1=_;simp only [ju,hx,hy,gQ]) hk
def idx {α:Type} [Inhabited α] (l:List α) (i:Int):α:=l.getD i.toNat default
def sub {α:Type} (l:List α) (lo hi:Int):List α:=(l.drop lo.toNat).take (hi-lo).toNat
theorem getD_map {α:Type} [Inhabited α] {en:α→D} {l:List α} {i:Int} (h:0≤i∧i<(l.length:Int)):(l.map en).getD i.toNat default=en (idx l i):=by
 unfold idx
 have hi:i.toNat<l.length:=by omega
 rw [List.getD_eq_getElem?_getD,List.getD_eq_getElem?_getD,List.getElem?_map,List.getElem?_eq_getElem hi]
 rfl
structure rF {α:Type} (en:α→D) (c:α→List D) (n:Nat):Prop where
 cells:∀ x,(en x).cells=c x
 len:∀ x,(c x).length=n
theorem bH:rF U (fun b=>[U b]) 1:=⟨fun _=>rfl,fun _=>rfl⟩
def eS (l:List UInt8):D:= .val (sV l)
def eL {α:Type} (en:α→D) (l:List α):D:= .slice (l.map en)
theorem z7:rF eS (fun b=>[.val (sV b)]) 1:=⟨fun _=>rfl,fun _=>rfl⟩
theorem Gn {α:Type} {en:α→D}:rF (eL en) (fun l=>[.slice (l.map en)]) 1:=⟨fun _=>rfl,fun _=>rfl⟩
theorem rF.all {α:Type} {en:α→D} {c:α→List D} {n:Nat} (h:rF en c n) (l:List α):∀ x∈l.map en,x.cells.length=n:=by
 intro x hx
 obtain ⟨y,_,rfl⟩:=List.mem_map.1 hx
 rw [h.cells,h.len]
theorem bN {α:Type} [Inhabited α] {en:α→D} {c:α→List D} {n je:Nat} {ag:Bool} {t:TypeId} {x y:Operand} {l:List α} {i:Int} {kd:IntKind} (ho:o.op= .indexAddr t x y) (ht:l6 P t=some (n,je,ag)) (hl:rF en c n) (hx:(aB S x).elems=some (l.map en)) (hy:aB S y= .d (.val (.int kd i)))
  (h:0≤i∧i<(l.length:Int)) (hk:k (.d (.cr (c (idx l i)))) H nx [] []):aR P eB o ⟨S,H,nx,df⟩ k:=by
 unfold aR;rw [ho]
 simp only [jD,nA,ht,hx,hy]
 refine ⟨⟨by simpa using h,hl.all l⟩,?_⟩
 rw [getD_map h,hl.cells]
 exact hk
theorem mD {n sz:Nat} {ag:Bool} {t:TypeId} {x y:Operand} {l:List D} {i:Int} {kd:IntKind} (ho:o.op= .indexAddr t x y) (hs:l6 P t=none) (ht:mu P t=some (n,sz,ag)) (hx:aB S x= .d (.cr l)) (hy:aB S y= .d (.val (.int kd i)))
  (h:0≤i∧i<(n:Int)) (hk:k (.d (.cr (l.drop (i.toNat*sz)))) H nx [] []):aR P eB o ⟨S,H,nx,df⟩ k:=by
 unfold aR;rw [ho];simp only [jD,nA,hs,ht,hx,hy];exact ⟨h,hk⟩
theorem cX {n sz:Nat} {ag:Bool} {t:TypeId} {x y:Operand} {id off:Nat} {i:Int} {kd:IntKind} (ho:o.op= .indexAddr t x y) (hs:l6 P t=none) (ht:mu P t=some (n,sz,ag)) (hx:aB S x= .aK id off) (hy:aB S y= .d (.val (.int kd i)))
  (h:0≤i∧i<(n:Int)) (hk:k (.aK id (off+i.toNat*sz)) H nx [] []):aR P eB o ⟨S,H,nx,df⟩ k:=by
 unfold aR;rw [ho];simp only [jD,nA,hs,ht,hx,hy];exact ⟨h,hk⟩
theorem lI {t:TypeId} {x y:Operand} {l:List UInt8} {i:Int} {kd:IntKind} (ho:o.op= .index t x y) (ht:P.underlying t=some .string) (ha:mu P t=none) (hx:aB S x= .d (.val (sV l))) (hy:aB S y= .d (.val (.int kd i)))
  (h:0≤i∧i<(l.length:Int)) (hk:k (.d (.val (.int .u8 ((idx l i).toNat:Int)))) H nx [] []):aR P eB o ⟨S,H,nx,df⟩ k:=by
 unfold aR;rw [ho]
 simp only [jD,wK,ha,hx,hy,sS]
 exact ⟨⟨fun _=>ht,h⟩,hk⟩
theorem aO {t:TypeId} {f off n:Nat} {ag:Bool} {x:Operand} {l:List D} (ho:o.op= .fieldAddr t x f) (ht:lu P t f=some (off,n,ag)) (hn:n≠0) (hx:aB S x= .d (.cr l)) (hk:k (.d (.cr (l.drop off))) H nx [] []):aR P eB o ⟨S,H,nx,df⟩ k:=by
 unfold aR;rw [ho];simp only [jD,oD,ht,hx];exact ⟨hn,hk⟩
theorem fm {t:TypeId} {f off n:Nat} {ag:Bool} {x:Operand} {id p:Nat} (ho:o.op= .fieldAddr t x f) (ht:lu P t f=some (off,n,ag)) (hn:n≠0) (hx:aB S x= .aK id p) (hk:k (.aK id (p+off)) H nx [] []):aR P eB o ⟨S,H,nx,df⟩ k:=by
 unfold aR;rw [ho];simp only [jD,oD,ht,hx];exact ⟨hn,hk⟩
def di (ag:Bool) (n:Nat) (l:List D) (d:D):Prop:=match ag with
 | true=>n≤l.length∧D.agg (l.take n)=d
 | false=>l≠[]∧l.headD default=d
theorem di.one {n:Nat} {d:D} {r:List D}:di false n (d::r) d:=⟨by simp,rfl⟩
theorem aC {t:TypeId} {x:Operand} {l:List D} {ag:Bool} {n:Nat} {d:D} (ho:o.op= .load t x) (ht:jC P t=some (ag,n)) (hx:aB S x= .d (.cr l)) (h:di ag n l d) (hk:k (.d d) H nx [] []):aR P eB o ⟨S,H,nx,df⟩ k:=by
 unfold aR;rw [ho];simp only [hx,ht]
 cases ag with
 | true=>obtain ⟨h1,rfl⟩:=h;exact ⟨h1,hk⟩
 | false=>obtain ⟨h1,rfl⟩:=h;exact ⟨h1,hk⟩
def D0 (ag:Bool) (n off:Nat) (l:List PV) (v:PV):Prop:=(off+n≤l.length∧0<n)∧n7 ag l off n=v
theorem bx {t:TypeId} {x:Operand} {id off:Nat} {l:List PV} {ag:Bool} {n:Nat} {v:PV} (ho:o.op= .load t x) (ht:jC P t=some (ag,n)) (hx:aB S x= .aK id off) (hH:H id=some (.var l)) (h:D0 ag n off l v) (hk:k v H nx [id] []):aR P eB o ⟨S,H,nx,df⟩ k:=by
 unfold aR;rw [ho];simp only [hx,ht,hH,xA]
 obtain ⟨h1,rfl⟩:=h;exact ⟨h1,hk⟩
theorem bw {t:TypeId} {x y:Operand} {id off n:Nat} {ag:Bool} {l c l':List PV} {v:PV} (ho:o.op= .store t x y) (ht:jC P t=some (ag,n)) (hx:aB S x= .aK id off) (hH:H id=some (.var l)) (hy:aB S y=v) (hs:v.cz=true) (hc:v.g8=c) (hn:c.length=n) (hf:off+n≤l.length) (hl:lX l off c=l')
  (hk:k .dJ (cE H id (some (.var l'))) nx [id] [id]):aR P eB o ⟨S,H,nx,df⟩ k:=by
 unfold aR;rw [ho];simp only [hx,ht,hH,hy,hc,hl]
 exact ⟨⟨hs,hn,hf⟩,hk⟩
theorem bP {t:TypeId} {z:List Value} {l:List PV} (ho:o.op= .alloc t) (ht:lG P t=some z) (h1:z.all Value.oneCell'=true) (hl:z.map nG=l) (hk:k (.aK nx 0) (cE H nx (some (.var l))) (nx+1) [] []):aR P eB o ⟨S,H,nx,df⟩ k:=by
 unfold aR;rw [ho];simp only [ht,hl];exact ⟨h1,hk⟩
theorem eJ {t:TypeId} {x:Operand} {v:PV} {ds:List D} (ho:o.op= .box t x) (hf:yP eB o.dst=true) (hx:aB S x=v) (hs:v.cz=true) (hd:PV.eg v.g8=some ds) (hk:k (.d (.cr ds)) H nx [] []):aR P eB o ⟨S,H,nx,df⟩ k:=by
 unfold aR;rw [ho];simp only [hx,hd];rw [if_pos hf];exact ⟨hs,hk⟩
theorem Lv {t:TypeId} {x:Operand} {v:PV} {c:List PV} (ho:o.op= .box t x) (hf:yP eB o.dst=false) (hx:aB S x=v) (hs:v.cz=true) (hc:v.g8=c) (hk:k (.aK nx 0) (cE H nx (some (.var c))) (nx+1) [] []):aR P eB o ⟨S,H,nx,df⟩ k:=by
 unfold aR;rw [ho];simp only [hx,hc];rw [if_neg (by rw [hf];simp)];exact ⟨hs,hk⟩
theorem bz {x:Operand} {i:Nat} {l:List D} {d:D} (ho:o.op= .extract x i) (hx:aB S x= .d (.tuple l)) (h:l[i]? =some d) (hk:k (.d d) H nx [] []):aR P eB o ⟨S,H,nx,df⟩ k:=by
 unfold aR;rw [ho];simp only [jD,sN,hx]
 have hi:=(List.getElem?_eq_some_iff.1 h).1
 refine ⟨hi,?_⟩
 rw [List.getD_eq_getElem?_getD,h];exact hk
theorem pz {x:Operand} {i:Nat} {l:List PV} {d:PV} (ho:o.op= .extract x i) (hx:aB S x= .tuple l) (h:l[i]? =some d) (hk:k d H nx [] []):aR P eB o ⟨S,H,nx,df⟩ k:=by
 unfold aR;rw [ho];simp only [jD,sN,hx]
 have hi:=(List.getElem?_eq_some_iff.1 h).1
 refine ⟨hi,?_⟩
 rw [List.getD_eq_getElem?_getD,h];exact hk
theorem vt {t:TypeId} {x:Operand} {lo hi:Option Operand} {l:List UInt8} {a b:Int} (ho:o.op= .slice t x lo hi none) (ht:P.underlying t=some .string) (hx:aB S x= .d (.val (sV l))) (ha:oz 0 (lo.map (aB S))=some a) (hb:oz (l.length:Int) (hi.map (aB S))=some b)
  (h:0≤a∧a≤b∧b≤(l.length:Int)) (hk:k (.d (.val (sV (sub l a b)))) H nx [] []):aR P eB o ⟨S,H,nx,df⟩ k:=by
 unfold aR;rw [ho]
 simp only [jD,CY,ht,hx,ha,sS,Option.map_none,hb]
 refine ⟨h,?_⟩
 rw [C1]
 have e:b.toNat-a.toNat=(b-a).toNat:=by omega
 rw [e]
 exact hk
theorem nS {α:Type} {en:α→D} {c:α→List D} {n je:Nat} {ag:Bool} {t e:TypeId} {x:Operand} {lo hi:Option Operand} {l:List α} {a b:Int} (ho:o.op= .slice t x lo hi none) (hu:P.underlying t=some (.slice e)) (ht:l6 P t=some (n,je,ag)) (hl:rF en c n) (hx:(aB S x).elems=some (l.map en))
  (ha:oz 0 (lo.map (aB S))=some a) (hb:oz (l.length:Int) (hi.map (aB S))=some b) (h:0≤a∧a≤b∧b≤(l.length:Int)) (hk:k (.d (.slice ((sub l a b).map en))) H nx [] []):aR P eB o ⟨S,H,nx,df⟩ k:=by
 unfold aR;rw [ho]
 simp only [jD,CY,hu,ht,hx,ha,Option.map_none,List.length_map,hb]
 refine ⟨⟨h,hl.all l⟩,?_⟩
 rw [← List.map_drop, ← List.map_take]
 exact hk
theorem Qg {α:Type} {en:α→D} {c:α→List D} {n je:Nat} {ag:Bool} {t e:TypeId} {x hi mx:Operand} {lo:Option Operand} {l:List α} {a b:Int} {kd Bo:IntKind} (ho:o.op= .slice t x lo (some hi) (some mx)) (hu:P.underlying t=some (.slice e)) (ht:l6 P t=some (n,je,ag)) (hl:rF en c n) (hx:(aB S x).elems=some (l.map en))
  (ha:oz 0 (lo.map (aB S))=some a) (hb:aB S hi= .d (.val (.int kd b))) (hm:aB S mx= .d (.val (.int Bo b))) (h:0≤a∧a≤b∧b≤(l.length:Int)) (hk:k (.full ((sub l a b).map en)) H nx [] []):aR P eB o ⟨S,H,nx,df⟩ k:=by
 unfold aR;rw [ho]
 simp only [jD,CY,hu,ht,hx,ha,Option.map_some,hb,hm,List.length_map]
 refine ⟨⟨h,trivial,hl.all l⟩,?_⟩
 rw [← List.map_drop, ← List.map_take]
 exact hk
theorem dU {α:Type} {en:α→D} {c:α→List D} {n je:Nat} {t:TypeId} {sz:Nat} {parts:Array (Nat×Operand)} {l:List α} (ho:o.op= .buildSlice t sz parts) (ht:oE P t=some (n,je)) (hl:rF en c n) (hx:PV.eg (cQ S parts.toList)=some (l.map en)) (h1:AU parts.toList=List.range sz) (h2:sz*n≤2 ^ 24)
  (h3:dg (cQ S parts.toList)) (hk:k (.full (l.map en)) H nx [] []):aR P eB o ⟨S,H,nx,df⟩ k:=by
 unfold aR;rw [ho];simp only [jD,ht,hx]
 exact ⟨⟨h1,h2,h3,hl.all l⟩,hk⟩
theorem iJ {α:Type} {en:α→D} {c:α→List D} {n je id:Nat} {t u:TypeId} {d:TypeDesc} {x y:Operand} {l l2:List α} (ho:o.op= .call {callee:= .builtin .append,args:= #[x,y],argTypes:= #[t,u]}) (ht:oE P t=some (n,je)) (hu:P.underlying u=some d) (hd:mw d=true) (hl:rF en c n)
  (hx:aB S x= .own id (l.map en)) (hH:H id=some (.spare n l.length)) (hy:(aB S y).more=some (l2.map en)) (h:(l.length+l2.length)*je≤140737488355328) (hb:0<je)
  (hk:k (.own nx ((l++l2).map en)) (cE (cE H id none) nx (some (.spare n (l++l2).length))) (nx+1) [id] [id]):aR P eB o ⟨S,H,nx,df⟩ k:=by
 unfold aR;rw [ho]
 simp only [x5,ht,hu,hy,hx,List.length_map]
 refine ⟨⟨hd,hH,hl.all l,hl.all l2⟩,⟨h,?_⟩,?_⟩
 ·have:(l.length+l2.length)*1≤(l.length+l2.length)*je:=Nat.mul_le_mul_left _ hb
  rw [wQ];omega
 ·rw [← List.map_append, ← List.length_append];exact hk
theorem Gp {α:Type} {en:α→D} {c:α→List D} {n je:Nat} {t u:TypeId} {d:TypeDesc} {x y:Operand} {l l2:List α} (ho:o.op= .call {callee:= .builtin .append,args:= #[x,y],argTypes:= #[t,u]}) (ht:oE P t=some (n,je)) (hu:P.underlying u=some d) (hd:mw d=true) (hl:rF en c n)
  (hx:aB S x= .full (l.map en)) (hy:(aB S y).more=some (l2.map en)) (h:(l.length+l2.length)*je≤140737488355328∧(l2=[]→l=[])) (hb:0<je)
  (hk:k (.own nx ((l++l2).map en)) (cE H nx (some (.spare n (l++l2).length))) (nx+1) [] []):aR P eB o ⟨S,H,nx,df⟩ k:=by
 unfold aR;rw [ho]
 simp only [x5,ht,hu,hy,hx,List.length_map]
 refine ⟨⟨hd,hl.all l,hl.all l2⟩,⟨h.1,?_,?_⟩,?_⟩
 ·have:(l.length+l2.length)*1≤(l.length+l2.length)*je:=Nat.mul_le_mul_left _ hb
  rw [wQ];omega
 ·intro e;rw [h.2 (List.map_eq_nil_iff.1 e)];rfl
 ·rw [← List.map_append, ← List.length_append];exact hk
theorem u5 {t:TypeId} {parts:Array (Nat×Operand)} {v:PV} (ho:o.op= .build t parts) (h1:(k8 (pX P t) (og S parts.toList)).2) (h2:(k8 (pX P t) (og S parts.toList)).1=v) (hk:k v H nx [] []):aR P eB o ⟨S,H,nx,df⟩ k:=by
 unfold aR;rw [ho];subst h2;exact ⟨h1,hk⟩
theorem Lw {f:Nat} {caps:Array Operand} {v:PV} (ho:o.op= .makeFunc (.func f) #[] caps) (h:Lb f (caps.toList.map (aB S))=v) (hk:k v H nx [] []):aR P eB o ⟨S,H,nx,df⟩ k:=by
 unfold aR;rw [ho];subst h;exact ⟨rfl,hk⟩
theorem Qh {t u:TypeId} {x y:Operand} {dx dy:D} {b:Bool} (ho:o.op= .binOp .eql t x y u) (ha:zy (aB S x)=true) (hx:(aB S x).cW=some dx) (hy:(aB S y).cW=some dy) (h:z0 P t dx dy b) (hk:k (.d (.val (.bool b))) H nx [] []):aR P eB o ⟨S,H,nx,df⟩ k:=by
 unfold aR;rw [ho];simp only [isEq,ha,Bool.and_self,if_true,hx,hy];exact ⟨b,h,hk⟩
theorem Qi {t u:TypeId} {x y:Operand} {dx dy:D} {b:Bool} (ho:o.op= .binOp .neq t x y u) (ha:zy (aB S x)=true) (hx:(aB S x).cW=some dx) (hy:(aB S y).cW=some dy) (h:z0 P t dx dy b) (hk:k (.d (.val (.bool (!b)))) H nx [] []):aR P eB o ⟨S,H,nx,df⟩ k:=by
 unfold aR;rw [ho];simp only [isEq,ha,Bool.and_self,if_true,hx,hy];exact ⟨b,h,hk⟩
theorem aA {c:Call} {f:Nat} {ds:List D} {d:D} (ho:o.op= .call c) (hc:c.callee= .value (.func f)) (he:aN P f=true) (hd:PV.eg (c.args.toList.map (aB S))=some ds) (hF:bE P f ds d) (hk:k (.d d) H nx [] []):aR P eB o ⟨S,H,nx,df⟩ k:=by
 unfold aR;rw [ho];simp only [hc,hd];exact ⟨he,d,hF,hk⟩
theorem wW {c:Call} {t:Nat} {f:Nat} {ds caps:List D} {d:D} (ho:o.op= .call c) (hc:c.callee= .value (.tmp t)) (ht:S t= .d (.gT f caps)) (he:aN P f=true) (hd:PV.eg (c.args.toList.map (aB S))=some ds) (hF:bE P f (ds++caps) d) (hk:k (.d d) H nx [] []):aR P eB o ⟨S,H,nx,df⟩ k:=by
 unfold aR;rw [ho];simp only [hc,aB,ht,hd];exact ⟨he,d,hF,hk⟩
end
end Go.Proofs.YtlfjfoknbjcncaaGreat.K
namespace Go.Proofs.YtlfjfoknbjcncaaGreat.K
open Go Go.RowKit
variable {P:Program} {N b:Nat}
section
variable {next:St→Prop} {Q:PX→St→Prop} {s:St} {i id:Nat} {p:PV}
theorem aY (h:next s):PX.then next Q .normal s:=h
theorem eA (h:Q (.exit i) s):PX.then next Q (.exit i) s:=h
theorem eC (h:Q .ret s):PX.then next Q .ret s:=h
theorem sx (h:Q (.panic p) s):PX.then next Q (.panic p) s:=h
theorem gC (h:Q .normal s):PX.inBlock id Q .normal s:=h
theorem mO (h:Q .ret s):PX.inBlock id Q .ret s:=h
theorem Ks (h:Q (.panic p) s):PX.inBlock id Q (.panic p) s:=h
theorem jY (h:Q .normal s):PX.inBlock id Q (.exit id) s:=by simp only [PX.inBlock,if_true];exact h
theorem exN (hn:(i==id)=false) (h:Q (.exit i) s):PX.inBlock id Q (.exit i) s:=by
 have:i≠id:=by simpa using hn
 simp only [PX.inBlock,this,if_false];exact h
end
theorem QW.rH {x y:Code} {s:St} {Q:PX→St→Prop} (I:St→Prop) (h:QW P N b x s (PX.then (fun s'=>∃ s'',View N b s' s''∧I s'') Q)) (hb:∀ s',I s'→QW P N b y s' Q):QW P N b (.seq x y) s Q:=by
 refine ⟨h.1,fun m ρ a w hI=>?_⟩
 refine wp_seq (wp_mono (h.2 m ρ a w hI) ?_)
 rintro e a' w' ⟨px,s',m',ρ',hq,hr,mq,hA⟩
 cases px with
 | normal=>
  simp only [RX] at hr
  subst hr
  obtain ⟨s'',hv,hi⟩:=hq
  obtain ⟨m2,jO,zO,DY⟩:=hv m' ρ' a' w' mq
  exact wp_mono ((hb s'' hi).2 m2 jO a' w' zO) fun _ _ _ hp=>hp.Kq (hA.trans DY)
 | exit i=>simp only [RX] at hr;subst hr;exact ⟨.exit i,s',m',ρ',hq,rfl,mq,hA⟩
 | ret=>simp only [RX] at hr;subst hr;exact ⟨.ret,s',m',ρ',hq,rfl,mq,hA⟩
 | panic p=>obtain ⟨v,rfl,hv⟩:=hr;exact ⟨.panic p,s',m',ρ',hq,⟨v,rfl,hv⟩,mq,hA⟩
theorem View.trans {s s1 s2:St} (h:View N b s s1) (k:View N b s1 s2):View N b s s2:=by
 intro m ρ a w hI
 obtain ⟨m1,Fg,hI1,hA1⟩:=h m ρ a w hI
 obtain ⟨m2,jO,zO,DY⟩:=k m1 Fg a w hI1
 exact ⟨m2,jO,zO,hA1.trans DY⟩
theorem View.buf {s:St} (t sz:Nat) (hs:s.S t= .full []) (hb:b≤s.nx):View N b s ⟨fj s.S (some t) (.own s.nx []),cE s.H s.nx (some (.spare sz 0)),s.nx+1,s.df⟩:=by
 refine View.of (Nat.le_trans hb (Nat.le_succ _)) fun m ρ a w hI=>?_
 have qv:=hI.slots t
 rw [hs] at qv
 simp only [aM] at qv
 obtain ⟨ad,ev,_⟩:=qv
 have nn:∀ k,(∃ b c,ρ k=some (b,c))→k≠s.nx:=by
  rintro k ⟨b,c,h⟩ e
  subst e
  rw [hI.nQ _ (Nat.le_refl _)] at h;cases h
 have mq:Inv N ⟨fj s.S (some t) (.own s.nx []),cE s.H s.nx (some (.spare sz 0)),s.nx+1,s.df⟩ m ρ a w:=by
  refine ⟨hI.size,hI.defers,fun i=>?_,⟨hI.valid.mem,fun i o _ hH=>?_,fun i j b c c' _ _ hi hj fl jd=>?_⟩,fun i hi=>?_,fun i hi=>hI.nQ i (by have:s.nx+1≤i:=hi;omega)⟩
  ·simp only [cu]
   by_cases e:i=t
   ·subst e
    simp only [if_true,aM]
    exact .inr ⟨trivial,ad,ev⟩
   ·simp only [e,if_false];exact hI.slots i
  ·simp only [oH] at hH
   by_cases e:i=s.nx
   ·subst e
    simp only [if_true,Option.some.injEq] at hH
    subst hH
    exact .inl ⟨rfl,hI.nQ _ (Nat.le_refl _)⟩
   ·simp only [e,if_false] at hH;exact hI.valid.entry i o trivial hH
  ·have e1:=nn i ⟨b,c,fl⟩
   have e2:=nn j ⟨b,c',jd⟩
   simp only [oH,e1,if_false] at hi
   simp only [oH,e2,if_false] at hj
   exact hI.valid.apart i j b c c' trivial trivial hi hj fl jd
  ·have h1:s.nx+1≤i:=hi
   have:i≠s.nx:=by omega
   simp only [oH,this,if_false]
   exact hI.gP i (by omega)
 refine ⟨ρ,mq,?_,fun _ _=>rfl⟩
 rintro b' ⟨i,c,_,hl,fl⟩
 have:=nn i ⟨b',c,fl⟩
 simp only [oH,this,if_false] at hl
 exact ⟨i,c,trivial,hl,fl⟩
theorem View.WR {s:St} {l:List PV} (id j sz:Nat) (hH:s.H id=some (.var l)) (hj:l[j]? =some (.full [])) (hb:b≤s.nx):
  View N b s ⟨s.S,cE (cE s.H id (some (.var (l.set j (.own s.nx []))))) s.nx (some (.spare sz 0)),s.nx+1,s.df⟩:=by
 refine View.of (Nat.le_trans hb (Nat.le_succ _)) fun m ρ a w hI=>?_
 have hid:id≠s.nx:=by intro e;rw [e,hI.gP _ (Nat.le_refl _)] at hH;cases hH
 have nn:∀ k,(∃ b c,ρ k=some (b,c))→k≠s.nx:=by
  rintro k ⟨b,c,h⟩ e
  subst e
  rw [hI.nQ _ (Nat.le_refl _)] at h;cases h
 have live:∀ k,k≠s.nx→cE (cE s.H id (some (.var (l.set j (.own s.nx []))))) s.nx (some (.spare sz 0)) k≠none→s.H k≠none:=by
  intro k hk
  simp only [cE,hk,if_false]
  split
  ·rename_i e;intro _;rw [e,hH];simp
  ·exact fun h=>h
 have mq:Inv N ⟨s.S,cE (cE s.H id (some (.var (l.set j (.own s.nx []))))) s.nx (some (.spare sz 0)),s.nx+1,s.df⟩ m ρ a w:=by
  refine ⟨hI.size,hI.defers,hI.slots,⟨hI.valid.mem,fun i o _ uj=>?_,fun i j b c c' _ _ hi hj fl jd=>?_⟩,fun i hi=>?_,fun i hi=>hI.nQ i (by have:s.nx+1≤i:=hi;omega)⟩
  ·by_cases e:i=s.nx
   ·subst e
    simp only [cE,if_true,Option.some.injEq] at uj
    subst uj
    exact .inl ⟨rfl,hI.nQ _ (Nat.le_refl _)⟩
   ·by_cases e2:i=id
    ·subst e2
     simp only [cE,e,if_false,if_true,Option.some.injEq] at uj
     subst uj
     rcases hI.valid.entry i _ trivial hH with ⟨e0,_⟩ | ⟨b,c,vs,tail,t,e1,e2,e3,e5,e4⟩
     ·rw [e0] at hj;cases hj
     refine .inr ⟨b,c,vs,tail,t,e1,e2,DX (fun v hv=>?_) _ _ _ hj e3,e5,e4⟩
     simp only [aM] at hv ⊢
     obtain ⟨ad,ev,_⟩:=hv
     exact .inr ⟨trivial,ad,ev⟩
    ·simp only [cE,e,e2,if_false] at uj
     exact hI.valid.entry i o trivial uj
  ·exact hI.valid.apart i j b c c' trivial trivial (live i (nn i ⟨b,c,fl⟩) hi) (live j (nn j ⟨b,c',jd⟩) hj) fl jd
  ·have h1:s.nx+1≤i:=hi
   have e1:i≠s.nx:=by omega
   have e2:i≠id:=by intro e;subst e;rw [hI.gP i (by omega)] at hH;cases hH
   simp only [cE,e1,e2,if_false]
   exact hI.gP i (by omega)
 refine ⟨ρ,mq,?_,fun _ _=>rfl⟩
 rintro b' ⟨i,c,_,hl,fl⟩
 exact ⟨i,c,trivial,live i (nn i ⟨b',c,fl⟩) hl,fl⟩
def Gq:List D→Nat→List (Nat×PV)
 | [],_=>[]
 | x::r,i=>(i, .d x)::Gq r (i+1)
theorem Lx:∀ (l:List D) (i t:Nat),aF (Gq l i) (i+t)=yO l t
 | [],_,_=>by simp [Gq,aF,yO]
 | x::r,i,0=>by simp [Gq,aF,yO]
 | x::r,i,t+1=>by
  have:=Lx r (i+1) t
  unfold Gq aF
  rw [if_neg (by simp only;omega),show i+(t+1)=i+1+t by omega,this]
  simp [yO]
theorem View.init {args:List D} {L:List (Nat×PV)} (h:L=Gq args 0):View N 0 ⟨yO args,fun _=>none,0,[]⟩ ⟨aF L,aj [],0,[]⟩:=by
 subst h
 have e1:aF (Gq args 0)=yO args:=by funext t;have:=Lx args 0 t;rwa [Nat.zero_add] at this
 have e2:aj []=fun _=>none:=by funext i;rfl
 rw [e1,e2]
 exact View.refl (Nat.zero_le _)
def aG (P:Program) (s:St) (r:ResultVar) (p:PV):Prop:=(n8 P s r).2∧(n8 P s r).1=p
theorem aG.tmp {s:St} {t:Nat} {p:PV} (h:s.S t=p):aG P s (.tmp t) p:=⟨trivial,h⟩
theorem aG.cell {s:St} {t id off n:Nat} {ty:TypeId} {ag:Bool} {l:List PV} {p:PV} (hx:s.S t= .aK id off) (hH:s.H id=some (.var l)) (ht:jC P ty=some (ag,n)) (h:D0 ag n off l p):aG P s (.cell t ty) p:=by
 unfold aG n8
 simp only [hx,hH,xA,ht]
 exact ⟨h.1,h.2⟩
def uQ (P:Program) (s:St):List ResultVar→List PV→Prop
 | [],[]=>True
 | r::rs,p::ps=>aG P s r p∧uQ P s rs ps
 | _,_=>False
theorem uQ.spec {s:St}:∀ (rs:List ResultVar) (ps:List PV),uQ P s rs ps→(rs.map fun r=>(n8 P s r).1)=ps∧∀ r∈rs,(n8 P s r).2
 | [],[],_=>⟨rfl,by simp⟩
 | r::rs,p::ps,h=>by
  obtain ⟨h1,h2⟩:=h
  have:=uQ.spec rs ps h2
  refine ⟨by rw [List.map_cons,this.1,h1.2],?_⟩
  intro x hx
  rcases List.mem_cons.1 hx with rfl | hx
  ·exact h1.1
  ·exact this.2 x hx
 | [],_::_,h=>h.elim
 | _::_,[],h=>h.elim
theorem Ends.one {s:St} {r:ResultVar} {p:PV} {x y:D} {px:PX} (hp:px= .normal∨px= .ret) (hd:s.df=[]) (h:aG P s r p) (ht:p.cW=some x) (e:x=y):Ends P [r] (fun p=>p.cW=some y) px s:=
 ⟨hp,hd,h.1,by show (n8 P s r).1.cW=_;rw [h.2,ht,e]⟩
theorem AW {s:St} {r r':ResultVar} {rs:List ResultVar}:oG P (r::r'::rs) s=(.tuple ((r::r'::rs).map fun r=>(n8 P s r).1),∀ x∈r::r'::rs,(n8 P s x).2):=rfl
theorem Ends.more {s:St} {r r':ResultVar} {rs:List ResultVar} {ps:List PV} {x y:D} {px:PX} (hp:px= .normal∨px= .ret) (hd:s.df=[]) (h:uQ P s (r::r'::rs) ps) (ht:(PV.tuple ps).cW=some x) (e:x=y):Ends P (r::r'::rs) (fun p=>p.cW=some y) px s:=by
 have:=uQ.spec _ _ h
 refine ⟨hp,hd,?_,?_⟩
 ·rw [AW];exact this.2
 ·rw [AW];show PV.cW (.tuple _)=_;rw [this.1,ht,e]
section
variable {C R α:Type}
def C5 (f:C→Option R):Option (C⊕R)→Option R
 | some (.inl c)=>f c
 | some (.inr r)=>some r
 | none=>none
def run (step:C→Option (C⊕R)):Nat→C→Option R
 | 0,_=>none
 | n+1,c=>C5 (run step n) (step c)
def Comes (step:C→Option (C⊕R)) (c:C) (r:R):Prop:=∃ n,run step n c=some r
theorem Comes.stop {step:C→Option (C⊕R)} {c:C} {r:R} (h:step c=some (.inr r)):Comes step c r:=⟨1,by simp only [run,h,C5]⟩
theorem Comes.next {step:C→Option (C⊕R)} {c c':C} {r:R} (h:step c=some (.inl c')) (k:Comes step c' r):Comes step c r:=by
 obtain ⟨n,k⟩:=k
 exact ⟨n+1,by simp only [run,h,C5];exact k⟩
theorem aQ {step:C→Option (C⊕R)} {n:Nat} {c:C} {r:R} (h:run step n c=some r):∃ m,n=m+1∧C5 (run step m) (step c)=some r:=by
 cases n with
 | zero=>cases h
 | succ m=>exact ⟨m,rfl,h⟩
def gO (c:Prop) [Decidable c] (t:Option α):Option α:=if c then t else none
theorem af {c:Prop} [Decidable c] {t:Option α} (h:c):gO c t=t:=if_pos h
theorem bk {c:Prop} [Decidable c] {t:Option α} {r:α} (h:gO c t=some r):c∧t=some r:=by
 unfold gO at h
 split at h
 ·exact ⟨by assumption,h⟩
 ·cases h
theorem gG {f:C→Option R} {c:Prop} [Decidable c] {t:Option (C⊕R)} {r:R} (h:C5 f (gO c t)=some r):c∧C5 f t=some r:=by
 unfold gO at h
 split at h
 ·exact ⟨by assumption,h⟩
 ·cases h
theorem bT {b:Bool} {x y:Option α} {r:α} (h:(bif b then x else y)=some r) (hb:b=true):x=some r:=by subst hb;exact h
theorem bF {b:Bool} {x y:Option α} {r:α} (h:(bif b then x else y)=some r) (hb:b=false):y=some r:=by subst hb;exact h
theorem eX {f:C→Option R} {b:Bool} {x y:Option (C⊕R)} {r:R} (h:C5 f (bif b then x else y)=some r) (hb:b=true):C5 f x=some r:=by subst hb;exact h
theorem eY {f:C→Option R} {b:Bool} {x y:Option (C⊕R)} {r:R} (h:C5 f (bif b then x else y)=some r) (hb:b=false):C5 f y=some r:=by subst hb;exact h
theorem bO {β:Type} {g:Option β} {k:β→Option α} {r:α} (h:g.bind k=some r):∃ x,g=some x∧k x=some r:=Option.bind_eq_some_iff.1 h
theorem bG {β:Type} {f:C→Option R} {g:Option β} {k:β→Option (C⊕R)} {r:R} (h:C5 f (g.bind k)=some r):∃ x,g=some x∧C5 f (k x)=some r:=by
 cases g with
 | none=>cases h
 | some x=>exact ⟨x,rfl,h⟩
theorem sO {v r:α} (h:some v=some r):v=r:=Option.some.inj h
theorem sG {f:C→Option R} {v r:R} (h:C5 f (some (.inr v))=some r):v=r:=Option.some.inj h
theorem jG {f:C→Option R} {c:C} {r:R} (h:C5 f (some (.inl c))=some r):f c=some r:=h
end
section
variable {ops:Array Oper} {o:Oper} {r:List Oper} {s:St}
theorem Fo {b w:Bool} (h:(b==w)=true):b=w:=by simpa using h
theorem BF {S:Nat→PV}:∀ {l:List Operand},vp true S l→∀ x∈l,∀ m ρ u,aM m ρ (aB S x) u→aM m ρ (bV (aB S x)).2 u
 | [],_,x,hx=>by cases hx
 | y::r,h,x,hx=>by
  intro m ρ u hr
  rcases List.mem_cons.1 hx with rfl | hx
  ·exact zV hr (h.1 rfl)
  ·exact BF h.2 x hx m ρ u hr
theorem Ly {g:Bool} {v:PV} {T:List Nat} (hn:∀ i,s.nx≤i→s.H i=none) (hg:tj ops o s.S=some g) (hc:vp g s.S o.op.operands.toList)
  (h:g=true→aR P [] o ⟨jz s.S,s.H,s.nx,s.df⟩ fun v' H' cC T' W=>(W=[]∧cC=s.nx∧T'=T)∧H'=s.H∧iy v' v) (hT:g=false→∀ i∈T,i<s.nx):pn P ops o s (.cond g v) s.H ⟨T,[],s.nx,s.nx⟩:=by
 refine .gd hg ?_ ?_
 ·cases g with
  | false=>exact hT rfl
  | true=>
   obtain ⟨v',H',cC,T',W,h1,⟨⟨rfl,rfl,rfl⟩,rfl,_⟩⟩:=k9 (s:=⟨jz s.S,s.H,s.nx,s.df⟩) hn (h rfl)
   exact h1.old
 ·rintro rfl
  obtain ⟨v',H',cC,T',W,h1,⟨⟨rfl,rfl,rfl⟩,rfl,hi⟩⟩:=k9 (s:=⟨jz s.S,s.H,s.nx,s.df⟩) hn (h rfl)
  refine ⟨jz s.S,fun x hx m ρ u hr=>?_,h1.imp hi⟩
  rw [Se]
  exact BF hc x (by simpa using hx) m ρ u hr
variable {S:Nat→PV} {H:HM} {nx:Nat} {df:List (Nat×List PV)}
theorem XK.gd {Q:PX→St→Prop} {g:Bool} {v:PV} {T:List Nat} (d:Option Nat) (hd:o.dst=d) (hg:tj ops o S=some g) (hc:vp g S o.op.operands.toList)
  (h:g=true→aR P [] o ⟨jz S,H,nx,df⟩ fun v' H' cC T' W=>(W=[]∧cC=nx∧T'=T)∧H'=H∧iy v' v) (hT:g=false→∀ i∈T,i<nx)
  (k:XK P ops r ⟨fj S d (.cond g v),H,nx,df⟩ Q):XK P ops (o::r) ⟨S,H,nx,df⟩ Q:=by subst hd;exact fun hn=> .step (Ly hn hg hc h hT) (k hn)
theorem RQ.gd {Q:St→Prop} {g:Bool} {v:PV} {T:List Nat} (d:Option Nat) (hd:o.dst=d) (hg:tj ops o S=some g) (hc:vp g S o.op.operands.toList)
  (h:g=true→aR P [] o ⟨jz S,H,nx,df⟩ fun v' H' cC T' W=>(W=[]∧cC=nx∧T'=T)∧H'=H∧iy v' v) (hT:g=false→∀ i∈T,i<nx)
  (k:RQ P ops r ⟨fj S d (.cond g v),H,nx,df⟩ Q):RQ P ops (o::r) ⟨S,H,nx,df⟩ Q:=by
 intro hn
 subst hd
 obtain ⟨s',L,h4,h5,h6⟩:=k hn
 refine ⟨s',_, .cons (Ly hn hg hc h hT) h4,?_,h6⟩
 intro R hR
 rcases List.mem_cons.1 hR with rfl | hR
 ·exact ⟨rfl,rfl⟩
 ·exact h5 R hR
variable {eB:List Nat} {k:PV→HM→Nat→List Nat→List Nat→Prop}
theorem I5 {c x y:Operand} {b u v gx gy:Bool} (ho:o.op= .pick c x y) (hc:aB S c= .d (.val (.bool b))) (hx:bV (aB S x)=(gx, .d (.val (.bool u)))) (hy:bV (aB S y)=(gy, .d (.val (.bool v)))) (h1:b=true→gx=true) (h2:b=false→gy=true)
  (hk:k (.d (.val (.bool (bif b then u else v)))) H nx [] []):aR P eB o ⟨S,H,nx,df⟩ k:=by
 unfold aR;rw [ho]
 simp only [jD,yH,hc,hx,hy]
 exact ⟨⟨h1,h2⟩,hk⟩
theorem gK {c x y:Operand} {b u gx gy:Bool} (ho:o.op= .pick c x y) (hc:aB S c= .d (.val (.bool b))) (hx:bV (aB S x)=(gx, .d (.val (.bool u)))) (hy:bV (aB S y)=(gy, .d (.val (.bool false)))) (h1:b=true→gx=true) (h2:b=false→gy=true)
  (hk:k (.d (.val (.bool (b&&u)))) H nx [] []):aR P eB o ⟨S,H,nx,df⟩ k:=
 I5 ho hc hx hy h1 h2 (by cases b<;>exact hk)
theorem gL {c x y:Operand} {b v gx gy:Bool} (ho:o.op= .pick c x y) (hc:aB S c= .d (.val (.bool b))) (hx:bV (aB S x)=(gx, .d (.val (.bool true)))) (hy:bV (aB S y)=(gy, .d (.val (.bool v)))) (h1:b=true→gx=true) (h2:b=false→gy=true)
  (hk:k (.d (.val (.bool (b||v)))) H nx [] []):aR P eB o ⟨S,H,nx,df⟩ k:=
 I5 ho hc hx hy h1 h2 (by cases b<;>exact hk)
theorem C6 (a:UInt8):bA (a.toNat:Int):=by have:=m7 a;unfold bA;omega
end
end Go.Proofs.YtlfjfoknbjcncaaGreat.K
namespace Go.Proofs.YtlfjfoknbjcncaaGreat.K
open Go Go.RowKit
variable {P:Program} {N b:Nat} {ops:Array Oper} {o:Oper} {r:List Oper} {α:Type} {n:Nat} {en:α→D}
abbrev aE (n:Nat) (α:Type):={l:List α//l.length=n}
def aE.rep (n:Nat) (x:α):aE n α:=⟨List.replicate n x,by simp⟩
instance WS [Inhabited α]:Inhabited (aE n α):=⟨aE.rep n default⟩
def aE.put (a:aE n α) (i:Int) (x:α):aE n α:=⟨a.1.set i.toNat x,by rw [List.length_set];exact a.2⟩
def Pre (l:List D) (en:α→D) (a:aE n α):Prop:=∃ rest,l=a.1.map en++rest
theorem Pre.all (a:aE n α):Pre (a.1.map en) en a:=⟨[],by simp⟩
theorem om [Inhabited α] {l:List D} {a:aE n α} {i:Int} {m:Nat} (hp:Pre l en a) (h:0≤i∧i<(n:Int)):di false m (l.drop (i.toNat*1)) (en (idx a.1 i)):=by
 obtain ⟨rest,rfl⟩:=hp
 have hi:i.toNat<a.1.length:=by rw [a.2];omega
 rw [Nat.mul_one,List.drop_append_of_le_length (by simpa using Nat.le_of_lt hi),List.drop_eq_getElem_cons (by simpa using hi)]
 refine ⟨by simp,?_⟩
 simp [idx,List.getD_eq_getElem?_getD,List.getElem?_eq_getElem hi]
section
variable {S:Nat→PV} {H:HM} {nx:Nat} {df:List (Nat×List PV)} {eB:List Nat} {k:PV→HM→Nat→List Nat→List Nat→Prop}
theorem Sm {l:List D} {a:aE n α} (hp:Pre l en a) {lo hi:Int} (h:0≤lo∧lo≤hi∧hi≤(n:Int)):(l.drop lo.toNat).take (hi-lo).toNat=(sub a.1 lo hi).map en:=by
 obtain ⟨rest,rfl⟩:=hp
 unfold sub
 have h1:lo.toNat≤(a.1.map en).length:=by rw [List.length_map,a.2];omega
 rw [List.drop_append_of_le_length h1,List.take_append_of_le_length (by rw [List.length_drop,List.length_map,a.2];omega),List.map_take,List.map_drop]
theorem D1 {t e:TypeId} {x:Operand} {l:List D} {a:aE n α} {ag:Bool} (ho:o.op= .slice t x none none none) (hu:P.underlying t=some (.array n e)) (ht:mu P t=some (n,1,ag)) (hp:Pre l en a) (hf:∀ x∈l,x.flat=true) (hx:aB S x= .d (.cr l))
  (hk:k (.full (a.1.map en)) H nx [] []):aR P eB o ⟨S,H,nx,df⟩ k:=by
 unfold aR;rw [ho]
 have hn:n≤l.length:=by obtain ⟨rest,rfl⟩:=hp;simp [a.2]
 have e:=Sm hp (lo:=0) (hi:=(n:Int)) (by omega)
 simp only [jD,CY,hu,ht,hx,Option.map_none,oz,Option.isSome_none,Bool.false_eq_true,if_false]
 refine ⟨⟨⟨Int.le_refl _,Int.natCast_nonneg _,Int.le_refl _⟩,hn,hf⟩,?_⟩
 rw [e]
 have:sub a.1 0 (n:Int)=a.1:=by
  unfold sub
  rw [List.take_of_length_le (by rw [List.length_drop,a.2];omega)];rfl
 rw [this];exact hk
theorem Gr (l:List α):((l.map en).map PV.d)=l.map fun x=> .d (en x):=by simp
theorem fJ [Inhabited α] {a:aE n α} {i:Int} (h:0≤i∧i<(n:Int)):D0 false 1 (0+i.toNat*1) ((a.1.map en).map .d) (.d (en (idx a.1 i))):=by
 have hi:i.toNat<a.1.length:=by rw [a.2];omega
 refine ⟨⟨by simp only [List.length_map,a.2];omega,by omega⟩,?_⟩
 simp only [n7,Bool.false_eq_true,if_false,Nat.zero_add,Nat.mul_one,Gr,idx]
 rw [List.getD_eq_getElem?_getD,List.getElem?_map,List.getElem?_eq_getElem hi,List.getD_eq_getElem?_getD,List.getElem?_eq_getElem hi];rfl
theorem rI {a:aE n α} {i:Int} {x:α} (h:0≤i∧i<(n:Int)):lX ((a.1.map en).map PV.d) (0+i.toNat*1) [PV.d (en x)]=((a.put i x).1.map en).map PV.d:=by
 have hi:i.toNat<a.1.length:=by rw [a.2];omega
 simp only [lX,Nat.zero_add,Nat.mul_one,aE.put]
 apply List.ext_getElem?
 intro j
 simp only [Gr,List.getElem?_map,List.getElem?_set]
 rcases Nat.lt_trichotomy j i.toNat with hj | hj | hj
 ·rw [List.getElem?_append_left (by simp;omega),List.getElem?_take,if_pos hj,List.getElem?_map,if_neg (by omega)]
 ·subst hj
  rw [List.getElem?_append_right (by simp;omega),if_pos rfl,if_pos hi]
  simp only [List.length_take,List.length_map,Nat.min_eq_left (Nat.le_of_lt hi),Nat.sub_self,List.cons_append,List.getElem?_cons_zero,Option.map_some]
 ·rw [List.getElem?_append_right (by simp;omega),if_neg (by omega)]
  simp only [List.length_take,List.length_map,Nat.min_eq_left (Nat.le_of_lt hi)]
  rw [show j-i.toNat=(j-i.toNat-1)+1 by omega,List.cons_append,List.getElem?_cons_succ,List.nil_append,List.getElem?_drop,List.getElem?_map,List.length_singleton,show i.toNat+1+(j-i.toNat-1)=j by omega]
theorem tP {a:aE n α} {i:Int} (h:0≤i∧i<(n:Int)):0+i.toNat*1+1≤((a.1.map en).map PV.d).length:=by simp only [List.length_map,a.2];omega
theorem kE {a:aE n α} (h:0<n):D0 true n 0 ((a.1.map en).map .d) (.agg ((a.1.map en).map .d)):=by
 refine ⟨⟨by simp [a.2],h⟩,?_⟩
 simp only [n7,if_true,List.drop_zero]
 rw [List.take_of_length_le (by simp [a.2])]
theorem ia {l:List D}:iy (.agg (l.map .d)) (.d (.agg l)):=iy.cW (by simp only [PV.cW,wP,Option.map_some])
theorem cT {l c:List PV} (h:l.length=c.length):lX l 0 c=c:=by
 unfold lX
 rw [List.take_zero,List.nil_append,List.drop_eq_nil_of_le (by omega),List.append_nil]
theorem cA {l:List D}:PV.eg (l.map .d)=some l:=wP l
theorem I6 {t u:TypeId} {x y:Operand} {p q:UInt8} (ho:o.op= .binOp .add t x y u) (hx:aB S x= .d (.val (.int .u8 (p.toNat:Int)))) (hy:aB S y= .d (.val (.int .u8 (q.toNat:Int)))) (hk:k (.d (.val (.int .u8 ((p+q).toNat:Int)))) H nx [] []):aR P eB o ⟨S,H,nx,df⟩ k:=
 gr ho hx hy rfl rfl (by show PV.d (.val (.int .u8 (IntKind.u8.wrap _)))=_;rw [UC]) hk
theorem UJ (a b:UInt8):IntKind.u8.wrap ((a.toNat:Int)*(b.toNat:Int))=(a*b).toNat:=by
 rw [IntKind.wrap_u8,UInt8.toNat_mul]
 omega
theorem Qj {t u:TypeId} {x y:Operand} {p q:UInt8} (ho:o.op= .binOp .mul t x y u) (hx:aB S x= .d (.val (.int .u8 (p.toNat:Int)))) (hy:aB S y= .d (.val (.int .u8 (q.toNat:Int)))) (hk:k (.d (.val (.int .u8 ((p*q).toNat:Int)))) H nx [] []):aR P eB o ⟨S,H,nx,df⟩ k:=
 gr ho hx hy rfl rfl (by show PV.d (.val (.int .u8 (IntKind.u8.wrap _)))=_;rw [UJ]) hk
theorem Sn {t u:TypeId} {x y:Operand} {p q:UInt8} (ho:o.op= .binOp .or t x y u) (hx:aB S x= .d (.val (.int .u8 (p.toNat:Int)))) (hy:aB S y= .d (.val (.int .u8 (q.toNat:Int)))) (hk:k (.d (.val (.int .u8 ((p||| q).toNat:Int)))) H nx [] []):aR P eB o ⟨S,H,nx,df⟩ k:=
 gr ho hx hy rfl rfl (by show PV.d (.val (.int .u8 (IntKind.u8.wrap _)))=_;rw [Xi]) hk
theorem I7 {t u:TypeId} {x y:Operand} {p q:UInt8} (ho:o.op= .binOp .and t x y u) (hx:aB S x= .d (.val (.int .u8 (p.toNat:Int)))) (hy:aB S y= .d (.val (.int .u8 (q.toNat:Int)))) (hk:k (.d (.val (.int .u8 ((p&&& q).toNat:Int)))) H nx [] []):aR P eB o ⟨S,H,nx,df⟩ k:=
 gr ho hx hy rfl rfl (by show PV.d (.val (.int .u8 (IntKind.u8.wrap _)))=_;rw [UB]) hk
theorem So {q:UInt8} (h:q≠0):(q.toNat:Int)≠0:=by
 intro e;apply h;apply UInt8.toNat_inj.1;show q.toNat=0;omega
theorem Qk {t u:TypeId} {x y:Operand} {p q:UInt8} (ho:o.op= .binOp .quo t x y u) (hx:aB S x= .d (.val (.int .u8 (p.toNat:Int)))) (hy:aB S y= .d (.val (.int .u8 (q.toNat:Int)))) (h:q≠0) (hk:k (.d (.val (.int .u8 ((p/q).toNat:Int)))) H nx [] []):aR P eB o ⟨S,H,nx,df⟩ k:=by
 refine gr ho hx hy rfl ⟨rfl,So h⟩ ?_ hk
 show PV.d (.val (.int .u8 (IntKind.u8.wrap ((p.toNat:Int).tdiv (q.toNat:Int)))))=_
 have e:(p.toNat:Int).tdiv (q.toNat:Int)=((p/q).toNat:Int):=by rw [UInt8.toNat_div];rfl
 rw [e,wO]
theorem D2 {t u:TypeId} {x y:Operand} {p q:UInt8} (ho:o.op= .binOp .rem t x y u) (hx:aB S x= .d (.val (.int .u8 (p.toNat:Int)))) (hy:aB S y= .d (.val (.int .u8 (q.toNat:Int)))) (h:q≠0) (hk:k (.d (.val (.int .u8 ((p%q).toNat:Int)))) H nx [] []):aR P eB o ⟨S,H,nx,df⟩ k:=by
 refine gr ho hx hy rfl ⟨rfl,So h⟩ ?_ hk
 show PV.d (.val (.int .u8 ((p.toNat:Int).tmod (q.toNat:Int))))=_
 have e:(p.toNat:Int).tmod (q.toNat:Int)=((p%q).toNat:Int):=by rw [UInt8.toNat_mod];rfl
 rw [e]
def mP (a:UInt8) (c:Int):UInt8:=UInt8.ofNat (a.toNat/2 ^ (min c.toNat 8))
def qw (a:UInt8) (c:Int):UInt8:=UInt8.ofNat (a.toNat*2 ^ (min c.toNat 8))
theorem I8 {t u:TypeId} {x y:Operand} {p:UInt8} {c:Int} {kd:IntKind} (ho:o.op= .binOp .shr t x y u) (hx:aB S x= .d (.val (.int .u8 (p.toNat:Int)))) (hy:aB S y= .d (.val (.int kd c))) (h:0≤c) (hk:k (.d (.val (.int .u8 ((mP p c).toNat:Int)))) H nx [] []):aR P eB o ⟨S,H,nx,df⟩ k:=by
 refine gr ho hx hy rfl h ?_ hk
 show PV.d (.val (.int .u8 ((p.toNat:Int).fdiv (2 ^ (min c.toNat 8)))))=_
 have h1:p.toNat/2 ^ (min c.toNat 8)<256:=Nat.lt_of_le_of_lt (Nat.div_le_self _ _) (m7 p)
 have e:(p.toNat:Int).fdiv (2 ^ (min c.toNat 8))=((p.toNat/2 ^ (min c.toNat 8):Nat):Int):=by
  rw [Int.fdiv_eq_ediv_of_nonneg _ (by exact Int.le_of_lt (Int.pow_pos (by decide)))]
  push_cast;rfl
 rw [e,mP,UInt8.toNat_ofNat',Nat.mod_eq_of_lt h1]
theorem Ql {t u:TypeId} {x y:Operand} {p:UInt8} {c:Int} {kd:IntKind} (ho:o.op= .binOp .shl t x y u) (hx:aB S x= .d (.val (.int .u8 (p.toNat:Int)))) (hy:aB S y= .d (.val (.int kd c))) (h:0≤c) (hk:k (.d (.val (.int .u8 ((qw p c).toNat:Int)))) H nx [] []):aR P eB o ⟨S,H,nx,df⟩ k:=by
 refine gr ho hx hy rfl h ?_ hk
 show PV.d (.val (.int .u8 (IntKind.u8.wrap ((p.toNat:Int)*2 ^ (min c.toNat 8)))))=_
 have e:(p.toNat:Int)*2 ^ (min c.toNat 8)=((p.toNat*2 ^ (min c.toNat 8):Nat):Int):=by push_cast;rfl
 rw [e,Lt,qw]
theorem Qm {t u:TypeId} {x y:Operand} {p q:aE n UInt8} (ho:o.op= .binOp .eql t x y u) (hb:Lq P t n=true) (hx:aB S x= .d (.agg (p.1.map U))) (hy:aB S y= .d (.agg (q.1.map U))) (hk:k (.d (.val (.bool (p.1==q.1)))) H nx [] []):aR P eB o ⟨S,H,nx,df⟩ k:=
 Qh ho (by rw [hx];rfl) (by rw [hx];rfl) (by rw [hy];rfl) (z0.bytes hb _ _ p.2 q.2) hk
theorem D3 {t u:TypeId} {x y:Operand} {p q:aE n UInt8} (ho:o.op= .binOp .neq t x y u) (hb:Lq P t n=true) (hx:aB S x= .d (.agg (p.1.map U))) (hy:aB S y= .d (.agg (q.1.map U))) (hk:k (.d (.val (.bool (!(p.1==q.1))))) H nx [] []):aR P eB o ⟨S,H,nx,df⟩ k:=
 Qi ho (by rw [hx];rfl) (by rw [hx];rfl) (by rw [hy];rfl) (z0.bytes hb _ _ p.2 q.2) hk
end
theorem x6 {l:List D} {off m:Nat} {d:D} (h:di false m (l.drop off) d) (hl:off+m≤l.length) (hm:0<m):D0 false m off (l.map .d) (.d d):=by
 obtain ⟨h1,h2⟩:=h
 refine ⟨⟨by simpa using hl,hm⟩,?_⟩
 simp only [n7,Bool.false_eq_true,if_false]
 rw [List.getD_eq_getElem?_getD,List.getElem?_map,List.getElem?_eq_getElem (by omega)]
 rw [List.drop_eq_getElem_cons (by omega)] at h2
 exact congrArg PV.d h2
theorem sU {l:List D} {off m:Nat} {c:List D} (h:di true m (l.drop off) (.agg c)) (hl:off+m≤l.length) (hm:0<m):D0 true m off (l.map .d) (.agg (c.map .d)):=by
 obtain ⟨h1,h2⟩:=h
 refine ⟨⟨by simpa using hl,hm⟩,?_⟩
 simp only [n7,if_true]
 injection h2 with h2
 rw [← List.map_drop, ← List.map_take,h2]
theorem aq (a:aE n α):((a.1.map en).map PV.d).length=n:=by simp [a.2]
theorem nT (a:aE n α):0+n≤((a.1.map en).map PV.d).length:=by rw [aq,Nat.zero_add];exact Nat.le_refl _
theorem Pp {c1 c2:List D} (h:c1.length=c2.length):lX (c1.map PV.d) 0 (c2.map PV.d)=c2.map PV.d:=cT (by simpa using h)
theorem Sp {c:List D} {m:Nat} (h:c.length=m):0+m≤(c.map PV.d).length:=by simp [h]
theorem Pq {c:List D} {m:Nat} (h:c.length=m):(c.map PV.d).length=m:=by simpa using h
theorem Gs {l:List D} {j:Nat} (h:∀ x∈l,x.flat=true):∀ x∈l.drop j,x.flat=true:=fun x hx=>h x (List.mem_of_mem_drop hx)
theorem I9 (a:aE n α) (h:∀ y,(en y).flat=true):∀ x∈a.1.map en,x.flat=true:=by
 intro x hx
 obtain ⟨z,_,rfl⟩:=List.mem_map.1 hx;exact h z
theorem View.freeze {s:St} {l:List D} (id t:Nat) (hH:s.H id=some (.var (l.map .d))) (ht:s.S t= .aK id 0) (Lz:b≤s.nx):View N b s ⟨fj s.S (some t) (.d (.cr l)),cE s.H id none,s.nx,s.df⟩:=by
 intro m ρ a w hI
 have qv:=hI.slots t
 rw [ht] at qv
 simp only [aM] at qv
 obtain ⟨b9,c9,YU,_⟩:=qv
 rcases hI.valid.entry id _ trivial hH with ⟨_,e⟩ | ⟨b0,cc,vs,tail,ty,e1,e2,e3,e5,e4⟩
 ·rw [YU] at e;cases e
 clear YU
 have x7:m.le (m.with b0 vs):=fun x y v e=>by
  unfold Mem.with
  split
  ·rename_i hx;rw [hx,e4] at e;cases e
  ·exact e
 have hnew:∀ x y v,(m.with b0 vs) x y=some v→m x y=some v∨x=b0:=by
  intro x y v e
  unfold Mem.with at e
  split at e
  ·rename_i hx;exact .inr hx
  ·exact .inl e
 have hmem:ga (m.with b0 vs) w:=by
  intro x y v e
  unfold Mem.with at e
  split at e
  ·rename_i hx
   subst hx
   refine ⟨?_,e5 v (List.mem_of_getElem? e)⟩
   rw [hY e2]
   have e:vs[y]? =some v:=by simpa using e
   rw [List.getElem?_append_left (List.getElem?_eq_some_iff.1 e).1];exact e
  ·exact hI.valid.mem x y v e
 have hl:=bM.eg (l.map .d) l vs (wP l) e3
 have YW:∀ (l:List D) (us:List Value) (o:Nat),ct m l us→(∀ j v,us[j]? =some v→(m.with b0 vs) b0 (o+j)=some v)→jg (m.with b0 vs) b0 l o:=by
  intro l
  induction l with
  | nil=>intro us o _ _;simp [jg]
  | cons x r ih=>
   intro us o hr hc
   simp only [ct] at hr
   obtain ⟨v,vr,rfl,h1,h2⟩:=hr
   simp only [jg]
   refine ⟨⟨v,by simpa using hc 0 v rfl,h1.mono x7⟩,ih vr (o+1) h2 fun j u hj=>?_⟩
   have:=hc (j+1) u (by simpa using hj)
   rwa [show o+1+j=o+(j+1) by omega]
 have mq:Inv N ⟨fj s.S (some t) (.d (.cr l)),cE s.H id none,s.nx,s.df⟩ (m.with b0 vs) ρ a w:=by
  refine ⟨hI.size,hI.defers.mono x7 (cZ.le_refl _),fun i=>?_,⟨hmem,fun i o _ uj=>?_,fun i j b1 c1 c2 _ _ hi hj fl jd=>?_⟩,fun i hi=>?_,hI.nQ⟩
  ·show aM _ _ (fj s.S (some t) (.d (.cr l)) i) _
   rw [cu]
   split
   ·rename_i e
    subst e
    have:=hI.slots i
    rw [ht] at this
    simp only [aM] at this
    obtain ⟨b',c',hr,ev⟩:=this
    rw [e1] at hr;cases hr
    simp only [aM,bh]
    exact ⟨b0,0,ev,YW l vs 0 hl fun j v hj=>by simp [Mem.with,hj]⟩
   ·exact (hI.slots i).mono x7 (cZ.le_refl _)
  ·by_cases e:i=id
   ·subst e;simp [cE] at uj
   ·simp only [cE,e,if_false] at uj
    have hE:=hI.valid.entry i o trivial uj
    refine hE.move x7 (cZ.le_refl _) rfl (fun _ _ _=>rfl) (fun b' c' hr o' v e'=>?_)
    rcases hnew b' o' v e' with h1 | h1
    ·exact h1
    ·subst h1
     exact absurd (hI.valid.apart i id b' c' cc trivial trivial (by rw [uj];simp) (by rw [hH];simp) hr e1) e
  ·refine hI.valid.apart i j b1 c1 c2 trivial trivial ?_ ?_ fl jd
   ·intro e;apply hi;simp only [cE];split
    ·rfl
    ·exact e
   ·intro e;apply hj;simp only [cE];split
    ·rfl
    ·exact e
  ·simp only [cE]
   split
   ·rfl
   ·exact hI.gP i hi
 have Qn:∀ x,vh ρ (cE s.H id none) (fun _=>True) x→vh ρ s.H (fun _=>True) x:=by
  rintro x ⟨i,c,_,hl,fl⟩
  refine ⟨i,c,trivial,?_,fl⟩
  intro e
  apply hl
  simp only [cE]
  split
  ·rfl
  ·exact e
 have bid:vh ρ s.H (fun _=>True) b0:=⟨id,cc,trivial,by rw [hH];simp,e1⟩
 refine ⟨m.with b0 vs,ρ,mq,⟨⟨x7,Nat.le_refl _,fun _ _ _=>rfl,rfl,rfl,rfl,fun x y v e=>?_⟩,fun c hc=> .inl (Qn c hc),Lz,fun _ _=>rfl⟩⟩
 rcases hnew x y v e with h2 | h2
 ·exact .inl h2
 ·subst h2;exact .inr (.inl bid)
section
variable {S:Nat→PV} {H:HM} {nx:Nat} {df:List (Nat×List PV)} {eB:List Nat} {k:PV→HM→Nat→List Nat→List Nat→Prop}
theorem x8 [Inhabited α] {t:TypeId} {x y:Operand} {a:aE n α} {i:Int} {kd:IntKind} (ho:o.op= .index t x y) (ht:mu P t=some (n,1,false)) (hx:aB S x= .d (.agg (a.1.map en))) (hy:aB S y= .d (.val (.int kd i)))
  (h:0≤i∧i<(n:Int)) (hk:k (.d (en (idx a.1 i))) H nx [] []):aR P eB o ⟨S,H,nx,df⟩ k:=by
 unfold aR;rw [ho]
 have hi:i.toNat<a.1.length:=by rw [a.2];omega
 have e:zW false (a.1.map en) (i.toNat*1) 1=en (idx a.1 i):=by
  simp only [zW,Bool.false_eq_true,if_false,Nat.mul_one]
  exact getD_map (by rw [a.2];exact h)
 simp only [jD,wK,ht,hx,hy,e]
 exact ⟨⟨(fun h=>nomatch h),h,by simp [a.2],by omega⟩,hk⟩
end
end Go.Proofs.YtlfjfoknbjcncaaGreat.K
namespace Go.Proofs.YtlfjfoknbjcncaaGreat.K
open Go Go.RowKit
variable {P:Program} {N b:Nat}
mutual
theorem aM.um {m:Mem} {ρ jO:cZ} {f:Nat→Nat} (hf:∀ i,jO (f i)=ρ i):∀ (p:PV) (v:Value),aM m ρ p v→aM m jO (p.re f) v
 | .d x,v,e=>by simpa [PV.re,aM] using e
 | .full l,v,e=>by simpa [PV.re,aM] using e
 | .own id l,v,e=>by simpa [PV.re,aM,hf] using e
 | .aK id off,v,e=>by simpa [PV.re,aM,hf] using e
 | .gA id off n,v,e=>by simpa [PV.re,aM,hf] using e
 | .room id n,v,e=>by simpa [PV.re,aM,hf] using e
 | .gT g l,v,e=>by
  simp only [PV.re,aM] at e ⊢
  obtain ⟨vs,e1,e2⟩:=e
  exact ⟨vs,e1,bM.um hf l vs e2⟩
 | .agg l,v,e=>by
  simp only [PV.re,aM] at e ⊢
  obtain ⟨vs,e1,e2,e3⟩:=e
  exact ⟨vs,e1,bM.um hf l vs e2,e3⟩
 | .tuple l,v,e=>by
  simp only [PV.re,aM] at e ⊢
  obtain ⟨vs,e1,e2⟩:=e
  exact ⟨vs,e1,bM.um hf l vs e2⟩
 | .cond g p,v,e=>by
  simp only [PV.re,aM] at e ⊢
  exact ⟨fun h=>aM.um hf p v (e.1 h),e.2⟩
 | .dJ,v,e=>by simp [PV.re,aM]
theorem bM.um {m:Mem} {ρ jO:cZ} {f:Nat→Nat} (hf:∀ i,jO (f i)=ρ i):∀ (l:List PV) (vs:List Value),bM m ρ l vs→bM m jO (PV.res f l) vs
 | [],vs,e=>by simpa [PV.res,bM] using e
 | x::r,vs,e=>by
  simp only [PV.res,bM] at e ⊢
  obtain ⟨v,vr,e1,e2,e3⟩:=e
  exact ⟨v,vr,e1,aM.um hf x v e2,bM.um hf r vr e3⟩
end
theorem fX.um {m:Mem} {ρ jO:cZ} {w:World} {i:Nat} {f:Nat→Nat} {o:HO} (hf:∀ i,jO (f i)=ρ i) (h:fX m ρ w i o):fX m jO w (f i) (o.re f):=by
 cases o with
 | var l=>
  simp only [HO.re,fX] at h ⊢
  rcases h with ⟨e0,e⟩ | ⟨b,c,vs,tail,t,e1,e2,e3,e4⟩
  ·exact .inl ⟨by rw [e0];rfl,by rw [hf];exact e⟩
  exact .inr ⟨b,c,vs,tail,t,by rw [hf];exact e1,e2,bM.um hf _ _ e3,e4⟩
 | spare sz n=>
  simp only [HO.re,fX] at h ⊢
  rw [hf];exact h
 | dead=>exact h.elim
 | Bm sz l=>
  simp only [HO.re,fX] at h ⊢
  rcases h with ⟨e0,e⟩ | ⟨b,c,vs,tail,t,e1,e2,e3,e4⟩
  ·exact .inl ⟨by rw [e0];rfl,by rw [hf];exact e⟩
  exact .inr ⟨b,c,vs,tail,t,by rw [hf];exact e1,e2,bM.um hf _ _ e3,e4⟩
def fD (f:Nat→Nat):List HO→Nat→HM→HM
 | [],_,H=>H
 | x::r,i,H=>cE (fD f r (i+1) H) (f i) (lv (x.re f))
theorem Ja {f:Nat→Nat} {H:HM} (hinj:∀ i j,f i=f j→i=j):∀ (M:List HO) (k i:Nat) (o:HO),aj M i=some o→fD f M k H (f (k+i))=some (o.re f)
 | [],_,_,_,h=>by simp [aj] at h
 | x::r,k,0,o,h=>by
  simp only [aj] at h
  simp [fD,cE,Xl h]
 | x::r,k,i+1,o,h=>by
  have:=Ja (H:=H) hinj r (k+1) i o h
  have hne:f (k+(i+1))≠f k:=fun e=>by have:=hinj _ _ e;omega
  simp only [fD,cE,hne,if_false]
  rw [show k+(i+1)=k+1+i by omega];exact this
theorem Gt {f:Nat→Nat} {H:HM} {j:Nat}:∀ (M:List HO) (k:Nat),(∀ i,i<M.length→j≠f (k+i))→fD f M k H j=H j
 | [],_,_=>rfl
 | x::r,k,h=>by
  have h0:j≠f k:=h 0 (by simp)
  simp only [fD,cE,h0,if_false]
  exact Gt r (k+1) fun i hi=>by have:=h (i+1) (by simpa using hi);rwa [show k+(i+1)=k+1+i by omega] at this
theorem EP {f:Nat→Nat} {H:HM} (hinj:∀ i j,f i=f j→i=j):∀ (M:List HO) (k i:Nat),i<M.length→aj M i=none→fD f M k H (f (k+i))=none
 | [],_,_,h,_=>by simp at h
 | x::r,k,0,_,h=>by
  simp only [aj] at h
  have:lv (x.re f)=none:=by cases x<;>simp [lv,HO.re] at h ⊢
  simp [fD,cE,this]
 | x::r,k,i+1,hl,h=>by
  have:=EP (H:=H) hinj r (k+1) i (by simpa using hl) h
  have hne:f (k+(i+1))≠f k:=fun e=>by have:=hinj _ _ e;omega
  simp only [fD,cE,hne,if_false]
  rw [show k+(i+1)=k+1+i by omega];exact this
theorem AX:∀ (M:List HO) (i:Nat) (o:HO),aj M i=some o→i<M.length
 | [],_,_,h=>by simp [aj] at h
 | x::r,0,_,_=>by simp
 | x::r,i+1,o,h=>by have:=AX r i o h;simp;omega
def kF (out:Out) (H:HM) (n:Nat):Out→HM→Nat→Prop:=fun out' H' n'=>out'=out∧H'=H∧n'=n
def Out.re (f:Nat→Nat):Out→Out
 | .ret p=> .ret (p.re f)
 | .mZ p=> .mZ (p.re f)
def jA (F:List Nat) (n nx i:Nat):Nat:=if i<n then F.getD i 0 else nx+(i-n)
theorem Jb {H:HM} {nx:Nat} {M M':List HO} (F:List Nat) (hF:F.length=M.length) (hd:F.Nodup) (hH:wR (iI F nx) H M 0) (hle:M.length≤M'.length)
  {m:Mem} {ρ:cZ} {w:World} (V:dS (fun _=>True) m ρ w H) (hn:∀ i,nx≤i→H i=none) (hρ:∀ i,nx≤i→ρ i=none):
  (dS (fun _=>True) m (fun i=>ρ (iI F nx i)) w (aj M)∧(∀ i,M.length≤i→aj M i=none)∧∀ i,M.length≤i→ρ (iI F nx i)=none)∧
  ∀ (m':Mem) (ρ':cZ) (w':World),dS (fun _=>True) m' ρ' w' (aj M')→(∀ i,M'.length≤i→ρ' i=none)→nH M.length m (fun i=>ρ (iI F nx i)) w (aj M) M'.length m' ρ' w' (aj M')→
   ∃ jO:cZ,dS (fun _=>True) m' jO w' (fD (jA F M.length nx) M' 0 H)∧(∀ i,nx+(M'.length-M.length)≤i→fD (jA F M.length nx) M' 0 H i=none)∧(∀ i,nx+(M'.length-M.length)≤i→jO i=none)∧
    nH nx m ρ w H (nx+(M'.length-M.length)) m' jO w' (fD (jA F M.length nx) M' 0 H)∧∀ p v,aM m' ρ' p v→aM m' jO (p.re (jA F M.length nx)) v:=by
 have Fm:∀ i,i<M.length→∃ x,F[i]? =some x∧iI F nx i=x∧jA F M.length nx i=x:=by
  intro i hi
  refine ⟨F[i]'(by omega),List.getElem?_eq_getElem (by omega),?_,?_⟩
  ·unfold iI;rw [List.getD_eq_getElem?_getD,List.getElem?_eq_getElem (by omega)];rfl
  ·unfold jA;rw [if_pos hi,List.getD_eq_getElem?_getD,List.getElem?_eq_getElem (by omega)];rfl
 have DZ:∀ i o,aj M i=some o→i<M.length∧H (iI F nx i)=some (o.re (iI F nx)):=by
  intro i o h
  have:=Gj M 0 i o hH h
  rw [Nat.zero_add] at this
  exact this
 have hne:∀ i,aj M i≠none→i<M.length∧H (iI F nx i)≠none:=by
  intro i h
  cases hh:aj M i with
  | none=>exact absurd hh h
  | some o=>have:=DZ i o hh;exact ⟨this.1,by rw [this.2];simp⟩
 have Pr:∀ i,i<M.length→iI F nx i<nx:=by
  intro i hi
  have:=I2 M 0 i M[i] hH (List.getElem?_eq_getElem hi)
  rw [Nat.zero_add] at this
  rcases Nat.lt_or_ge (iI F nx i) nx with h | h
  ·exact h
  ·rw [hn _ h] at this;cases this
 have Sq:∀ i j,i<M.length→j<M.length→iI F nx i=iI F nx j→i=j:=by
  intro i j hi hj e
  obtain ⟨x,hx,ex,_⟩:=Fm i hi
  obtain ⟨y,hy,ey,_⟩:=Fm j hj
  rw [ex,ey] at e
  subst e
  obtain ⟨l1,e1⟩:=List.getElem?_eq_some_iff.1 hx
  obtain ⟨l2,e2⟩:=List.getElem?_eq_some_iff.1 hy
  exact (List.getElem_inj hd).1 (e1.trans e2.symm)
 have hinj:∀ i j,jA F M.length nx i=jA F M.length nx j→i=j:=by
  intro i j e
  by_cases hi:i<M.length<;>by_cases hj:j<M.length
  ·obtain ⟨x,_,ex,ex'⟩:=Fm i hi
   obtain ⟨y,_,ey,ey'⟩:=Fm j hj
   exact Sq i j hi hj (by rw [ex,ey, ← ex', ← ey',e])
  ·have h1:=Pr i hi
   obtain ⟨x,_,ex,ex'⟩:=Fm i hi
   rw [ex', ← ex] at e
   unfold jA at e;rw [if_neg hj] at e;omega
  ·have h1:=Pr j hj
   obtain ⟨x,_,ex,ex'⟩:=Fm j hj
   rw [ex', ← ex] at e
   unfold jA at e;rw [if_neg hi] at e;omega
  ·unfold jA at e;rw [if_neg hi,if_neg hj] at e;omega
 have Gk:∀ i,M.length≤i→ρ (iI F nx i)=none:=by
  intro i hi
  have:iI F nx i=nx+i:=by
   unfold iI
   rw [List.getD_eq_getElem?_getD,List.getElem?_eq_none (by omega)];rfl
  rw [this]
  exact hρ _ (Nat.le_add_right _ _)
 have Vs:dS (fun _=>True) m (fun i=>ρ (iI F nx i)) w (aj M):=by
  refine ⟨V.mem,?_,?_⟩
  ·intro i o _ ho
   exact fX.re rfl (fun p v h=>aM.re p v h) (V.entry _ _ trivial (DZ i o ho).2)
  ·intro i j c d d' _ _ hi hj fl jd
   have h1:=hne i hi
   have h2:=hne j hj
   exact Sq i j h1.1 h2.1 (V.apart _ _ _ _ _ trivial trivial h1.2 h2.2 fl jd)
 have Gu:∀ i,M.length≤i→aj M i=none:=by
  intro i hi
  cases hh:aj M i with
  | none=>rfl
  | some o=>have:=AX M i o hh;omega
 refine ⟨⟨Vs,Gu,Gk⟩,?_⟩
 intro m' ρ' w' V' Gv hA
 let jO:cZ:=fun i=>if i<nx then ρ i else ρ' (M.length+(i-nx))
 have LA:∀ i,jO (jA F M.length nx i)=ρ' i:=by
  intro i
  by_cases hi:i<M.length
  ·obtain ⟨x,_,ex,ex'⟩:=Fm i hi
   have h1:=Pr i hi
   show (if _ then _ else _)=_
   rw [ex', ← ex,if_pos h1,hA.old i hi]
  ·show (if _ then _ else _)=_
   unfold jA
   rw [if_neg hi,if_neg (by omega)]
   congr 1;omega
 have LB:ρ.le jO:=by
  intro i x hx
  show (if _ then _ else _)=_
  rcases Nat.lt_or_ge i nx with h | h
  ·rw [if_pos h];exact hx
  ·rw [hρ i h] at hx;cases hx
 have hold:∀ i,i<nx→jO i=ρ i:=fun i hi=>by show (if _ then _ else _)=_;rw [if_pos hi]
 have hin:∀ i o,aj M' i=some o→fD (jA F M.length nx) M' 0 H (jA F M.length nx i)=some (o.re (jA F M.length nx)):=by
  intro i o ho
  have:=Ja (H:=H) hinj M' 0 i o ho
  rwa [Nat.zero_add] at this
 have Ku:∀ j,(∃ i o,aj M' i=some o∧j=jA F M.length nx i)∨fD (jA F M.length nx) M' 0 H j=none∨((∀ i,i<M'.length→j≠jA F M.length nx i)∧fD (jA F M.length nx) M' 0 H j=H j):=by
  intro j
  by_cases h:∃ i,i<M'.length∧j=jA F M.length nx i
  ·obtain ⟨i,hi,e⟩:=h
   cases ho:aj M' i with
   | some o=>exact .inl ⟨i,o,ho,e⟩
   | none=>exact .inr (.inl (by have:=EP (H:=H) hinj M' 0 i hi ho;rw [Nat.zero_add] at this;rw [e];exact this))
  ·have h':∀ i,i<M'.length→j≠jA F M.length nx i:=fun i hi e=>h ⟨i,hi,e⟩
   exact .inr (.inr ⟨h',Gt M' 0 (fun i hi=>by rw [Nat.zero_add];exact h' i hi)⟩)
 have hout:∀ j b c,(∀ i,i<M'.length→j≠jA F M.length nx i)→H j≠none→ρ j=some (b,c)→¬ vh (fun i=>ρ (iI F nx i)) (aj M) (fun _=>True) b:=by
  rintro j b c hj hjn hr ⟨i,d,_,hl,fl⟩
  have h1:=hne i hl
  have:=V.apart j _ _ _ _ trivial trivial hjn h1.2 hr fl
  obtain ⟨x,_,ex,ex'⟩:=Fm i h1.1
  exact hj i (by omega) (by rw [this,ex,ex'])
 have hlt:∀ j b c,H j≠none→ρ j=some (b,c)→b<w.heap.size:=by
  intro j b c hj hr
  cases hh:H j with
  | none=>exact absurd hh hj
  | some o=>exact (V.entry j o trivial hh).oy hr
 have LC:∀ j,H j≠none→j<nx:=by
  intro j hj
  rcases Nat.lt_or_ge j nx with h | h
  ·exact h
  ·exact absurd (hn j h) hj
 have Vb:dS (fun _=>True) m' jO w' (fD (jA F M.length nx) M' 0 H):=by
  refine ⟨V'.mem,?_,?_⟩
  ·intro j o _ ho
   rcases Ku j with ⟨i,o',ho',rfl⟩ | Iq | ⟨hj,e⟩
   ·rw [hin i o' ho'] at ho
    cases ho
    exact fX.um LA (V'.entry i o' trivial ho')
   ·rw [Iq] at ho;cases ho
   ·rw [e] at ho
    have hjn:H j≠none:=by rw [ho];simp
    refine (V.entry j o trivial ho).move hA.ext.mem LB (hold j (LC j hjn)) (fun b' c hr=>?_) (fun b' c hr o' v e'=>?_)
    ·exact hA.ext.block b' (hlt j b' c hjn hr) (hout j b' c hj hjn hr)
    ·rcases hA.ext.new b' o' v e' with h1 | h1 | h1
     ·exact h1
     ·exact absurd h1 (hout j b' c hj hjn hr)
     ·have:=hlt j b' c hjn hr;omega
  ·intro i j b' c c' _ _ hi hj fl jd
   have Sr:∀ i j c c',(∃ p o,aj M' p=some o∧i=jA F M.length nx p)→((∀ q,q<M'.length→j≠jA F M.length nx q)∧fD (jA F M.length nx) M' 0 H j=H j)→fD (jA F M.length nx) M' 0 H j≠none→jO i=some (b',c)→jO j=some (b',c')→False:=by
    rintro i j c c' ⟨p,o,ho,rfl⟩ ⟨hj,e⟩ hjn fl jd
    rw [e] at hjn
    rw [hold j (LC j hjn)] at jd
    rw [LA] at fl
    rcases hA.place b' ⟨p,c,trivial,by rw [ho];simp,fl⟩ with h1 | h1
    ·exact hout j b' c' hj hjn jd h1
    ·have:=hlt j b' c' hjn jd;omega
   have YY:∀ j,fD (jA F M.length nx) M' 0 H j≠none→(∃ i o,aj M' i=some o∧j=jA F M.length nx i)∨((∀ i,i<M'.length→j≠jA F M.length nx i)∧fD (jA F M.length nx) M' 0 H j=H j):=fun j hj=>(Ku j).elim .inl (fun h=>h.elim (fun h=>absurd h hj) .inr)
   rcases YY i hi with Ss | Ss<;>rcases YY j hj with Su | Su
   ·obtain ⟨p,o,ho,rfl⟩:=Ss
    obtain ⟨q,o',ho',rfl⟩:=Su
    rw [LA] at fl jd
    rw [V'.apart p q _ _ _ trivial trivial (by rw [ho];simp) (by rw [ho'];simp) fl jd]
   ·exact (Sr i j c c' Ss Su hj fl jd).elim
   ·exact (Sr j i c' c Su Ss hi jd fl).elim
   ·rw [Ss.2] at hi
    rw [Su.2] at hj
    rw [hold i (LC i hi)] at fl
    rw [hold j (LC j hj)] at jd
    exact V.apart i j b' c c' trivial trivial hi hj fl jd
 refine ⟨jO,Vb,?_,?_,⟨hA.ext.mono ?_,LB,?_,by omega,hold⟩,fun p v h=>aM.um LA p v h⟩
 ·intro j hj
  rcases Ku j with ⟨i,o,ho,rfl⟩ | Iq | ⟨_,e⟩
  rotate_left
  ·exact Iq
  rotate_left
  ·have h1:=AX M' i o ho
   unfold jA at hj
   split at hj
   ·rename_i h2
    obtain ⟨x,hx,ex,ex'⟩:=Fm i h2
    have h3:=Pr i h2
    have:F.getD i 0=x:=by rw [List.getD_eq_getElem?_getD,hx];rfl
    rw [this, ← ex] at hj;omega
   ·omega
  ·rw [e];exact hn j (by omega)
 ·intro j hj
  show (if _ then _ else _)=_
  rw [if_neg (by omega)]
  exact Gv _ (by omega)
 ·rintro b' ⟨i,c,_,hl,fl⟩
  exact ⟨iI F nx i,c,trivial,(hne i hl).2,fl⟩
 ·rintro b' ⟨j,c,_,hl,jd⟩
  rcases Ku j with ⟨i,o,ho,rfl⟩ | Iq | ⟨_,e⟩
  rotate_left
  ·exact absurd Iq hl
  rotate_left
  ·rw [LA] at jd
   rcases hA.place b' ⟨i,c,trivial,by rw [ho];simp,jd⟩ with ⟨p,c',_,hl',hp⟩ | h1
   ·exact .inl ⟨iI F nx p,c',trivial,(hne p hl').2,hp⟩
   ·exact .inr h1
  ·rw [e] at hl
   rw [hold j (LC j hl)] at jd
   exact .inl ⟨j,c,trivial,hl,jd⟩
theorem z8 {H:HM} {nx:Nat} {f:Nat} {args:List PV} {M M':List HO} {out:Out} (F:List Nat) (hS:Spec P f args (aj M) M.length (kF out (aj M') M'.length))
  (hF:F.length=M.length) (hd:F.Nodup) (hH:wR (iI F nx) H M 0) (hle:M.length≤M'.length):
  ∀ (m:Mem) (ρ:cZ) (w:World) (vs:List Value),dS (fun _=>True) m ρ w H→(∀ i,nx≤i→H i=none)→(∀ i,nx≤i→ρ i=none)→bM m ρ (PV.res (iI F nx) args) vs→
   Calls P f ⟨vs⟩ w fun e w'=>∃ m' ρ',dS (fun _=>True) m' ρ' w' (fD (jA F M.length nx) M' 0 H)∧(∀ i,nx+(M'.length-M.length)≤i→fD (jA F M.length nx) M' 0 H i=none)∧(∀ i,nx+(M'.length-M.length)≤i→ρ' i=none)∧
    nH nx m ρ w H (nx+(M'.length-M.length)) m' ρ' w' (fD (jA F M.length nx) M' 0 H)∧RE m' ρ' (out.re (jA F M.length nx)) e:=by
 intro m ρ w vs V hn hρ hr
 obtain ⟨⟨Vs,Gu,Gk⟩,tr⟩:=Jb (M':=M') F hF hd hH hle V hn hρ
 refine (hS m (fun i=>ρ (iI F nx i)) w vs Vs Gu Gk (bM.re args vs hr)).mono ?_
 rintro e w' ⟨out',H',cC,m',ρ',⟨rfl,rfl,rfl⟩,V',hn',Gv,hA,Ix⟩
 obtain ⟨jO,h1,h2,h3,h4,h5⟩:=tr m' ρ' w' V' Gv hA
 refine ⟨m',jO,h1,h2,h3,h4,?_⟩
 cases out' with
 | ret p=>obtain ⟨v,rfl,hv⟩:=Ix;exact ⟨v,rfl,h5 p v hv⟩
 | mZ p=>obtain ⟨v,rfl,hv⟩:=Ix;exact ⟨v,rfl,h5 p v hv⟩
section
variable {ops:Array Oper} {o:Oper} {r:List Oper} {S:Nat→PV} {H:HM} {nx:Nat} {df:List (Nat×List PV)} {Q:PX→St→Prop}
theorem cg {c:Call} {f:Nat} {args:List PV} {M M':List HO} {out:Out} (F:List Nat) (ho:o.op= .call c) (hc:c.callee= .value (.func f)) (he:aN P f=true) (hS:Spec P f args (aj M) M.length (kF out (aj M') M'.length))
  (ha:c.args.toList.map (aB S)=PV.res (iI F nx) args) (hF:F.length=M.length) (hd:F.Nodup) (hH:wR (iI F nx) H M 0) (hle:M.length≤M'.length):
  DT P o ⟨S,H,nx,df⟩ fun out' H' cC=>out'=out.re (jA F M.length nx)∧H'=fD (jA F M.length nx) M' 0 H∧cC=nx+(M'.length-M.length):=by
 intro m ρ a w K Q V hn hρ hx h1 h2
 have hx':∀ x∈c.args.toList,aM m ρ (aB S x) (a.eval x):=fun x hx'=>hx x (by simp only [ho,Op.operands,Call.operands];simp only [Array.mem_append];exact .inr (by simpa using hx'))
 unfold Oper.wp
 rw [oF ho hc he,Oper.upon_enter]
 have hr:=oB (s:=⟨S,H,nx,df⟩) c.args.toList hx'
 have hr':bM m ρ (PV.res (iI F nx) args) (c.args.toList.map a.eval):=ha▸hr
 have:=z8 F hS hF hd hH hle m ρ w _ V hn hρ hr'
 have e:(⟨c.args.toList.map a.eval⟩:Array Value)=c.args.map a.eval:=by apply Array.ext';simp
 rw [e] at this
 refine this.mono ?_
 rintro e w' ⟨m',ρ',V',hn',hr',hA,Ix⟩
 cases out with
 | ret p=>obtain ⟨v,rfl,hv⟩:=Ix;exact h1 _ _ _ m' ρ' w' v ⟨rfl,rfl,rfl⟩ V' hn' hr' hA hv
 | mZ p=>obtain ⟨v,rfl,hv⟩:=Ix;exact h2 _ _ _ m' ρ' w' v ⟨rfl,rfl,rfl⟩ V' hn' hr' hA hv
theorem LD {c:Call} {f t:Nat} {args caps:List PV} {M M':List HO} {out:Out} (F:List Nat) (ho:o.op= .call c) (hc:c.callee= .value (.tmp t)) (ht:S t= .gT f caps) (he:aN P f=true) (hS:Spec P f args (aj M) M.length (kF out (aj M') M'.length))
  (ha:c.args.toList.map (aB S)++caps=PV.res (iI F nx) args) (hF:F.length=M.length) (hd:F.Nodup) (hH:wR (iI F nx) H M 0) (hle:M.length≤M'.length):
  DT P o ⟨S,H,nx,df⟩ fun out' H' cC=>out'=out.re (jA F M.length nx)∧H'=fD (jA F M.length nx) M' 0 H∧cC=nx+(M'.length-M.length):=by
 intro m ρ a w K Q V hn hρ hx h1 h2
 have hx':∀ x∈c.args.toList,aM m ρ (aB S x) (a.eval x):=fun x hx'=>hx x (by simp only [ho,Op.operands,Call.operands];simp only [Array.mem_append];exact .inr (by simpa using hx'))
 have h0:=hx (.tmp t) (by simp [ho,Op.operands,Call.operands,hc])
 have Kv:aM m ρ (.gT f caps) (a.eval (.tmp t)):=ht▸h0
 simp only [aM] at Kv
 obtain ⟨cs,Xf,hcs⟩:=Kv
 unfold Oper.wp
 rw [BC ho hc Xf he,Oper.upon_enter]
 have hr:=uM (oB (s:=⟨S,H,nx,df⟩) c.args.toList hx') hcs
 have hr':bM m ρ (PV.res (iI F nx) args) (c.args.toList.map a.eval++cs):=ha▸hr
 have:=z8 F hS hF hd hH hle m ρ w _ V hn hρ hr'
 have e:(⟨c.args.toList.map a.eval++cs⟩:Array Value)=c.args.map a.eval++⟨cs⟩:=by apply Array.ext';simp
 rw [e] at this
 refine this.mono ?_
 rintro e w' ⟨m',ρ',V',hn',hr',hA,Ix⟩
 cases out with
 | ret p=>obtain ⟨v,rfl,hv⟩:=Ix;exact h1 _ _ _ m' ρ' w' v ⟨rfl,rfl,rfl⟩ V' hn' hr' hA hv
 | mZ p=>obtain ⟨v,rfl,hv⟩:=Ix;exact h2 _ _ _ m' ρ' w' v ⟨rfl,rfl,rfl⟩ V' hn' hr' hA hv
theorem XK.fr {out:Out} {H2:HM} {lF n:Nat} {p:PV} (d:Option Nat) (hd:o.dst=d) (hg:o.guard=none) {f:Nat→Nat} {M':List HO} (h:DT P o ⟨S,H,nx,df⟩ fun out' H' cC=>out'=out.re f∧H'=fD f M' 0 H∧cC=nx+n)
  (ho:out.re f= .ret p) (hH:fD f M' 0 H=H2) (hn:nx+n=lF) (k:XK P ops r ⟨fj S d p,H2,lF,df⟩ Q):XK P ops (o::r) ⟨S,H,nx,df⟩ Q:=by
 subst hd hH hn
 refine fun gP=> .call hg h ?_ ?_
 ·rintro p' H' cC ⟨e,rfl,rfl⟩ hn'
  rw [ho] at e
  cases e
  exact k hn'
 ·rintro p' H' cC ⟨e,rfl,rfl⟩
  rw [ho] at e
  cases e
theorem XK.fp {out:Out} {H2:HM} {lF n:Nat} {p:PV} (hg:o.guard=none) {f:Nat→Nat} {M':List HO} (h:DT P o ⟨S,H,nx,df⟩ fun out' H' cC=>out'=out.re f∧H'=fD f M' 0 H∧cC=nx+n)
  (ho:out.re f= .mZ p) (hH:fD f M' 0 H=H2) (hn:nx+n=lF) (k:Q (.panic p) ⟨S,H2,lF,df⟩):XK P ops (o::r) ⟨S,H,nx,df⟩ Q:=by
 subst hH hn
 refine fun gP=> .call hg h ?_ ?_
 ·rintro p' H' cC ⟨e,rfl,rfl⟩ hn'
  rw [ho] at e
  cases e
 ·rintro p' H' cC ⟨e,rfl,rfl⟩
  rw [ho] at e
  cases e
  exact k
theorem XK.panic {x:Operand} {t:TypeId} {y:D} (hg:o.guard=none) (ho:o.op= .panic x) (hx:aB S x= .d (.iface t y)) (k:Q (.panic (.d (.iface t y))) ⟨S,H,nx,df⟩):XK P ops (o::r) ⟨S,H,nx,df⟩ Q:=by
 refine fun gP=> .call (post:=fun out' H' cC=>out'= .mZ (.d (.iface t y))∧H'=H∧cC=nx) hg ?_ ?_ ?_
 ·intro m ρ a w K Q V hn hρ hxs h1 h2
  have h0:=hxs x (by simp [ho,Op.operands])
  have Kv:aM m ρ (.d (.iface t y)) (a.eval x):=hx▸h0
  have YZ:=Kv
  simp only [aM,bh] at Kv
  obtain ⟨u,hv,_⟩:=Kv
  unfold Oper.wp
  have hrun:(execOp a.eval o).run P w= .halt (.panic (.iface t u)) w:=by
   obtain ⟨dst,op,type,pos,after,guard⟩:=o
   simp only at ho
   subst ho
   simp only [execOp,hv]
   rfl
  rw [hrun,Oper.upon_panic]
  exact h2 _ _ _ m ρ w _ ⟨rfl,rfl,rfl⟩ V hn hρ (nH.refl _ _ _ _ _) (hv▸YZ)
 ·rintro p' H' cC ⟨e,rfl,rfl⟩ hn';cases e
 ·rintro p' H' cC ⟨e,rfl,rfl⟩;cases e;exact k
variable {eB:List Nat} {k:PV→HM→Nat→List Nat→List Nat→Prop}
theorem AY {t:TypeId} {x:Operand} {y:D} (ho:o.op= .makeInterface t x) (hx:(aB S x).cW=some y) (ht:vn P t=true) (hk:k (.d (.iface t y)) H nx [] []):aR P eB o ⟨S,H,nx,df⟩ k:=by
 unfold aR;rw [ho];simp only [jD,hx];exact ⟨ht,hk⟩
end
def Gw:List PV→Nat→List (Nat×PV)
 | [],_=>[]
 | x::r,i=>(i,x)::Gw r (i+1)
theorem LF:∀ (l:List PV) (i t:Nat),aF (Gw l i) (i+t)=l8 l t
 | [],_,_=>by simp [Gw,aF,l8]
 | x::r,i,0=>by simp [Gw,aF,l8]
 | x::r,i,t+1=>by
  have:=LF r (i+1) t
  unfold Gw aF
  rw [if_neg (by simp only;omega),show i+(t+1)=i+1+t by omega,this]
  simp [l8]
theorem View.l8 {args:List PV} {L:List (Nat×PV)} {M:List HO} {n:Nat} (hb:b≤n) (h:L=Gw args 0):View N b ⟨K.l8 args,aj M,n,[]⟩ ⟨aF L,aj M,n,[]⟩:=by
 subst h
 have e1:aF (Gw args 0)=K.l8 args:=by funext t;have:=LF args 0 t;rwa [Nat.zero_add] at this
 rw [e1]
 exact View.refl hb
theorem NJ {m:Mem} {ρ:cZ} {p q:PV} (h:iy p q):∀ (l:List PV) (vs:List Value) (j:Nat),l[j]? =some p→bM m ρ l vs→bM m ρ (l.set j q) vs:=DX (h m ρ)
theorem View.Sv {s:St} {l:List PV} {p:PV} {x:D} (id j:Nat) (hH:s.H id=some (.var l)) (hj:l[j]? =some p) (hp:p.cW=some x) (hb:b≤s.nx):
  View N b s ⟨s.S,cE s.H id (some (.var (l.set j (.d x)))),s.nx,s.df⟩:=by
 refine View.of hb fun m ρ a w hI=>?_
 have live:∀ k,cE s.H id (some (.var (l.set j (.d x)))) k≠none→s.H k≠none:=by
  intro k
  simp only [cE]
  split
  ·rename_i e;intro _;rw [e,hH];simp
  ·exact fun h=>h
 refine ⟨ρ,⟨hI.size,hI.defers,hI.slots,⟨hI.valid.mem,fun i o _ uj=>?_,fun i j b c c' _ _ hi hj fl jd=>?_⟩,fun i hi=>?_,hI.nQ⟩,?_,fun _ _=>rfl⟩
 ·by_cases e2:i=id
  ·subst e2
   simp only [cE,if_true,Option.some.injEq] at uj
   subst uj
   rcases hI.valid.entry i _ trivial hH with ⟨e0,_⟩ | ⟨b,c,vs,tail,t,e1,e2,e3,e5,e4⟩
   ·rw [e0] at hj;cases hj
   exact .inr ⟨b,c,vs,tail,t,e1,e2,NJ (iy.cW hp) _ _ _ hj e3,e5,e4⟩
  ·simp only [cE,e2,if_false] at uj
   exact hI.valid.entry i o trivial uj
 ·exact hI.valid.apart i j b c c' trivial trivial (live i hi) (live j hj) fl jd
 ·have e2:i≠id:=by
   intro e;subst e
   have h1:s.nx≤i:=hi
   rw [hI.gP i h1] at hH;cases hH
  simp only [cE,e2,if_false]
  exact hI.gP i hi
 ·rintro b' ⟨i,c,_,hl,fl⟩
  exact ⟨i,c,trivial,live i hl,fl⟩
def Ca (P:Program) (rs:List ResultVar) (N b:Nat) (post:Out→HM→Nat→Prop) (px:PX) (s:St):Prop:=
 ∃ s',View N b s s'∧Xg P rs post px s'∧∀ p,px= .panic p→∃ x,p= .d x
theorem Ca.none {s s':St} {px:PX} {H:HM} {n:Nat} (hp:px= .normal∨px= .ret) (hv:View N b s s') (hd:s'.df=[]) (hH:s'.H=H) (hn:s'.nx=n):Ca P [] N b (kF (.ret (.tuple [])) H n) px s:=by
 refine ⟨s',hv,?_,fun p e=>?_⟩
 ·rcases hp with rfl | rfl
  ·exact ⟨hd,by simp [oG],s'.H,fun _=> .inr rfl,rfl,hH,hn⟩
  ·exact ⟨hd,by simp [oG],s'.H,fun _=> .inr rfl,rfl,hH,hn⟩
 ·rcases hp with rfl | rfl<;>cases e
mutual
def PV.bK (n:Nat):PV→Bool
 | .d _=>true
 | .full _=>true
 | .own id _=>decide (id<n)
 | .aK id _=>decide (id<n)
 | .gA id _ _=>decide (id<n)
 | .room id _=>decide (id<n)
 | .gT _ l=>PV.bf n l
 | .agg l=>PV.bf n l
 | .tuple l=>PV.bf n l
 | .cond _ p=>PV.bK n p
 | .dJ=>true
def PV.bf (n:Nat):List PV→Bool
 | []=>true
 | x::r=>PV.bK n x&&PV.bf n r
end
theorem cy (n:Nat):∀ l:List D,PV.bf n (l.map .d)=true
 | []=>rfl
 | x::r=>by simp [PV.bf,PV.bK,cy n r]
mutual
theorem aM.bK {m:Mem} {ρ jO:cZ} {n:Nat} (h:∀ i,i<n→jO i=ρ i):∀ (p:PV) (v:Value),p.bK n=true→aM m ρ p v→aM m jO p v
 | .d x,v,_,e=>by simpa [aM] using e
 | .full l,v,_,e=>by simpa [aM] using e
 | .own id l,v,b,e=>by
  simp only [PV.bK,decide_eq_true_eq] at b
  simp only [aM] at e ⊢
  rw [h id b];exact e
 | .aK id off,v,b,e=>by
  simp only [PV.bK,decide_eq_true_eq] at b
  simp only [aM] at e ⊢
  rw [h id b];exact e
 | .gA id off n',v,b,e=>by
  simp only [PV.bK,decide_eq_true_eq] at b
  simp only [aM] at e ⊢
  rw [h id b];exact e
 | .room id n',v,b,e=>by
  simp only [PV.bK,decide_eq_true_eq] at b
  simp only [aM] at e ⊢
  rw [h id b];exact e
 | .gT g l,v,b,e=>by
  simp only [PV.bK] at b
  simp only [aM] at e ⊢
  obtain ⟨vs,e1,e2⟩:=e
  exact ⟨vs,e1,bM.bK h l vs b e2⟩
 | .agg l,v,b,e=>by
  simp only [PV.bK] at b
  simp only [aM] at e ⊢
  obtain ⟨vs,e1,e2,e3⟩:=e
  exact ⟨vs,e1,bM.bK h l vs b e2,e3⟩
 | .tuple l,v,b,e=>by
  simp only [PV.bK] at b
  simp only [aM] at e ⊢
  obtain ⟨vs,e1,e2⟩:=e
  exact ⟨vs,e1,bM.bK h l vs b e2⟩
 | .cond g p,v,b,e=>by
  simp only [PV.bK] at b
  simp only [aM] at e ⊢
  exact ⟨fun hg=>aM.bK h p v b (e.1 hg),e.2⟩
 | .dJ,v,_,e=>by simp [aM]
theorem bM.bK {m:Mem} {ρ jO:cZ} {n:Nat} (h:∀ i,i<n→jO i=ρ i):∀ (l:List PV) (vs:List Value),PV.bf n l=true→bM m ρ l vs→bM m jO l vs
 | [],vs,_,e=>by simpa [bM] using e
 | x::r,vs,b,e=>by
  simp only [PV.bf,Bool.and_eq_true] at b
  simp only [bM] at e ⊢
  obtain ⟨v,vr,e1,e2,e3⟩:=e
  exact ⟨v,vr,e1,aM.bK h x v b.1 e2,bM.bK h r vr b.2 e3⟩
end
def HO.bK (n:Nat):HO→Bool
 | .var l=>PV.bf n l
 | .spare _ _=>true
 | .dead=>true
 | .Bm _ l=>PV.bf n l
def HO.bf (n:Nat):List HO→Bool
 | []=>true
 | x::r=>HO.bK n x&&HO.bf n r
theorem HO.Gx {n:Nat}:∀ {M:List HO} {i:Nat} {o:HO},HO.bf n M=true→aj M i=some o→o.bK n=true
 | [],_,_,_,h=>by simp [aj] at h
 | x::r,0,o,hb,h=>by
  simp only [HO.bf,Bool.and_eq_true] at hb
  simp only [aj] at h
  have e:=C3 h
  subst e;exact hb.1
 | x::r,i+1,o,hb,h=>by
  simp only [HO.bf,Bool.and_eq_true] at hb
  exact HO.Gx hb.2 h
theorem dR:∀ (M E:List HO) (i:Nat),i<M.length→aj (M++E) i=aj M i
 | [],_,_,h=>by simp at h
 | x::r,E,0,_=>rfl
 | x::r,E,i+1,h=>dR r E i (by simpa using h)
def fY (P:Program) (rs:List ResultVar) (N b n:Nat) (M':List HO) (out:Out) (px:PX) (s:St):Prop:=
 ∃ s',View N b s s'∧s'.df=[]∧n≤s'.nx∧(∀ i,i<n→s'.H i=aj M' i)∧M'.length=n∧HO.bf n M'=true∧
 match px with
 | .normal | .ret=>(oG P rs s').2∧out= .ret (oG P rs s').1∧(oG P rs s').1.bK n=true
 | .panic p=>(∃ x,p= .d x)∧out= .mZ p
 | .exit _=>False
theorem Spec.pE {f:Nat} {fn:Func} {c:Code} {args:List PV} {M M':List HO} {nx n:Nat} {out:Out} (hf:P.funcs[f]? =some fn) (hb:fn.body=some c) (hN:args.length≤fn.ntmps) (hle:nx≤n)
  (h:QW P fn.ntmps nx c ⟨l8 args,aj M,nx,[]⟩ (fY P fn.results.toList fn.ntmps nx n M' out)):Spec P f args (aj M) nx (kF out (aj M') n):=by
 refine fun m ρ w vs V hn hρ hr=>?_
 refine calls_of_wp hf hb (wp_mono (h.2 m ρ _ w (B7 V hn hρ hr hN)) ?_)
 rintro e a w' ⟨px,s,m',ρ',⟨s',hv,hdf,hnx,hH,hlen,Pt,hpost⟩,sw,hI,UK⟩
 obtain ⟨m2,jO,zO,DY⟩:=hv m' ρ' a w' hI
 have hA:=(UK.trans DY).NH hρ
 have hd:=zO.defers
 rw [hdf] at hd
 let NK:cZ:=fun i=>if i<n then jO i else none
 have h3:∀ i,i<n→NK i=jO i:=fun i hi=>by show (if _ then _ else _)=_;rw [if_pos hi]
 have Xn:∀ i,n≤i→NK i=none:=fun i hi=>by show (if _ then _ else _)=_;rw [if_neg (by omega)]
 have hlt:∀ i o,aj M' i=some o→i<n:=fun i o ho=>hlen▸AX M' i o ho
 have sub:∀ i,aj M' i≠none→i<n∧s'.H i≠none:=by
  intro i hi
  cases hh:aj M' i with
  | none=>exact absurd hh hi
  | some o=>have h1:=hlt i o hh;exact ⟨h1,by rw [hH i h1,hh];simp⟩
 have V3:dS (fun _=>True) m2 NK w' (aj M'):=by
  refine ⟨zO.valid.mem,fun i o _ ho=>?_,fun i j b' c c' _ _ hi hj fl jd=>?_⟩
  ·have h1:=hlt i o ho
   have hE:=zO.valid.entry i o trivial (by rw [hH i h1,ho])
   have Y0:=HO.Gx Pt ho
   cases o with
   | var l=>
    simp only [fX] at hE ⊢
    rcases hE with ⟨e0,e⟩ | ⟨b,c,vs,tail,t,e1,e2,e3,e4⟩
    ·exact .inl ⟨e0,by rw [h3 i h1];exact e⟩
    exact .inr ⟨b,c,vs,tail,t,by rw [h3 i h1];exact e1,e2,bM.bK h3 l vs Y0 e3,e4⟩
   | spare sz k=>
    simp only [fX] at hE ⊢
    rw [h3 i h1];exact hE
   | dead=>exact hE.elim
   | Bm sz l=>
    simp only [fX] at hE ⊢
    rcases hE with ⟨e0,e⟩ | ⟨b,c,vs,tail,t,e1,e2,e3,e4⟩
    ·exact .inl ⟨e0,by rw [h3 i h1];exact e⟩
    exact .inr ⟨b,c,vs,tail,t,by rw [h3 i h1];exact e1,e2,bM.bK h3 l vs Y0 e3,e4⟩
  ·have h1:=sub i hi
   have h2:=sub j hj
   rw [h3 i h1.1] at fl
   rw [h3 j h2.1] at jd
   exact zO.valid.apart i j b' c c' trivial trivial h1.2 h2.2 fl jd
 have Xo:∀ i,n≤i→aj M' i=none:=by
  intro i hi
  cases hh:aj M' i with
  | none=>rfl
  | some o=>have:=hlt i o hh;omega
 have A3:nH nx m ρ w (aj M) n m2 NK w' (aj M'):=by
  refine ⟨hA.ext,fun i x hx=>?_,?_,hle,fun i hi=>?_⟩
  ·rcases Nat.lt_or_ge i nx with h1 | h1
   ·rw [h3 i (by omega)];exact hA.oy i x hx
   ·rw [hρ i h1] at hx;cases hx
  ·rintro b' ⟨i,c,_,hl,fl⟩
   have h1:=sub i hl
   rw [h3 i h1.1] at fl
   exact hA.place b' ⟨i,c,trivial,h1.2,fl⟩
  ·rw [h3 i (by omega)];exact hA.old i hi
 cases px with
 | exit i=>exact hpost.elim
 | normal=>
  obtain ⟨hres,rfl,Xp⟩:=hpost
  obtain ⟨v,RW,iQ⟩:=nI (P:=P) zO hres
  simp only [RX] at sw;subst sw
  exact ⟨hd,v,RW,_,_,_,m2,NK,⟨rfl,rfl,rfl⟩,V3,Xo,Xn,A3,v,rfl,aM.bK h3 _ _ Xp iQ⟩
 | ret=>
  obtain ⟨hres,rfl,Xp⟩:=hpost
  obtain ⟨v,RW,iQ⟩:=nI (P:=P) zO hres
  simp only [RX] at sw;subst sw
  exact ⟨hd,v,RW,_,_,_,m2,NK,⟨rfl,rfl,rfl⟩,V3,Xo,Xn,A3,v,rfl,aM.bK h3 _ _ Xp iQ⟩
 | panic p=>
  obtain ⟨v,rfl,UL⟩:=sw
  obtain ⟨⟨x,rfl⟩,rfl⟩:=hpost
  refine ⟨hd,_,_,_,m2,NK,⟨rfl,rfl,rfl⟩,V3,Xo,Xn,A3,v,rfl,?_⟩
  simp only [aM] at UL ⊢
  exact UL.mono DY.ext.mem
theorem fY.mZ {rs:List ResultVar} {s s':St} {x:D} {n:Nat} {M':List HO} (hv:View N b s s') (hd:s'.df=[]) (hn:n≤s'.nx) (hH:∀ i,i<n→s'.H i=aj M' i) (hl:M'.length=n) (hb:HO.bf n M'=true):
  fY P rs N b n M' (.mZ (.d x)) (.panic (.d x)) s:=⟨s',hv,hd,hn,hH,hl,hb,⟨x,rfl⟩,rfl⟩
theorem fY.none {s s':St} {px:PX} {n:Nat} {M':List HO} (hp:px= .normal∨px= .ret) (hv:View N b s s') (hd:s'.df=[]) (hn:n≤s'.nx) (hH:∀ i,i<n→s'.H i=aj M' i) (hl:M'.length=n) (hb:HO.bf n M'=true):
  fY P [] N b n M' (.ret (.tuple [])) px s:=by
 refine ⟨s',hv,hd,hn,hH,hl,hb,?_⟩
 rcases hp with rfl | rfl<;>exact ⟨by simp [oG],rfl,rfl⟩
theorem fY.one {s s':St} {r:ResultVar} {p:PV} {px:PX} {n:Nat} {M':List HO} (hp:px= .normal∨px= .ret) (hv:View N b s s') (hd:s'.df=[]) (hn:n≤s'.nx) (hH:∀ i,i<n→s'.H i=aj M' i) (hl:M'.length=n) (hb:HO.bf n M'=true)
  (h:aG P s' r p) (Xq:p.bK n=true):fY P [r] N b n M' (.ret p) px s:=by
 refine ⟨s',hv,hd,hn,hH,hl,hb,?_⟩
 obtain ⟨h1,h2⟩:=h
 rcases hp with rfl | rfl<;>exact ⟨h1,congrArg Out.ret h2.symm,by show (n8 P s' r).1.bK n=true;rw [h2];exact Xq⟩
theorem fY.more {s s':St} {r r':ResultVar} {rs:List ResultVar} {ps:List PV} {px:PX} {n:Nat} {M':List HO} (hp:px= .normal∨px= .ret) (hv:View N b s s') (hd:s'.df=[]) (hn:n≤s'.nx) (hH:∀ i,i<n→s'.H i=aj M' i) (hl:M'.length=n) (hb:HO.bf n M'=true)
  (h:uQ P s' (r::r'::rs) ps) (Xq:PV.bf n ps=true):fY P (r::r'::rs) N b n M' (.ret (.tuple ps)) px s:=by
 refine ⟨s',hv,hd,hn,hH,hl,hb,?_⟩
 have:=uQ.spec _ _ h
 have e1:(oG P (r::r'::rs) s').2:=by rw [AW];exact this.2
 have e2:(oG P (r::r'::rs) s').1= .tuple ps:=by rw [AW];show PV.tuple _=_;rw [this.1]
 rcases hp with rfl | rfl<;>exact ⟨e1,congrArg Out.ret e2.symm,by rw [e2];exact Xq⟩
end Go.Proofs.YtlfjfoknbjcncaaGreat.K
namespace Go.Proofs.YtlfjfoknbjcncaaGreat.K
open Go Go.RowKit
variable {P:Program} {N b:Nat}
def C7 (m:Mem):Option D→FrameMode→Prop
 | none,u=>u= .returning
 | some d,u=>∃ v,bh m d v∧u= .panicking [{v:=v,recovered:=false}]
def x9 (P:Program) (f:Nat) (args:List PV) (M:List HO) (x:Option D) (M':List HO):Prop:=
 ∀ m ρ w vs u,dS (fun _=>True) m ρ w (aj M)→(∀ i,M.length≤i→aj M i=none)→(∀ i,M.length≤i→ρ i=none)→bM m ρ args vs→C7 m x u→
  CallsD P f ⟨vs⟩ u w fun e u' w'=>∃ v m' ρ',e= .returned v∧settle u'= .returning∧dS (fun _=>True) m' ρ' w' (aj M')∧(∀ i,M'.length≤i→ρ' i=none)∧nH M.length m ρ w (aj M) M'.length m' ρ' w' (aj M')
def zB:Option D→PV
 | none=> .d (.val .nilIface)
 | some d=> .d d
section
variable {ops:Array Oper} {Q:Exit→Act→List Frame→World→Prop} {i:Nat} {l:List Nat} {a:Act} {cs cs':List Frame} {w:World} {o:Oper} {v:Value}
theorem ER (ho:ops[i]? =some o) (hw:Region.wanted o (yielded ops a.tmps)=true) (hr:(execOp a.eval o).run P w= .ok .recover w) (h:(match recoverD cs with | some x=>x | none=>(.nilIface,cs))=(v,cs'))
  (k:wpOpsS P ops Q l (a.put o.dst v) cs' w):wpOpsS P ops Q (i::l) a cs w:=by
 unfold wpOpsS
 simp only [ho,hw,if_true,hr]
 cases hc:recoverD cs with
 | none=>rw [hc] at h;cases h;exact k
 | some x=>rw [hc] at h;simp only at h;subst h;exact k
theorem LG (ho:ops[i]? =some o) (hw:Region.wanted o (yielded ops a.tmps)=true) (hr:(execOp a.eval o).run P w= .ok (.value v) w) (k:wpOpsS P ops Q l (a.put o.dst v) cs w):wpOpsS P ops Q (i::l) a cs w:=by
 unfold wpOpsS
 simp only [ho,hw,if_true,hr]
 exact k
end
theorem x9.LH {fd:Nat} {fn:Func} {id t t2:Nat} {o0 o1:Oper} {rest:Code} {c0:Call} {args:List PV} {M M':List HO} {r:PV} (x:Option D) (hf:P.funcs[fd]? =some fn) (hb:fn.body=some (.seq (.region id #[o0,o1] false) rest))
  (h0:o0.op= .call c0) (hc0:c0.callee= .builtin .recover) (g0:o0.guard=none) (g1:o1.guard=none) (d0:o0.dst=some t) (h1:o1.op= .assign (.tmp t)) (d1:o1.dst=some t2) (ht:t<fn.ntmps) (ht2:t2<fn.ntmps) (hN:args.length≤fn.ntmps)
  (h:QW P fn.ntmps M.length rest ⟨fj (fj (l8 args) (some t) (zB x)) (some t2) (zB x),aj M,M.length,[]⟩ (Ca P fn.results.toList fn.ntmps M.length (kF (.ret r) (aj M') M'.length))):x9 P fd args M x M':=by
 intro m ρ w vs u V gP hρ hr hu
 refine callsD_of_wpS hf hb ?_
 intro c₀ cs hm
 have Cb:∀ a:Act,(execOp a.eval o0).run P w= .ok .recover w:=by
  intro a
  obtain ⟨dst,op',type,pos,after,guard⟩:=o0
  simp only at h0
  subst h0
  obtain ⟨callee,Xr,argTypes⟩:=c0
  simp only at hc0
  subst hc0
  simp [execOp,resolve,invoke,builtin]
 have Xs:∀ a:Act,(execOp a.eval o1).run P w= .ok (.value (a.tmps.getD t undef)) w:=by
  intro a
  obtain ⟨dst,op',type,pos,after,guard⟩:=o1
  simp only at h1
  subst h1
  rfl
 have w0:∀ tm,Region.wanted o0 tm=true:=fun tm=>by unfold Region.wanted;simp only [g0]
 have w1:∀ tm,Region.wanted o1 tm=true:=fun tm=>by unfold Region.wanted;simp only [g1]
 obtain ⟨v,u',Sw,hv,BA⟩:∃ v u',(match recoverD (c₀::cs) with | some x=>x | none=>(.nilIface,c₀::cs))=(v,{c₀ with mode:=u'}::cs)∧aM m ρ (zB x) v∧settle u'= .returning:=by
  cases x with
  | none=>
   simp only [C7] at hu
   subst hu
   refine ⟨.nilIface, .returning,?_,by simp [zB,aM,bh],rfl⟩
   have hc:({c₀ with mode:=FrameMode.returning}:Frame)=c₀:=by rw [← hm]
   simp only [recoverD,hm,hc]
  | some d=>
   obtain ⟨v,hv,rfl⟩:=hu
   refine ⟨v, .panicking [{v:=v,recovered:=true}],?_,by simpa [zB,aM] using hv,rfl⟩
   simp only [recoverD,hm]
 refine wpS_seq (wpS_region ?_)
 show wpOpsS P #[o0,o1] _ [0,1] _ _ _
 refine ER (o:=o0) rfl (w0 _) (Cb _) Sw ?_
 refine LG (o:=o1) rfl (w1 _) (Xs _) ?_
 have hI:=B7 V gP hρ hr hN
 have hsz:({tmps:=(⟨vs⟩:Array Value)++Array.replicate (fn.ntmps-(⟨vs⟩:Array Value).size) undef,defers:=[]}:Act).tmps.size=fn.ntmps:=hI.size
 generalize ({tmps:=(⟨vs⟩:Array Value)++Array.replicate (fn.ntmps-(⟨vs⟩:Array Value).size) undef,defers:=[]}:Act)=a0 at hI hsz
 rw [d0,d1]
 have e1:(a0.put (some t) v).tmps.getD t undef=v:=by
  simp [Act.put,hsz,ht]
 rw [e1]
 have zO:Inv fn.ntmps ⟨fj (fj (l8 args) (some t) (zB x)) (some t2) (zB x),aj M,M.length,[]⟩ m ρ ((a0.put (some t) v).put (some t2) v) w:=by
  refine ⟨by simp [Act.put,hsz],by simpa [Act.put] using hI.defers,?_,hI.valid,hI.gP,hI.nQ⟩
  exact sL (N:=fn.ntmps) (a:=a0.put (some t) v) (by simp [Act.put,hsz]) (sL hsz hI.slots (some t) (fun d hd=>by cases hd;exact ht) hv) (some t2) (fun d hd=>by cases hd;exact ht2) hv
 show Code.wpS P rest _ _ _ _
 refine wpS_of_wp (wp_mono (h.2 m ρ _ w zO) ?_)
 rintro e a' w' ⟨px,s,m',ρ',⟨s',NL,hx,Y1⟩,sw,mq,hA⟩
 obtain ⟨m2,jO,Kw,Xt⟩:=NL m' ρ' a' w' mq
 have Xu:=(hA.trans Xt).NH hρ
 obtain ⟨hdf,hpost⟩:=hx
 have hd:=Kw.defers
 rw [hdf] at hd
 have fin:(oG P fn.results.toList s').2∧(∃ H',(∀ i,H' i=none∨H' i=s'.H i)∧kF (.ret r) (aj M') M'.length (.ret (oG P fn.results.toList s').1) H' s'.nx)→
   a'.defers=[]∧∃ Sx,({c₀ with mode:=u'}::cs:List Frame)={c₀ with mode:=Sx}::cs∧∃ v,(results fn a'.tmps).run P w'= .ok v w'∧
    ∃ v_1 m' ρ',Ending.returned v= .returned v_1∧settle Sx= .returning∧dS (fun _=>True) m' ρ' w' (aj M')∧(∀ i,M'.length≤i→ρ' i=none)∧nH M.length m ρ w (aj M) M'.length m' ρ' w' (aj M'):=by
  rintro ⟨hres,H',hs,LI,LJ,z9⟩
  obtain ⟨vv,Sy,iQ⟩:=nI (P:=P) Kw hres
  refine ⟨hd,u',rfl,vv,Sy,vv,m2,jO,rfl,BA,?_,?_,?_⟩
  ·rw [← LJ];exact Kw.valid.sub hs
  ·rw [← z9];exact Kw.nQ
  ·rw [← LJ, ← z9];exact Xu.sub hs
 cases px with
 | normal=>simp only [RX] at sw;subst sw;exact fin hpost
 | ret=>simp only [RX] at sw;subst sw;exact fin hpost
 | exit i=>exact hpost.elim
 | panic p=>
  obtain ⟨H',_,hp,_⟩:=hpost
  cases hp
theorem Sz {H:HM} {nx:Nat} {f:Nat} {args:List PV} {M M':List HO} {x:Option D} (F:List Nat) (hS:x9 P f args M x M')
  (hF:F.length=M.length) (hd:F.Nodup) (hH:wR (iI F nx) H M 0) (hle:M.length≤M'.length):
  ∀ (m:Mem) (ρ:cZ) (w:World) (vs:List Value) (u:FrameMode),dS (fun _=>True) m ρ w H→(∀ i,nx≤i→H i=none)→(∀ i,nx≤i→ρ i=none)→bM m ρ (PV.res (iI F nx) args) vs→C7 m x u→
   CallsD P f ⟨vs⟩ u w fun e u' w'=>∃ v m' ρ',e= .returned v∧settle u'= .returning∧dS (fun _=>True) m' ρ' w' (fD (jA F M.length nx) M' 0 H)∧(∀ i,nx+(M'.length-M.length)≤i→fD (jA F M.length nx) M' 0 H i=none)∧(∀ i,nx+(M'.length-M.length)≤i→ρ' i=none)∧
    nH nx m ρ w H (nx+(M'.length-M.length)) m' ρ' w' (fD (jA F M.length nx) M' 0 H):=by
 intro m ρ w vs u V hn hρ hr hu
 obtain ⟨⟨Vs,Gu,Gk⟩,tr⟩:=Jb (M':=M') F hF hd hH hle V hn hρ
 refine (hS m (fun i=>ρ (iI F nx i)) w vs u Vs Gu Gk (bM.re args vs hr) hu).mono ?_
 rintro e u' w' ⟨v,m',ρ',rfl,BA,V',Gv,hA⟩
 obtain ⟨jO,h1,h2,h3,h4,_⟩:=tr m' ρ' w' V' Gv hA
 exact ⟨v,m',jO,rfl,BA,h1,h2,h3,h4⟩
theorem XK.df {ops:Array Oper} {o:Oper} {r:List Oper} {S:Nat→PV} {H:HM} {nx:Nat} {df:List (Nat×List PV)} {Q:PX→St→Prop} {c:Call} {f:Nat} {L:List PV} (d:Option Nat) (hd:o.dst=d) (hg:o.guard=none) (ho:o.op= .defer c) (hc:c.callee= .value (.func f)) (ha:c.args.toList.map (aB S)=L)
  (h:XK P ops r ⟨fj S d .dJ,H,nx,(f,L)::df⟩ Q):XK P ops (o::r) ⟨S,H,nx,df⟩ Q:=by
 subst hd ha
 exact XK.defer hg ho hc h
def vu (P:Program) (rs:List ResultVar) (fd:Nat) (res:D) (px:PX) (s:St):Prop:=
  ∃ id p0,s.df=[(fd,[.aK id 0])]∧s.H id=some (.var [p0])∧∃ x p1,x9 P fd [.aK 0 0] [.var [p0]] x [.var [p1]]∧p0.re (iI [id] s.nx)=p0∧p1.re (jA [id] 1 s.nx)=p1∧
    (match px with
     | .normal | .ret=>x=none
     | .panic p=>∃ d,x=some d∧p= .d d
     | .exit _=>False)∧
    (oG P rs ⟨s.S,cE s.H id (some (.var [p1])),s.nx,[]⟩).2∧(oG P rs ⟨s.S,cE s.H id (some (.var [p1])),s.nx,[]⟩).1.cW=some res
end Go.Proofs.YtlfjfoknbjcncaaGreat.K
namespace Go.Proofs.YtlfjfoknbjcncaaGreat.K
open Go Go.RowKit
variable {P:Program} {α:Type} {n:Nat} {en:α→D} {A R R':List D} {m j:Nat}
theorem qV {ag:Bool} {w:Nat} {d:D} (m j:Nat) (h:A.length=m) (H:di ag w (R.drop j) d):di ag w ((A++R).drop (m+j)) d:=by
 subst h
 rw [List.drop_append,List.drop_eq_nil_of_le (Nat.le_add_right _ _),List.nil_append,Nat.add_sub_cancel_left]
 exact H
theorem Cc (h:A.length=m):di true m (A++R) (.agg A):=by
 subst h
 exact ⟨by simp,by rw [List.take_left]⟩
theorem nU (h:A.length=m):di true m A (.agg A):=by
 subst h
 exact ⟨Nat.le_refl _,by rw [List.take_length]⟩
theorem Jc {a:aE n α} (m j:Nat) (h:A.length=m) (H:Pre (R.drop j) en a):Pre ((A++R).drop (m+j)) en a:=by
 subst h
 rw [List.drop_append,List.drop_eq_nil_of_le (Nat.le_add_right _ _),List.nil_append,Nat.add_sub_cancel_left]
 exact H
theorem NM {a:aE n α}:Pre (a.1.map en++R) en a:=⟨R,rfl⟩
theorem Qo {c:List PV} (m j:Nat) (h:A.length=m) (H:lX (R.map PV.d) j c=R'.map PV.d):lX ((A++R).map PV.d) (m+j) c=(A++R').map PV.d:=by
 subst h
 unfold lX at H ⊢
 rw [List.map_append,List.take_append,List.drop_append,List.length_map,List.take_of_length_le (by simp),List.drop_eq_nil_of_le (by simp;omega),List.nil_append,Nat.add_sub_cancel_left,show A.length+j+c.length-A.length=j+c.length by omega,List.append_assoc,H, ← List.map_append]
theorem NN {c:List D} (h:A.length=m) (hc:c.length=m):lX ((A++R).map PV.d) 0 (c.map PV.d)=(c++R).map PV.d:=by
 subst h
 unfold lX
 rw [List.take_zero,List.nil_append,List.map_append,Nat.zero_add,List.length_map,hc,List.drop_append,List.drop_eq_nil_of_le (by simp),List.nil_append,List.length_map,Nat.sub_self,List.drop_zero,List.map_append]
theorem Qp (h:∀ x∈A,x.flat=true) (k:∀ x∈R,x.flat=true):∀ x∈A++R,x.flat=true:=by
 intro x hx
 rcases List.mem_append.1 hx with hx | hx
 ·exact h x hx
 ·exact k x hx
theorem Cd {d:D} (h:d.flat=true) (k:∀ x∈R,x.flat=true):∀ x∈d::R,x.flat=true:=by
 intro x hx
 rcases List.mem_cons.1 hx with rfl | hx
 ·exact h
 ·exact k x hx
theorem Qq:∀ x∈([]:List D),x.flat=true:=by simp
theorem dL {place:Nat→Option (Nat×Nat)} {cells:List PV}:(k7 place cells []).2∧(k7 place cells []).1=cells:=⟨trivial,rfl⟩
theorem cx {place:Nat→Option (Nat×Nat)} {cells cells' out:List PV} {i off size:Nat} {p:PV} {r:List (Nat×PV)} (hp:place i=some (off,size)) (hs:p.cz=true) (hl:p.g8.length=size) (hf:off+size≤cells.length)
  (R3:lX cells off p.g8=cells') (H:(k7 place cells' r).2∧(k7 place cells' r).1=out):(k7 place cells ((i,p)::r)).2∧(k7 place cells ((i,p)::r)).1=out:=by
 unfold k7
 simp only [hp]
 rw [R3]
 exact ⟨⟨⟨hs,hl,hf⟩,H.1⟩,H.2⟩
theorem dM {z:List Value} {pl:List (Nat×Nat)⊕Nat} {parts:List (Nat×PV)} {out:List PV} (hz:z.all Value.oneCell'=true) (H:(k7 (placeOf pl) (z.map nG) parts).2∧(k7 (placeOf pl) (z.map nG) parts).1=out):
  (k8 (some (z,pl)) parts).2∧(k8 (some (z,pl)) parts).1= .agg out:=⟨⟨hz,H.1⟩,congrArg PV.agg H.2⟩
theorem fk {o:Oper} {S:Nat→PV} {H:HM} {nx:Nat} {df:List (Nat×List PV)} {eB:List Nat} {k:PV→HM→Nat→List Nat→List Nat→Prop} {t:TypeId} {parts:Array (Nat×Operand)} {v:PV} {b:List Value×(List (Nat×Nat)⊕Nat)} (ho:o.op= .build t parts) (hb:pX P t=some b)
  (h:(k8 (some b) (og S parts.toList)).2∧(k8 (some b) (og S parts.toList)).1=v) (hk:k v H nx [] []):aR P eB o ⟨S,H,nx,df⟩ k:=u5 ho (by rw [hb];exact h.1) (by rw [hb];exact h.2) hk
section
variable {ops:Array Oper} {o:Oper} {r:List Oper} {S:Nat→PV} {H:HM} {nx:Nat} {df:List (Nat×List PV)} {Q:PX→St→Prop}
theorem XK.pr {v:PV} (d:Option Nat) (hd:o.dst=d) (hg:o.guard=none) (h:bp P o S v) (k:XK P ops r ⟨fj S d v,H,nx,df⟩ Q):XK P ops (o::r) ⟨S,H,nx,df⟩ Q:=by
 subst hd
 exact fun hn=> .step (.run hg (lH (s:=⟨S,H,nx,df⟩) hn h.op)) (k hn)
theorem Gy {t u:TypeId} {ms:Array (String×TypeId)} {x:Operand} (ho:o.op= .binOp .eql t x (.const .nilIface) u) (ht:P.underlying t=some (.interface ms)) (hx:aB S x= .d (.val .nilIface)):bp P o S (.d (.val (.bool true))):=by
 refine bp.still fun m ρ a w _ hxs=>?_
 have h1:=hxs x (by simp [ho,Op.operands])
 rw [hx] at h1
 simp only [aM,bh] at h1
 obtain ⟨dst,op',type,pos,after,guard⟩:=o
 simp only at ho
 subst ho
 refine ⟨.bool true,?_,by simp [aM,bh]⟩
 have e:(Op.equal t .nilIface .nilIface).run P w= .ok true w:=by
  have:∀ n,(Op.equalIn (n+1) t .nilIface .nilIface).run P w= .ok true w:=fun n=>by simp [Op.equalIn,run_underlying ht]
  exact this 9999
 have hc:a.eval (.const .nilIface)= .nilIface:=rfl
 simp [execOp,h1,hc,eqGuard,binOp,e]
def Jd:TypeDesc→Bool
 | .interface _=>false
 | _=>true
theorem NO {xT t:TypeId} {d:TypeDesc} {x:Operand} {y:D} (ho:o.op= .typeAssert x xT t true) (ht:P.underlying t=some d) (hd:Jd d=true) (hx:aB S x= .d (.iface t y)):bp P o S (.d (.tuple [y, .val (.bool true)])):=by
 refine bp.still fun m ρ a w _ hxs=>?_
 have h1:=hxs x (by simp [ho,Op.operands])
 rw [hx] at h1
 simp only [aM,bh] at h1
 obtain ⟨u,hu,hr⟩:=h1
 obtain ⟨dst,op',type,pos,after,guard⟩:=o
 simp only at ho
 subst ho
 refine ⟨.tuple #[u, .bool true],?_,?_⟩
 ·simp only [execOp,hu,Instr.typeAssert]
  cases d<;>simp_all [run_underlying ht,Jd]
 ·simp only [aM,bh]
  exact ⟨[u, .bool true],rfl,by simp only [ct,bh];exact ⟨u,_,rfl,hr,_,_,rfl,rfl,rfl⟩⟩
theorem LK {xT t:TypeId} {x:Operand} {y:D} (hi:vn P t=true) (ho:o.op= .typeAssert x xT t true) (hx:aB S x= .d (.iface t y)):bp P o S (.d (.tuple [y, .val (.bool true)])):=by
 unfold vn at hi
 cases hd:P.underlying t with
 | none=>rw [hd] at hi;cases hi
 | some d=>
  rw [hd] at hi
  refine NO ho hd ?_ hx
  cases d<;>first | rfl | cases hi
variable {eB:List Nat} {k:PV→HM→Nat→List Nat→List Nat→Prop}
theorem Qr {t u:TypeId} {ms:Array (String×TypeId)} {x y:Operand} {t':TypeId} {z:D} (ho:o.op= .binOp .eql t x y u) (ht:P.underlying t=some (.interface ms)) (hx:aB S x= .d (.iface t' z)) (hy:aB S y= .d (.val .nilIface)) (hk:k (.d (.val (.bool false))) H nx [] []):aR P eB o ⟨S,H,nx,df⟩ k:=by
 unfold aR;rw [ho]
 simp only [isEq,zy,hx,hy,Bool.and_false,Bool.false_eq_true,if_false,vo,x4,ht]
 exact ⟨trivial,hk⟩
end
section
variable {ops:Array Oper} {o:Oper} {r:List Oper} {S:Nat→PV} {H:HM} {nx:Nat} {df:List (Nat×List PV)}
theorem SA {c x y:Operand} {g gc gx gy b u v:Bool} (hn:∀ i,nx≤i→H i=none) (hg:tj ops o S=some g) (ho:o.op= .pick c x y) (hc:bV (aB S c)=(gc, .d (.val (.bool b)))) (hx:bV (aB S x)=(gx, .d (.val (.bool u)))) (hy:bV (aB S y)=(gy, .d (.val (.bool v))))
  (h0:g=true→gc=true) (h1:g=true→b=true→gx=true) (h2:g=true→b=false→gy=true):pn P ops o ⟨S,H,nx,df⟩ (.cond g (.d (.val (.bool (bif b then u else v))))) H ⟨[],[],nx,nx⟩:=by
 refine .gd hg (by simp) ?_
 rintro rfl
 refine ⟨iL S,fun z _ m ρ w hr=>by rw [Lk];exact Sf hr,?_⟩
 have key:∀ (z:Operand) (gz q:Bool),bV (aB S z)=(gz, .d (.val (.bool q)))→(gz=true→aB (iL S) z= .d (.val (.bool q)))∧(bV (aB (iL S) z)).2= .d (.val (.bool q)):=by
  intro z gz q hz
  rw [Lk]
  cases hp:aB S z with
  | cond b' p'=>
   rw [hp] at hz
   simp only [bV,Prod.mk.injEq] at hz
   obtain ⟨rfl,rfl⟩:=hz
   cases b' with
   | true=>exact ⟨fun _=>rfl,rfl⟩
   | false=>exact ⟨(fun h=>nomatch h),rfl⟩
  | _=>rw [hp] at hz;simp only [bV,Prod.mk.injEq] at hz;obtain ⟨rfl,hz⟩:=hz;first | (cases hz;done) | (rw [← hz];exact ⟨fun _=>rfl,rfl⟩)
 have kc:=(key c gc b hc).1 (h0 rfl)
 have hpk:yH (aB (iL S) c) (aB (iL S) x) (aB (iL S) y)=(.d (.val (.bool (bif b then u else v))),(b=true→(bV (aB (iL S) x)).1=true)∧(b=false→(bV (aB (iL S) y)).1=true)):=by
  unfold yH
  rw [kc,(key x gx u hx).2,(key y gy v hy).2]
 have hs:bp P o (iL S) (yH (aB (iL S) c) (aB (iL S) x) (aB (iL S) y)).1:=by
  refine EG ho ?_
  rw [hpk]
  refine ⟨fun hb=>?_,fun hb=>?_⟩
  ·rw [(key x gx u hx).1 (h1 rfl hb)];rfl
  ·rw [(key y gy v hy).1 (h2 rfl hb)];rfl
 rw [hpk] at hs
 exact lH (s:=⟨iL S,H,nx,df⟩) hn hs.op
variable {c x y:Operand} {g gc gx gy b u v:Bool}
theorem XK.gp {Q:PX→St→Prop} (d:Option Nat) (hd:o.dst=d) (hg:tj ops o S=some g) (ho:o.op= .pick c x y) (hc:bV (aB S c)=(gc, .d (.val (.bool b)))) (hx:bV (aB S x)=(gx, .d (.val (.bool u)))) (hy:bV (aB S y)=(gy, .d (.val (.bool v))))
  (h0:g=true→gc=true) (h1:g=true→b=true→gx=true) (h2:g=true→b=false→gy=true) (w:Bool) (hw:(bif b then u else v)=w) (k:XK P ops r ⟨fj S d (.cond g (.d (.val (.bool w)))),H,nx,df⟩ Q):XK P ops (o::r) ⟨S,H,nx,df⟩ Q:=by
 subst hd hw;exact fun hn=> .step (SA hn hg ho hc hx hy h0 h1 h2) (k hn)
theorem Gz (b u:Bool):(bif b then u else false)=(b&&u):=by cases b<;>rfl
theorem UM (b v:Bool):(bif b then true else v)=(b||v):=by cases b<;>rfl
end
section
variable {C R':Type} {step:C→Option (C⊕R')}
theorem D4:∀ (n k:Nat) (c:C) (r:R'),run step n c=some r→run step (n+k) c=some r
 | 0,_,_,_,h=>by cases h
 | n+1,k,c,r,h=>by
  rw [show n+1+k=(n+k)+1 by omega]
  simp only [run] at h ⊢
  cases hs:step c with
  | none=>rw [hs] at h;cases h
  | some x=>
   rw [hs] at h
   cases x with
   | inl c'=>exact D4 n k c' r h
   | inr r'=>exact h
theorem Comes.unique {c:C} {r r2:R'} (h:Comes step c r) (k:Comes step c r2):r=r2:=by
 obtain ⟨n,h⟩:=h
 obtain ⟨m,k⟩:=k
 have h1:=D4 n m c r h
 have h2:=D4 m n c r2 k
 rw [Nat.add_comm m n,h1] at h2
 exact Option.some.inj h2
open Classical in
noncomputable def gU (step:C→Option (C⊕R')) (c:C):Option R':=if h:∃ r,Comes step c r then some (Classical.choose h) else none
theorem cG {c:C} {r:R'} (h:gU step c=some r):Comes step c r:=by
 unfold gU at h
 split at h
 ·rename_i hx
  cases h
  exact Classical.choose_spec hx
 ·cases h
theorem cN {c:C} {r:R'} (h:Comes step c r):gU step c=some r:=by
 unfold gU
 rw [dif_pos ⟨r,h⟩]
 exact congrArg some (Comes.unique (Classical.choose_spec ⟨r,h⟩) h)
end
end Go.Proofs.YtlfjfoknbjcncaaGreat.K
namespace Go.Proofs.YtlfjfoknbjcncaaGreat.K
open Go Go.RowKit
open Classical in
noncomputable def wX {α:Type} (f:Nat→Option α):Option α:=if h:∃ r,∃ n,∀ m,n≤m→f m=some r then some (Classical.choose h) else none
theorem nY {α:Type} {f:Nat→Option α} {r:α} (h:wX f=some r):∃ n,f n=some r:=by
 unfold wX at h
 split at h
 ·rename_i hx
  cases h
  obtain ⟨n,hn⟩:=Classical.choose_spec hx
  exact ⟨n,hn n (Nat.le_refl n)⟩
 ·cases h
theorem m8 {α:Type} {f:Nat→Option α} {r:α} (n:Nat) (h:∀ m,n≤m→f m=some r):wX f=some r:=by
 unfold wX
 have hx:∃ r,∃ n,∀ m,n≤m→f m=some r:=⟨r,n,h⟩
 rw [dif_pos hx]
 obtain ⟨k,hk⟩:=Classical.choose_spec hx
 have h1:=hk (max n k) (Nat.le_max_right n k)
 have h2:=h (max n k) (Nat.le_max_left n k)
 rw [h2] at h1
 exact h1.symm
def NP (a b:Rec):Bool:=b.T.any (fun x=>a.W.any (· ==x)||(Nat.ble a.lo x&&Nat.blt x a.hi))||a.T.any (fun x=>b.W.any (· ==x))
def Xv (M:List Nat) (L:List Rec):Bool:=(List.range L.length).all fun j=>(List.range j).all fun i=>
 match L[i]?,L[j]? with
 | some a,some b=> !(NP a b)||(M.getD j 0).testBit i
 | _,_=>true
theorem gl.comp {M:List Nat} {L:List Rec} (h:Xv M L=true):gl M L:=by
 intro i j a b hij ha hb hx
 have hj:j<L.length:=(List.getElem?_eq_some_iff.1 hb).1
 have key:=List.all_eq_true.1 (List.all_eq_true.1 h j (List.mem_range.2 hj)) i (List.mem_range.2 hij)
 rw [ha,hb] at key
 simp only [Bool.or_eq_true,Bool.not_eq_true'] at key
 rcases key with k | k
 ·exfalso
  have:NP a b=true:=by
   unfold NP
   rw [Bool.or_eq_true,List.any_eq_true,List.any_eq_true]
   rcases hx with ⟨x,hx,Iy⟩ | ⟨x,hx,Iy⟩
   ·refine .inl ⟨x,hx,?_⟩
    rw [Bool.or_eq_true,List.any_eq_true,Bool.and_eq_true]
    rcases Iy with Iy | ⟨h1,h2⟩
    ·exact .inl ⟨x,Iy,by simp⟩
    ·exact .inr ⟨Nat.ble_eq_true_of_le h1,by simpa [Nat.blt_eq] using h2⟩
   ·refine .inr ⟨x,hx,?_⟩
    rw [List.any_eq_true]
    exact ⟨x,Iy,by simp⟩
  rw [this] at k;cases k
 ·exact k
section
variable {P:Program}
theorem vu.more {fd:Nat} {res:D} {px:PX} {s:St} {r r':ResultVar} {rs:List ResultVar} (ps:List PV) (id:Nat) (p0 p1:PV) (x:Option D) (h1:s.df=[(fd,[.aK id 0])]) (h2:s.H id=some (.var [p0])) (h3:x9 P fd [.aK 0 0] [.var [p0]] x [.var [p1]])
  (h4:p0.re (iI [id] s.nx)=p0) (h5:p1.re (jA [id] 1 s.nx)=p1) (h6:match px with | .normal | .ret=>x=none | .panic p=>∃ d,x=some d∧p= .d d | .exit _=>False)
  (h:uQ P ⟨s.S,cE s.H id (some (.var [p1])),s.nx,[]⟩ (r::r'::rs) ps) (ht:(PV.tuple ps).cW=some res):vu P (r::r'::rs) fd res px s:=by
 have h7:=Ends.more (px:= .ret) (.inr rfl) rfl h ht rfl
 exact ⟨id,p0,h1,h2,x,p1,h3,h4,h5,h6,h7.2.2.1,h7.2.2.2⟩
end
end Go.Proofs.YtlfjfoknbjcncaaGreat.K
namespace Go.Proofs.YtlfjfoknbjcncaaGreat.K
open Go Go.RowKit
variable {P:Program}
theorem D5 {w:World} (t u ty e:TypeId) (d:TypeDesc) (i:TypeInfo) (ht:P.underlying t=some (.slice e)) (hu:P.underlying u=some d) (hd:mw d=true) (hi:P.info? e=some i)
  (base:Option Addr) (n:Nat) (y:Value) (hy:(Builtin.lenOf y).run P w= .ok 0 w) (hn:(Builtin.firstCells i.size 0 y).run P w= .ok #[] w):
  (Builtin.append_ #[t,u] ty #[.slice base n n,y]).run P w= .ok (.slice base n n) w:=by
 rcases tq hd with ⟨e2,rfl⟩ | rfl
 all_goals cases base<;>simp [Builtin.append_,run_underlying ht,run_underlying hu,sizeOf,typeInfo,hi,hy,hn,storeCells]
theorem Kx {o:Oper} {S:Nat→PV} {t u:TypeId} {x y:Operand} {l l2:List D} (ho:o.op= .call {callee:= .builtin .append,args:= #[x,y],argTypes:= #[t,u]}) {sz je:Nat} (hrow:oE P t=some (sz,je)) {d:TypeDesc} (hu:P.underlying u=some d) (hd:mw d=true)
  (hx:aB S x= .full l) (hy:(aB S y).more=some l2) (c1:∀ z∈l,z.cells.length=sz) (c2:∀ z∈l2,z.cells.length=sz) (hb:(l.length+l2.length)*je≤140737488355328) (hm:l.length+l2.length≤maxLen):
  bp P o S (.d (.slice (l++l2))):=by
 intro m ρ a w hM hxs
 have h1:=hxs x (by simp [ho,Op.operands,Call.operands])
 have h2:=hxs y (by simp [ho,Op.operands,Call.operands])
 rw [hx] at h1
 obtain ⟨e,i,z,zZ,hi,hz,hzs,h0,hsz,hby⟩:=sP hrow
 obtain ⟨g1,news,g2,g3,g4,g5⟩:=x3 (P:=P) hM hy h2 c2
 obtain ⟨q1,olds,q2,q3,q4,q5⟩:=x3 (P:=P) hM (p:= .full l) rfl h1 c1
 simp only [aM] at h1
 obtain ⟨ad,ev,iQ⟩:=h1
 subst hsz
 subst hby
 by_cases hk:l2=[]
 ·subst hk
  have hrun:=D5 (P:=P) t u o.type e d i zZ hu hd hi ad l.length (a.eval y) (by simpa using g1) (by
   have:=g5 w rfl
   have Ki:news=[]:=List.eq_nil_of_length_eq_zero (by simpa using g2)
   subst Ki
   simpa using this)
  refine ⟨_,m,w,iA ho (by rw [ev];exact hrun),hM,Ext.refl _ _ _,?_⟩
  simp only [aM,bh,List.append_nil]
  exact ⟨ad,l.length,rfl,Nat.le_refl _,iQ⟩
 ·have hpos:0<l2.length:=List.length_pos_iff.2 hk
  have hgrow:l.length<l.length+l2.length:=by omega
  have hrun:=oe (P:=P) w t u o.type e d i z zZ hu hd hi hz ad l.length l.length l2.length (a.eval y) olds news g1 (by
   have:=q5 w.drew rfl
   rw [ev] at this
   exact this) (g5 w.drew rfl) hgrow (by simp only [maxLen] at hm;omega) (growslice_fits hgrow hb)
  have hge:=grownCap_ge w (l.length+l2.length) l.length e
  have Iu:=grownCap_le_maxLen w (l.length+l2.length) l.length e hm
  have hlen:(olds++news).length=(l.length+l2.length)*i.size:=by rw [List.length_append,q2,g2,Nat.add_mul]
  have hD:=B6 (s:=⟨S,fun _=>none,0,[]⟩) (m:=m) (ρ:=fun _=>none) (w:=w) [] ⟨hM,(fun k ob hk' hH=>nomatch hH),(fun k j b c c' hk'=>nomatch hk')⟩ (fun _ _ _=>rfl) (vals:=olds++news) (rest:=(Builtin.zeroCells z.cells (grownCap w (l.length+l2.length) l.length e-(l.length+l2.length))).toList) (sz:=i.size) (n:=l.length+l2.length) (cap:=grownCap w (l.length+l2.length) l.length e)
   (fun v hv=>(List.mem_append.1 hv).elim (q4 v) (g4 v)) hlen (by
    have R4:(Builtin.zeroCells z.cells (grownCap w (l.length+l2.length) l.length e-(l.length+l2.length))).toList.length=(grownCap w (l.length+l2.length) l.length e-(l.length+l2.length))*i.size:=by
     rw [Array.length_toList,size_zeroCells,hzs]
    rw [hlen,R4, ← Nat.add_mul]
    congr 1
    omega) hge Iu e (fun _=>none) (fun i=> .inr rfl)
  obtain ⟨d1,d2,d3,d4,d5⟩:=hD
  refine ⟨_,_,_,iA ho (by rw [ev];exact hrun),d4.mem,⟨d1.1,d1.2,fun b hb hF=>d1.3 b hb (fun ⟨k,c,hk',_⟩=>nomatch hk'),d1.4,d1.5,d1.6,fun b o' v h=>(d1.7 b o' v h).imp id fun h=>h.elim (fun ⟨k,c,hk',_⟩=>nomatch hk') .inr⟩,?_⟩
  simp only [aM,bh]
  refine ⟨_,_,by rw [List.length_append],by rw [List.length_append];exact hge, .inr ⟨_,_,rfl,?_⟩⟩
  exact kq ((yN q3 g3).mono (Mem.tJ (tK hM))) (fun j v hj=>by simp [Mem.with,hj])
theorem UN {o:Oper} {S:Nat→PV} {α:Type} {en:α→D} {c:α→List D} {n je:Nat} {t u:TypeId} {d:TypeDesc} {x y:Operand} {l l2:List α} (ho:o.op= .call {callee:= .builtin .append,args:= #[x,y],argTypes:= #[t,u]}) (ht:oE P t=some (n,je)) (hu:P.underlying u=some d) (hd:mw d=true) (hl:rF en c n)
  (hx:aB S x= .full (l.map en)) (hy:(aB S y).more=some (l2.map en)) (h:(l.length+l2.length)*je≤140737488355328) (hb:0<je):bp P o S (.d (.slice ((l++l2).map en))):=by
 have:=Kx ho ht hu hd hx hy (hl.all l) (hl.all l2) (by simpa using h) (by
  have:(l.length+l2.length)*1≤(l.length+l2.length)*je:=Nat.mul_le_mul_left _ hb
  rw [wQ,List.length_map,List.length_map];omega)
 rwa [← List.map_append] at this
end Go.Proofs.YtlfjfoknbjcncaaGreat.K
namespace Go.Proofs.YtlfjfoknbjcncaaGreat.K
open Go Go.RowKit
set_option linter.unusedVariables false
variable {P:Program}
section
variable {ops:Array Oper} {o:Oper} {r:List Oper} {S:Nat→PV} {H:HM} {nx:Nat} {df:List (Nat×List PV)}
theorem XK.s2r {Q:PX→St→Prop} {t u e:TypeId} {x:Operand} {l:List UInt8} (d:Option Nat) (hd:o.dst=d) (hg:o.guard=none) (ho:o.op= .convert t u x) (hs:P.underlying t=some .string) (hu:P.underlying u=some (.slice e)) (he:P.underlying e=some (.int .u8))
  (hx:aB S x= .d (.val (sV l))) (hl:l.length≤9223372036854775807) (h:XK P ops r ⟨fj S d (.own nx (l.map U)),cE H nx (some (.spare 1 l.length)),nx+1,df⟩ Q):XK P ops (o::r) ⟨S,H,nx,df⟩ Q:=by
 subst hd
 exact XK.UD (s:=⟨S,H,nx,df⟩) hg ho hs hu he hx hl h
end
end Go.Proofs.YtlfjfoknbjcncaaGreat.K
namespace Go.Proofs.YtlfjfoknbjcncaaGreat.K
open Go Go.RowKit
set_option linter.unusedVariables false
variable {P:Program}
theorem eR (f:Nat→Nat):∀ (a b:List PV),PV.res f (a++b)=PV.res f a++PV.res f b
 | [],_=>rfl
 | x::r,b=>by simp only [List.cons_append,PV.res,eR f r b]
theorem mj {a b:List PV} {x y:List D} (ha:PV.eg a=some x) (hb:PV.eg b=some y):PV.eg (a++b)=some (x++y):=by
 induction a generalizing x with
 | nil=>simp only [PV.eg,Option.some.injEq] at ha;subst ha;exact hb
 | cons p r ih=>
  simp only [PV.eg] at ha
  cases hp:p.cW with
  | none=>rw [hp] at ha;cases ha
  | some q=>
   rw [hp] at ha
   cases hr:PV.eg r with
   | none=>rw [hr] at ha;cases ha
   | some z=>
    rw [hr] at ha
    simp only [Option.map_some,Option.some.injEq] at ha
    subst ha
    simp only [List.cons_append,PV.eg,hp,ih hr,Option.map_some]
theorem iM:∀ (a b:List PV),PV.eg (a++b)=(PV.eg a).bind fun x=>(PV.eg b).map fun y=>x++y
 | [],b=>by cases h:PV.eg b<;>simp [PV.eg,h]
 | p::r,b=>by
  simp only [List.cons_append,PV.eg,iM r b]
  cases p.cW with
  | none=>rfl
  | some q=>cases PV.eg r with
   | none=>rfl
   | some z=>cases PV.eg b<;>rfl
theorem oI {l:List PV} {x:List D} (h:PV.eg l=some x):PV.cW (.agg l)=some (.agg x):=by simp only [PV.cW,h,Option.map_some]
theorem aD {A R:List PV} {a b n:Nat} (h:A.length=a) (k:R.length=b) (e:a+b=n):(A++R).length=n:=by rw [List.length_append,h,k,e]
theorem bX {l:List PV} {off n m:Nat} (h:l.length=m) (k:off+n≤m):off+n≤l.length:=by rw [h];exact k
theorem UO {ag:Bool} {n:Nat} {A R:List PV} {v:PV} (m j:Nat) (h:A.length=m) (H:D0 ag n j R v):D0 ag n (m+j) (A++R) v:=by
 subst h
 obtain ⟨⟨h1,h2⟩,h3⟩:=H
 refine ⟨⟨by rw [List.length_append];omega,h2⟩,?_⟩
 unfold n7 at h3 ⊢
 cases ag with
 | true=>
  simp only [if_true] at h3 ⊢
  rw [List.drop_append,List.drop_eq_nil_of_le (Nat.le_add_right _ _),List.nil_append,Nat.add_sub_cancel_left]
  exact h3
 | false=>
  simp only [Bool.false_eq_true,if_false] at h3 ⊢
  rw [List.getD_eq_getElem?_getD,List.getElem?_append_right (Nat.le_add_right _ _),Nat.add_sub_cancel_left, ← List.getD_eq_getElem?_getD]
  exact h3
theorem Je {ag:Bool} {n j:Nat} {A R:List PV} {v:PV} (H:D0 ag n j A v):D0 ag n j (A++R) v:=by
 obtain ⟨⟨h1,h2⟩,h3⟩:=H
 refine ⟨⟨by rw [List.length_append];omega,h2⟩,?_⟩
 unfold n7 at h3 ⊢
 cases ag with
 | true=>
  simp only [if_true] at h3 ⊢
  rw [List.drop_append_of_le_length (by omega),List.take_append_of_le_length (by rw [List.length_drop];omega)]
  exact h3
 | false=>
  simp only [Bool.false_eq_true,if_false] at h3 ⊢
  rw [List.getD_eq_getElem?_getD,List.getElem?_append_left (by omega), ← List.getD_eq_getElem?_getD]
  exact h3
theorem fO {n:Nat} {l:List PV} (h:l.length=n) (hp:0<n):D0 true n 0 l (.agg l):=by
 refine ⟨⟨by omega,hp⟩,?_⟩
 simp only [n7,if_true,List.drop_zero]
 rw [List.take_of_length_le (by omega)]
theorem ql {A R R' c:List PV} (m j:Nat) (h:A.length=m) (H:lX R j c=R'):lX (A++R) (m+j) c=A++R':=by
 subst h
 unfold lX at H ⊢
 rw [List.take_append,List.drop_append,List.take_of_length_le (Nat.le_add_right _ _),List.drop_eq_nil_of_le (by omega),List.nil_append,Nat.add_sub_cancel_left,show A.length+j+c.length-A.length=j+c.length by omega,List.append_assoc,H]
theorem fq {A R A' c:List PV} (j:Nat) (h:j+c.length≤A.length) (H:lX A j c=A'):lX (A++R) j c=A'++R:=by
 unfold lX at H ⊢
 rw [List.take_append_of_le_length (by omega),List.drop_append_of_le_length h, ← H,List.append_assoc,List.append_assoc]
theorem GA {A R c:List PV} {m:Nat} (h:A.length=m) (hc:c.length=m):lX (A++R) 0 c=c++R:=by
 unfold lX
 rw [List.take_zero,List.nil_append,Nat.zero_add,hc, ← h,List.drop_left' rfl]
theorem Jf {A R:List PV} {p:PV} {j:Nat} (H:A[j]? =some p):(A++R)[j]? =some p:=by
 rw [List.getElem?_append_left (List.getElem?_eq_some_iff.1 H).1];exact H
theorem Jg {A R A':List PV} {p:PV} {j:Nat} (h:j<A.length) (H:A.set j p=A'):(A++R).set j p=A'++R:=by
 rw [List.set_append_left _ _ h,H]
variable {N b:Nat}
theorem View.SB {s:St} {l l':List PV} {p:PV} {x:D} (id j:Nat) (hH:s.H id=some (.var l)) (hj:l[j]? =some p) (hp:p.cW=some x) (hl:l.set j (.d x)=l') (hb:b≤s.nx):
  View N b s ⟨s.S,cE s.H id (some (.var l')),s.nx,s.df⟩:=by subst hl;exact View.Sv id j hH hj hp hb
end Go.Proofs.YtlfjfoknbjcncaaGreat.K
