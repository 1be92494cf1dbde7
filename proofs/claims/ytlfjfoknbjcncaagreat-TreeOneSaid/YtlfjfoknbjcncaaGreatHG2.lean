/- The reckoner over lists of operations, and its soundness. -/
import Derived.Test.YtlfjfoknbjcncaaGreatHG1
import Derived.IntWalk
import Derived.ProofKit
import Derived.OpenShut
import Derived.Below
import Derived.ChangeSame
import Derived.WideKeyArgs
import Derived.ChangeArms
import Derived.ChangeKeysEq
import Derived.Recover
namespace Go.Proofs.YtlfjfoknbjcncaaGreat.K
open Go Go.RowKit
variable {P:Program}
def cG (H:HM) (k:Nat) (v:Option HO):HM:=fun i=>if i=k then v else H i
def RF (P:Program) (f:Nat) (ds:List D) (k:PV→Prop):Prop:=∃ res,bI P f ds res∧k (.d res)
def Z6 (P:Program) (t:TypeId) (x y:D) (k:Bool→Prop):Prop:=∃ b,D0 P t x y b∧k b
def RG (p:Prop):Prop:=p
def isEq:BinOp→Bool
 | .eql=>true
 | .neq=>true
 | _=>false
def BF:PV→Bool
 | .d (.agg _)=>true
 | .agg _=>true
 | _=>false
def x3 (P:Program) (s:St) (x y:PV) (t u:TypeId) (k:PV→HM→Nat→List Nat→List Nat→Prop):Prop:=
 match oH P t,P.underlying u,y.more with
 | some (sz,je),some d,some l2=>
  match x with
  | .own ix l=>(mC d=true∧s.H ix=some (.spare sz l.length)∧(∀ z∈l,z.cells.length=sz)∧(∀ z∈l2,z.cells.length=sz))∧RG ((l.length+l2.length)*je≤140737488355328∧l.length+l2.length≤maxLen)∧
    k (.own s.nx (l++l2)) (cG (cG s.H ix none) s.nx (some (.spare sz (l.length+l2.length)))) (s.nx+1) [ix] [ix]
  | .full l=>(mC d=true∧(∀ z∈l,z.cells.length=sz)∧(∀ z∈l2,z.cells.length=sz))∧RG ((l.length+l2.length)*je≤140737488355328∧l.length+l2.length≤maxLen∧(l2=[]→l=[]))∧
    k (.own s.nx (l++l2)) (cG s.H s.nx (some (.spare sz (l.length+l2.length)))) (s.nx+1) [] []
  | _=>False
 | _,_,_=>False
def yM (eI:List Nat):Option Nat→Bool
 | some d=>eI.contains d
 | none=>false
def aT (P:Program) (eI:List Nat) (o:Oper) (s:St) (k:PV→HM→Nat→List Nat→List Nat→Prop):Prop:=
 match o.op with
 | .load t x=>match aB s.S x with
  | .aF ix off=>match s.H ix with
   | some (.var l)=>(xA (jS P t) l off).2∧k (xA (jS P t) l off).1 s.H s.nx [ix] []
   | _=>False
  | .d (.cA l)=>(B5 (jS P t) l).2∧k (B5 (jS P t) l).1 s.H s.nx [] []
  | _=>False
 | .store t x y=>match aB s.S x,jS P t with
  | .aF ix off,some (_,n)=>match s.H ix with
   | some (.var l)=>((aB s.S y).cz=true∧(aB s.S y).hY.length=n∧off+n≤l.length)∧k .dO (cG s.H ix (some (.var (l6 l off (aB s.S y).hY)))) s.nx [ix] [ix]
   | _=>False
  | _,_=>False
 | .alloc t=>match mb P t with
  | some z=>z.all Value.oneCell'=true∧k (.aF s.nx 0) (cG s.H s.nx (some (.var (z.map nM)))) (s.nx+1) [] []
  | none=>False
 | .box _ x=>
  if yM eI o.dst=true then
   match PV.ej (aB s.S x).hY with
   | some ds=>(aB s.S x).cz=true∧k (.d (.cA ds)) s.H s.nx [] []
   | none=>False
  else (aB s.S x).cz=true∧k (.aF s.nx 0) (cG s.H s.nx (some (.var (aB s.S x).hY))) (s.nx+1) [] []
 | .binOp op t x y _=>
  if isEq op&&BF (aB s.S x) then
   match (aB s.S x).dj,(aB s.S y).dj with
   | some dx,some dy=>Z6 P t dx dy fun b=>k (.d (.val (.bool (oh op b)))) s.H s.nx [] []
   | _,_=>False
  else (wO P op t (aB s.S x) (aB s.S y)).2∧k (wO P op t (aB s.S x) (aB s.S y)).1 s.H s.nx [] []
 | .call c=>match c.callee with
  | .builtin .append=>match c.args.toList,c.argTypes.toList with
   | [x,y],[t,u]=>x3 P s (aB s.S x) (aB s.S y) t u k
   | _,_=>False
  | .builtin b=>(js P s.S b c.args.toList c.argTypes.toList).2∧k (js P s.S b c.args.toList c.argTypes.toList).1 s.H s.nx [] []
  | .value (.func f)=>match PV.ej (c.args.toList.map (aB s.S)) with
   | some ds=>aP P f=true∧RF P f ds fun p=>k p s.H s.nx [] []
   | none=>False
  | .value t=>match aB s.S t,PV.ej (c.args.toList.map (aB s.S)) with
   | .d (.gT f caps),some ds=>aP P f=true∧RF P f (ds++caps) fun p=>k p s.H s.nx [] []
   | _,_=>False
  | _=>False
 | op=>(jB P s.S op).2∧k (jB P s.S op).1 s.H s.nx [] []
theorem lJ {o:Oper} {s:St} {v:PV} (hn:∀ i,s.nx≤i→s.H i=none) (h:AO P o s.S v):m9 P o s v s.H s.nx [] []:=h.sem [] (by simp) hn
theorem Im {o:Oper} {s:St} {x y:Operand} {t u:TypeId} {k:PV→HM→Nat→List Nat→List Nat→Prop} (ho:o.op= .call {callee:= .builtin .append,args:= #[x,y],argTypes:= #[t,u]}) (hn:∀ i,s.nx≤i→s.H i=none)
  (h:x3 P s (aB s.S x) (aB s.S y) t u k):∃ v H' cO T W,m9 P o s v H' cO T W∧k v H' cO T W:=by
 unfold x3 at h
 split at h
 ·rename_i sz je d l2 h1 h2 h3
  split at h
  ·rename_i ix l hx
   obtain ⟨⟨c1,c2,c3,c4⟩,⟨c5,c6⟩,hk⟩:=h
   exact ⟨_,_,_,_,_,Fm ho h1 h2 c1 hx c2 h3 hn c3 c4 c5 c6,hk⟩
  ·rename_i l hx
   obtain ⟨⟨c1,c3,c4⟩,⟨c5,c6,c7⟩,hk⟩:=h
   exact ⟨_,_,_,_,_,DZ ho h1 h2 c1 hx h3 hn c3 c4 c5 c6 c7,hk⟩
  ·exact h.elim
 ·exact h.elim
theorem ld {eI:List Nat} {o:Oper} {s:St} {k:PV→HM→Nat→List Nat→List Nat→Prop} (hn:∀ i,s.nx≤i→s.H i=none) (h:aT P eI o s k):∃ v H' cO T W,m9 P o s v H' cO T W∧k v H' cO T W:=by
 have RH:(jB P s.S o.op).2→k (jB P s.S o.op).1 s.H s.nx [] []→∃ v H' cO T W,m9 P o s v H' cO T W∧k v H' cO T W:=
  fun h1 h2=>⟨_,_,_,_,_,lJ hn (Kb h1).op,h2⟩
 unfold aT at h
 split at h
 ·rename_i t x ho
  split at h
  ·rename_i ix off hp
   split at h
   ·rename_i l hH
    exact ⟨_,_,_,_,_,Nh ho hp hH hn h.1,h.2⟩
   ·exact h.elim
  ·rename_i l hp
   exact ⟨_,_,_,_,_,lJ hn (EI ho hp h.1).op,h.2⟩
  ·exact h.elim
 ·rename_i t x y ho
  split at h
  ·rename_i ix off ag n hp ht
   split at h
   ·rename_i l hH
    exact ⟨_,_,_,_,_,K6 ho hp hH hn ht h.1.1 h.1.2.1 h.1.2.2,h.2⟩
   ·exact h.elim
  ·exact h.elim
 ·rename_i t ho
  split at h
  ·rename_i z hz
   exact ⟨_,_,_,_,_,K7 ho hn hz h.1,h.2⟩
  ·exact h.elim
 ·rename_i t x ho
  split at h
  ·split at h
   ·rename_i ds hd
    exact ⟨_,_,_,_,_,lJ hn (K8 ho h.1 hd).op,h.2⟩
   ·exact h.elim
  ·exact ⟨_,_,_,_,_,PN ho hn h.1,h.2⟩
 ·rename_i op t x y u ho
  split at h
  ·rename_i he
   simp only [Bool.and_eq_true] at he
   split at h
   ·rename_i dx dy hx hy
    obtain ⟨b,hb,hk⟩:=h
    have hop:op= .eql∨op= .neq:=by cases op<;>simp_all [isEq]
    exact ⟨_,_,_,_,_,lJ hn (Nm ho hop hx hy hb).op,hk⟩
   ·exact h.elim
  ·exact ⟨_,_,_,_,_,lJ hn (EL ho h.1).op,h.2⟩
 ·rename_i c ho
  split at h
  ·rename_i hc
   split at h
   ·rename_i x y t u ha ht
    obtain ⟨callee,args,ts⟩:=c
    simp only at hc ha ht
    subst hc
    rw [AS ha,AS ht] at ho
    exact Im ho hn h
   ·exact h.elim
  ·rename_i b hb hc
   exact ⟨_,_,_,_,_,lJ hn (z2 ho hc h.1).op,h.2⟩
  ·rename_i f hc
   split at h
   ·rename_i ds hd
    obtain ⟨he,res,hF,hk⟩:=h
    exact ⟨_,_,_,_,_,lJ hn (PR ho hc he hd hF),hk⟩
   ·exact h.elim
  ·rename_i t hne hc
   split at h
   ·rename_i f caps ds ht hd
    obtain ⟨he,res,hF,hk⟩:=h
    exact ⟨_,_,_,_,_,lJ hn (PS ho hc ht he hd hF),hk⟩
   ·exact h.elim
  ·exact h.elim
 ·exact RH h.1 h.2
def jA (S:Nat→PV):Nat→PV:=fun t=>(bU (S t)).2
theorem Io (v:Value):bU (dQ v)=(true,dQ v):=by
 unfold dQ
 split
 ·rfl
 ·rfl
 ·split<;>rfl
 ·rfl
theorem RI (S:Nat→PV) (x:Operand):aB (jA S) x=(bU (aB S x)).2:=by
 cases x with
 | tmp t=>rfl
 | const v=>simp only [aB,Io]
 | global g=>rfl
 | func f=>rfl
def vt (g:Bool) (S:Nat→PV):List Operand→Prop
 | []=>True
 | x::r=>(g=true→(bU (aB S x)).1=true)∧vt g S r
theorem Kc {m:Mem} {ρ:di}:∀ {l:List D} {vs:List Value},cr m l vs→bN m ρ (l.map .d) vs
 | [],vs,h=>by simpa [bN,cr] using h
 | x::r,vs,h=>by
  simp only [cr,List.map_cons,bN] at h ⊢
  obtain ⟨v,vr,e1,e2,e3⟩:=h
  exact ⟨v,vr,e1,by simpa [aN] using e2,Kc e3⟩
end Go.Proofs.YtlfjfoknbjcncaaGreat.K
namespace Go.Proofs.YtlfjfoknbjcncaaGreat.K
open Go Go.RowKit
variable {P:Program} {N:Nat}
end Go.Proofs.YtlfjfoknbjcncaaGreat.K
namespace Go.Proofs.YtlfjfoknbjcncaaGreat.K
open Go Go.RowKit
variable {P:Program} {N:Nat}
theorem cx {S:Nat→PV} {d t:Nat} {v:PV}:fk S (some d) v t=if t=d then v else S t:=rfl
theorem oJ {H:HM} {k i:Nat} {v:Option HO}:cG H k v i=if i=k then v else H i:=rfl
theorem wrap_i64 {n:Int} (h: -9223372036854775808≤n∧n≤9223372036854775807):IntKind.i64.wrap n=n:=IntWalk.i64_in n h
theorem wrap_u8 {n:Int} (h:0≤n∧n≤255):IntKind.u8.wrap n=n:=IntWalk.u8_in n h
theorem wrap_u64 {n:Int} (h:0≤n∧n≤18446744073709551615):IntKind.u64.wrap n=n:=IntWalk.u64_in n h
theorem Gf {v:Value}:(D.val v).cells=[.val v]:=rfl
end Go.Proofs.YtlfjfoknbjcncaaGreat.K
namespace Go.Proofs.YtlfjfoknbjcncaaGreat.K
open Go Go.RowKit
variable {P:Program} {N:Nat} {ops:Array Oper} {o:Oper} {r:List Oper} {s:St}
def jX:PV→PV
 | .cond true p=>p
 | p=>p
def iU (S:Nat→PV):Nat→PV:=fun t=>jX (S t)
theorem RJ {m:Mem} {ρ:di} {p:PV} {v:Value} (h:aN m ρ p v):aN m ρ (jX p) v:=by
 unfold jX
 split
 ·rw [aN] at h;exact h.1 rfl
 ·exact h
theorem No (v:Value):jX (dQ v)=dQ v:=by
 unfold dQ
 split
 ·rfl
 ·rfl
 ·split<;>rfl
 ·rfl
theorem Ld (S:Nat→PV) (x:Operand):aB (iU S) x=jX (aB S x):=by
 cases x with
 | tmp t=>rfl
 | const v=>simp only [aB,No]
 | global g=>rfl
 | func f=>rfl
def XK (P:Program) (ops:Array Oper) (r:List Oper) (s:St) (Q:PX→St→Prop):Prop:=(∀ i,s.nx≤i→s.H i=none)→BC P ops r s Q
def RK (P:Program) (ops:Array Oper) (r:List Oper) (s:St) (acc:List Rec) (K:St→List Rec→Prop):Prop:=
 (∀ i,s.nx≤i→s.H i=none)→∃ s' L,CQ P ops r s s' L∧K s' (acc.reverse++L)
def RQ (P:Program) (ops:Array Oper) (r:List Oper) (s:St) (Q:St→Prop):Prop:=
 (∀ i,s.nx≤i→s.H i=none)→∃ s' L,CQ P ops r s s' L∧(∀ R∈L,R.W=[]∧R.lo=R.hi)∧Q s'
theorem XK.nil {Q:PX→St→Prop} (h:Q .normal s):XK P ops [] s Q:=fun _=> .nil h
theorem RK.nil {acc:List Rec} {K:St→List Rec→Prop} (h:K s acc.reverse):RK P ops [] s acc K:=fun _=>⟨s,[], .nil s,by simpa using h⟩
theorem RQ.nil {Q:St→Prop} (h:Q s):RQ P ops [] s Q:=fun _=>⟨s,[], .nil s,by simp,h⟩
theorem XK.step {Q:PX→St→Prop} (hg:o.guard=none) (h:aT P [] o s fun v H' cO _ _=>XK P ops r ⟨fk s.S o.dst v,H',cO,s.df⟩ Q):XK P ops (o::r) s Q:=by
 intro hn
 obtain ⟨v,H',cO,T,W,hs,hk⟩:=ld hn h
 exact .step (R:=⟨T,W,s.nx,cO⟩) (.run hg hs) (hk hs.nil)
theorem XK.frozen {Q:PX→St→Prop} (hg:o.guard=none) (h:aT P o.dst.toList o s fun v H' cO _ _=>XK P ops r ⟨fk s.S o.dst v,H',cO,s.df⟩ Q):XK P ops (o::r) s Q:=by
 intro hn
 obtain ⟨v,H',cO,T,W,hs,hk⟩:=ld hn h
 exact .step (R:=⟨T,W,s.nx,cO⟩) (.run hg hs) (hk hs.nil)
theorem XK.defer {Q:PX→St→Prop} {c:Call} {f:Nat} (hg:o.guard=none) (ho:o.op= .defer c) (hc:c.callee= .value (.func f)) (h:XK P ops r ⟨fk s.S o.dst .dO,s.H,s.nx,(f,c.args.toList.map (aB s.S))::s.df⟩ Q):XK P ops (o::r) s Q:=
 fun hn=> .defer hg ho hc (h hn)
theorem RK.step {acc:List Rec} {K:St→List Rec→Prop} (hg:o.guard=none) (h:aT P [] o s fun v H' cO T W=>RK P ops r ⟨fk s.S o.dst v,H',cO,s.df⟩ (⟨T,W,s.nx,cO⟩::acc) K):RK P ops (o::r) s acc K:=by
 intro hn
 obtain ⟨v,H',cO,T,W,hs,hk⟩:=ld hn h
 obtain ⟨s',L,hr,hK⟩:=hk hs.nil
 exact ⟨s',_, .cons (.run hg hs) hr,by simpa using hK⟩
theorem RQ.step {Q:St→Prop} (hg:o.guard=none) (h:aT P [] o s fun v H' cO _ W=>(W=[]∧cO=s.nx)∧RQ P ops r ⟨fk s.S o.dst v,H',cO,s.df⟩ Q):RQ P ops (o::r) s Q:=by
 intro hn
 obtain ⟨v,H',cO,T,W,hs,⟨hW,hx⟩,hk⟩:=ld hn h
 obtain ⟨s',L,hr,hK,hQ⟩:=hk hs.nil
 refine ⟨s',_, .cons (.run hg hs) hr,?_,hQ⟩
 intro R hR
 rcases List.mem_cons.1 hR with rfl | hR
 ·exact ⟨hW,hx.symm⟩
 ·exact hK R hR
theorem PW.Wl {id:Nat} {Q:PX→St→Prop} (hok:qn ops N=true) (h:XK P ops ops.toList s Q):PW P N (.region id ops false) s Q:=
 fun m ρ a w hI=>PW.region hok (h hI.gP) m ρ a w hI
theorem PW.rL {id:Nat} {Q:PX→St→Prop} (hm:P.follows .mixedOrders=true) {M:List Nat} (hM:M=masks ops.toList []) (hok:AM ops N M=true)
  (h:RK P ops ops.toList s [] fun s' L=>fT M L∧Q .normal s'):PW P N (.region id ops true) s Q:=by
 intro m ρ a w hI
 obtain ⟨s',L,hr,hL,hQ⟩:=h hI.gP
 exact PW.draw hm M hok hM hr (by simpa using hL) hQ m ρ a w hI
theorem fT.quiet {M:List Nat} {L:List Rec} (h:∀ R∈L,R.W=[]∧R.lo=R.hi):fT M L:=by
 intro i j a b _ ha hb hx
 have h1:=h a (List.mem_of_getElem? ha)
 have h2:=h b (List.mem_of_getElem? hb)
 rcases hx with ⟨x,_,hx | hx⟩ | ⟨x,_,hx⟩
 ·rw [h1.1] at hx;cases hx
 ·omega
 ·rw [h2.1] at hx;cases hx
theorem PW.kX {id:Nat} {Q:PX→St→Prop} (hm:P.follows .mixedOrders=true) {M:List Nat} (hM:M=masks ops.toList []) (hok:AM ops N M=true)
  (h:RQ P ops ops.toList s fun s'=>Q .normal s'):PW P N (.region id ops true) s Q:=by
 intro m ρ a w hI
 obtain ⟨s',L,hr,hL,hQ⟩:=h hI.gP
 exact PW.draw hm M hok hM hr (fT.quiet hL) hQ m ρ a w hI
end Go.Proofs.YtlfjfoknbjcncaaGreat.K
namespace Go.Proofs.YtlfjfoknbjcncaaGreat.K
open Go Go.RowKit Go.ChangeShapes Go.WideShapes Go.ChangeAt
variable {P:Program}
theorem Ext.below {m m':Mem} {w w':World} (h:Ext (fun _=>False) m w m' w'):Below w.heap.size w w':=⟨h.os,h.tape,h.output,h.size,fun k hk=>h.block k hk fun f=>f⟩
def vu (w:World):Mem:=fun b o=>match w.cell? ⟨b,o,none⟩ with
 | some v=>if v.oneCell'=true then some v else none
 | none=>none
theorem PY (w:World):gb (vu w) w:=by
 intro b o v h
 unfold vu at h
 split at h
 ·rename_i u hu
  split at h
  ·rename_i h1
   simp only [Option.some.injEq] at h
   subst h
   exact ⟨hu,h1⟩
  ·cases h
 ·cases h
theorem z3 {H:Type} {enc:TypeId×Value→H} (hl:laidOutB P=true) {W W':World} (hb:Below W.heap.size W W') {sp':Nat→Bool}:∀ {ts:List TypeId} {vs:List Value} {ds:List (DataW H)} {ps:List MemPlace},
  (∀ t∈ts,P.readableRec t=true∧t<P.types.size)→DataW.TrodAll enc P W 0 (fun _=>true) true ts vs ds ps→(∀ p∈ps,sp' p.block=true)→DataW.TrodAll enc P W' 0 sp' true ts vs ds ps
 | [],[],[],_,_,h,_=>h
 | t::ts,v::vs,d::ds,ps,ht,h,hs=>by
  have hlt:=DataW.TrodAll.lt h
  obtain ⟨p,q,h1,h2,rfl⟩:=h
  refine ⟨p,q,?_,z3 hl hb (fun t' h'=>ht t' (List.mem_cons_of_mem _ h')) h2 (fun x hx=>hs x (by simp [hx])),rfl⟩
  exact WideElems.Trod_stays hl (ht t (List.mem_cons_self ..)).1 (ht t (List.mem_cons_self ..)).2 h1 (fun x hx=>hb.same (hlt x (by simp [hx]))) (fun x hx=>hs x (by simp [hx]))
 | [],_::_,_,_,_,h,_=>by cases h
 | [],[],_::_,_,_,h,_=>by cases h
 | _::_,[],_,_,_,h,_=>by cases h
 | _::_,_::_,[],_,_,h,_=>by cases h
theorem Np {H:Type} {enc:TypeId×Value→H} {f:Func} {s:ChangeSpec} {fresh handsOn again:Bool} {W W':World} {args:Array Value} {ds gs:List (DataW H)} {before:List MemPlace} {t:TypeId}
  (hl:laidOutB P=true) (hp:∀ t∈f.params.toList,P.readableRec t=true∧t<P.types.size) (hW:DataW.Whole enc P f.params.toList s.vars false W args.toList ds gs before) (hv:s.vars=[])
  (hres:(s.fn H (ds++gs)).results=[.lit (.bool true)]) (hargs:(s.fn H (ds++gs)).args=ds) (hvs:(s.fn H (ds++gs)).vars=[]) (T3:f.resultTypes= #[t]) (ht:P.underlying t=some .bool)
  (hb:Below W.heap.size W W'):s.post enc P f false fresh handsOn again W args (.bool true) W':=by
 have T4:=hW
 have hlt:=fun p hp=>hW.lt p hp
 obtain ⟨p,q,hA,hV,rfl,hz,hn⟩:=hW
 rw [hv] at hV
 obtain ⟨rfl,rfl⟩:=trodVars_none hV
 have hold:∀ x∈p,(fun b=>decide (b<W.heap.size)) x.block=true:=fun x hx=>by simpa using hlt x (by simp [hx])
 have RL:∀ (b:Nat) (sp:Nat→Bool) (hd:Bool),DataW.TrodAll enc P W' b sp hd f.resultTypes.toList ((Value.bool true).resultList f.resultTypes.size) (s.fn H (ds++[])).results []:=by
  intro b sp hd
  rw [hres,T3]
  exact trodAll_cons_mk (shut_bool ht _) trodAll_mk0
 have O6:∀ sp:Nat→Bool,(∀ x∈p,sp x.block=true)→DataW.TrodAll enc P W' 0 sp true f.params.toList args.toList (s.fn H (ds++[])).args p:=by
  intro sp hs
  rw [hargs]
  exact z3 hl hb hp hA hs
 have O7:∀ sp:Nat→Bool,DataW.TrodVars enc P W' sp s.vars (s.fn H (ds++[])).vars []:=by
  intro sp
  rw [hv,hvs]
  rfl
 have hok:∀ (j:Nat) (t':TypeId) (r:Value),f.resultTypes[j]? =some t'→((Value.bool true).resultList f.resultTypes.size)[j]? =some r→Value.okWide P W' .any 0 t' r:=ok_one T3 rfl (okWide_bool_mk ht _)
 refine ⟨ds,[],p++[],[],p,[],T4,RL _ _ _,O6 _ hold,O7 _,World.keptBut_mono (fun x hx=>⟨hx, .inr (by simpa using hx)⟩) (hb.frame _),fun _=>⟨hok,_,_,([]++p)++[],⟨[]++p,[],trodAll_append (O6 _ (fun _ _=>rfl)) (RL _ _ _),O7 _,rfl,?_,?_⟩,?_⟩⟩
 ·intro b off hx
  have hb':b<W.heap.size:=hlt (.cell b off) (by simpa using hx)
  have e:W'.frozen? ⟨b,off,none⟩=W.frozen? ⟨b,off,none⟩:=by
   unfold World.frozen?
   rw [hb.block b hb']
  rw [e]
  exact hz b off (by simpa using hx)
 ·intro ha
  cases ha
 ·intro x hx _
  simpa using hx
theorem Nq {H:Type} {enc:TypeId×Value→H} {f:Func} {n:Nat} {s:ChangeSpec} {fresh handsOn again:Bool} {W:World} {args:Array Value} {ds gs:List (DataW H)} {before:List MemPlace} {t:TypeId} {data:List D}
  (hF:bI P n data (.val (.bool true))) (iO:cr (vu W) data args.toList)
  (hl:laidOutB P=true) (hp:∀ t∈f.params.toList,P.readableRec t=true∧t<P.types.size) (hW:DataW.Whole enc P f.params.toList s.vars false W args.toList ds gs before) (hv:s.vars=[])
  (hres:(s.fn H (ds++gs)).results=[.lit (.bool true)]) (hargs:(s.fn H (ds++gs)).args=ds) (hvs:(s.fn H (ds++gs)).vars=[]) (T3:f.resultTypes= #[t]) (ht:P.underlying t=some .bool):
  Calls P n args W fun e W'=>∃ v,e= .returned v∧s.post enc P f false fresh handsOn again W args v W':=by
 have:=hF (vu W) W args.toList (PY W) iO
 refine this.mono ?_
 rintro e W' ⟨v,m',rfl,Yr,_,hE⟩
 simp only [bg] at Yr
 subst Yr
 exact ⟨_,rfl,Np hl hp hW hv hres hargs hvs T3 ht hE.below⟩
end Go.Proofs.YtlfjfoknbjcncaaGreat.K
namespace Go.Proofs.YtlfjfoknbjcncaaGreat.K
open Go Go.RowKit Go.ChangeShapes Go.WideShapes Go.ChangeAt
variable {P:Program}
inductive Ty where
 | bool
 | int (k:IntKind)
 | str
 | slice (e:Ty)
 | st (l:List Ty)
 | arr (n:Nat) (e:Ty)
def Ty.isAgg:Ty→Bool
 | .st _=>true
 | .arr _ _=>true
 | _=>false
mutual
def Ty.size:Ty→Nat
 | .st l=>Ty.sizes l
 | .arr n e=>n*e.size
 | _=>1
def Ty.sizes:List Ty→Nat
 | []=>0
 | t::r=>t.size+Ty.sizes r
end
mutual
def kP:Ty→List D→Prop
 | .bool,l=>∃ b,l=[.val (.bool b)]
 | .int k,l=>∃ n,l=[.val (.int k n)]∧(Lit.int k n).wf=true
 | .str,l=>∃ s:ByteArray,l=[.val (.string s)]∧s.size≤maxLen
 | .slice e,l=>∃ xs:List D,l=[.slice xs]∧xs.length≤maxLen∧∀ x∈xs,kP e x.cells∧(∃ c,x= .agg c)=(e.isAgg=true)
 | .st ts,l=>Gg ts l
 | .arr n e,l=>∃ ls:List (List D),ls.length=n∧l=ls.flatten∧∀ c∈ls,kP e c
def Gg:List Ty→List D→Prop
 | [],l=>l=[]
 | t::r,l=>∃ a b,l=a++b∧kP t a∧Gg r b
end
mutual
def C2 (P:Program):Ty→TypeId→Bool
 | .bool,t=>match P.underlying t with
  | some .bool=>true
  | _=>false
 | .int k,t=>match P.underlying t with
  | some (.int k')=>k'==k
  | _=>false
 | .str,t=>match P.underlying t with
  | some .string=>true
  | _=>false
 | .slice e,t=>match P.underlying t with
  | some (.slice u)=>C2 P e u&&(P.cellsOf u==e.size&&decide (0<e.size))
  | _=>false
 | .st ts,t=>match P.underlying t with
  | some (.struct fs)=>(P.cellsOf t==Ty.sizes ts)&&IQ P ts fs.toList 0
  | _=>false
 | .arr n e,t=>match P.underlying t with
  | some (.array k u)=>(k==n)&&(C2 P e u&&(P.cellsOf u==e.size&&P.cellsOf t==n*e.size))
  | _=>false
def IQ (P:Program):List Ty→List Field→Nat→Bool
 | [],[],_=>true
 | T::r,f::q,off=>(f.offset==off)&&((P.cellsOf f.type==T.size)&&(C2 P T f.type&&IQ P r q (off+T.size)))
 | _,_,_=>false
end
def z4 (e:Ty) (l:List D):D:=if e.isAgg then .agg l else l.headD default
theorem C3 {e:Ty} {l:List D} (h:kP e l):(z4 e l).cells=l:=by
 cases e<;>simp only [kP] at h<;>simp only [z4,Ty.isAgg,if_true,Bool.false_eq_true,if_false]
 ·obtain ⟨b,rfl⟩:=h;rfl
 ·obtain ⟨n,rfl,_⟩:=h;rfl
 ·obtain ⟨n,rfl,_⟩:=h;rfl
 ·obtain ⟨n,rfl,_⟩:=h;rfl
 ·rfl
 ·rfl
theorem Nr {e:Ty} {l:List D} (h:kP e l):(∃ c,z4 e l= .agg c)=(e.isAgg=true):=by
 cases e<;>simp only [kP] at h<;>simp only [z4,Ty.isAgg,if_true,Bool.false_eq_true,if_false]
 ·obtain ⟨b,rfl⟩:=h;simp
 ·obtain ⟨n,rfl,_⟩:=h;simp
 ·obtain ⟨n,rfl,_⟩:=h;simp
 ·obtain ⟨n,rfl,_⟩:=h;simp
 ·simp
 ·simp
theorem trod_array {H:Type} {enc:TypeId×Value→H} {w:World} {base:Nat} {sp:Nat→Bool} {held:Bool} {fuel:Nat} {t e:TypeId} {n:Nat} {cs:List Value} {x:DataW H×List MemPlace} (ht:P.underlying t=some (.array n e))
  (h:DataW.trod enc P w base sp held fuel t cs=some x):
  ∃ (xs:List (DataW H×List MemPlace)) (k:Nat),fuel=k+1∧cs.length=P.cellsOf t∧xs.length=n∧∀ i,i<n→DataW.trod enc P w base sp held k e ((cs.drop (i*P.cellsOf e)).take (P.cellsOf e))=xs[i]? :=by
 cases fuel with
 | zero=>simp [DataW.trod] at h
 | succ k=>
  unfold DataW.trod at h
  rw [ht] at h
  split at h<;>simp_all
  obtain ⟨hl,xs,hp,hd⟩:=h
  exact ⟨xs,by simpa using mapM_some_length hp,fun i hi=>mapM_some_get hp i i (by simp [hi])⟩
theorem Le {W:World} {b o:Nat} {v:Value} (h:W.cell? ⟨b,o,none⟩=some v) (h1:v.oneCell'=true):vu W b o=some v:=by
 unfold vu
 rw [h]
 simp [h1]
theorem Ns {m:Mem} {e:Ty} {sz:Nat}:∀ (n:Nat) (cs:List Value),cs.length=n*sz→
  (∀ i,i<n→∃ l,kP e l∧cr m l ((cs.drop (i*sz)).take sz)∧∀ u∈(cs.drop (i*sz)).take sz,u.oneCell'=true)→
  ∃ ls:List (List D),ls.length=n∧(∀ c∈ls,kP e c)∧cr m ls.flatten cs∧∀ u∈cs,u.oneCell'=true:=by
 intro n
 induction n with
 | zero=>
  intro cs hl _
  have:cs=[]:=by simpa using hl
  subst this
  exact ⟨[],rfl,by simp,by simp [cr],by simp⟩
 | succ n ih=>
  intro cs hl h
  obtain ⟨l,h1,h2,h3⟩:=h 0 (by omega)
  simp only [Nat.zero_mul,List.drop_zero] at h2 h3
  have hlen:(cs.drop sz).length=n*sz:=by
   rw [List.length_drop,hl,Nat.succ_mul]
   omega
  obtain ⟨ls,e1,e2,e3,e4⟩:=ih (cs.drop sz) hlen (fun i hi=>by
   have:=h (i+1) (by omega)
   rw [Nat.succ_mul] at this
   rw [List.drop_drop]
   rwa [Nat.add_comm sz (i*sz)])
  refine ⟨l::ls,by simp [e1],?_,?_,?_⟩
  ·intro c hc
   rcases List.mem_cons.1 hc with rfl | hc
   ·exact h1
   ·exact e2 c hc
  ·rw [List.flatten_cons, ← List.take_append_drop sz cs]
   exact pz h2 e3
  ·intro u hu
   rw [← List.take_append_drop sz cs] at hu
   rcases List.mem_append.1 hu with hu | hu
   ·exact h3 u hu
   ·exact e4 u hu
theorem Nt {m:Mem} {b:Nat} {e:Ty} {sz:Nat}:∀ (n o:Nat),
  (∀ i,i<n→∃ l vs,kP e l∧cr m l vs∧vs.length=sz∧∀ j v,vs[j]? =some v→m b (o+i*sz+j)=some v)→
  ∃ xs:List D,xs.length=n∧gB m b xs o∧∀ x∈xs,kP e x.cells∧(∃ c,x= .agg c)=(e.isAgg=true):=by
 intro n
 induction n with
 | zero=>intro o _;exact ⟨[],rfl,by simp [gB],by simp⟩
 | succ n ih=>
  intro o h
  obtain ⟨l,vs,h1,h2,h3,h4⟩:=h 0 (by omega)
  obtain ⟨xs,e1,e2,e3⟩:=ih (o+sz) (fun i hi=>by
   obtain ⟨l',vs',k1,k2,k3,k4⟩:=h (i+1) (by omega)
   refine ⟨l',vs',k1,k2,k3,fun j v hv=>?_⟩
   have:=k4 j v hv
   rw [Nat.succ_mul] at this
   rwa [show o+sz+i*sz+j=o+(i*sz+sz)+j from by omega])
  have hc:=C3 h1
  have hlen:l.length=sz:=by rw [← qX h2];exact h3
  refine ⟨z4 e l::xs,by simp [e1],?_,?_⟩
  ·rw [mS,hc,hlen]
   refine ⟨xy h2 fun j v hv=>?_,e2⟩
   have:=h4 j v hv
   rwa [Nat.zero_mul,Nat.add_zero] at this
  ·intro x hx
   rcases List.mem_cons.1 hx with rfl | hx
   ·rw [hc];exact ⟨h1,Nr h1⟩
   ·exact e3 x hx
theorem Lf {W:World} {base:Nat} {a:Addr} {n:Nat} {cs:List Value} (h:W.cells? base a n=some cs) (hn:0<n):a.spot=none:=by
 unfold World.cells? at h
 split at h
 ·have h0:=mapM_some_get h 0 0 (by simp [hn])
  have hl:=mapM_some_length h
  simp only [List.length_range] at hl
  have:cs[0]? ≠none:=fun hc=>by have:=List.getElem?_eq_none_iff.1 hc;omega
  rw [← h0] at this
  cases hs:a.spot with
  | none=>rfl
  | some s=>
   refine absurd ?_ this
   have:a.add 0=a:=by simp [Addr.add]
   rw [this]
   simp only [World.cell?]
   split
   ·simp [hs]
   ·rfl
 ·cases h
theorem Nu {W:World} {base b o n:Nat} {cs:List Value} (h:W.cells? base ⟨b,o,none⟩ n=some cs):cs.length=n∧∀ j v,cs[j]? =some v→W.cell? ⟨b,o+j,none⟩=some v:=by
 unfold World.cells? at h
 split at h
 ·have hl:=mapM_some_length h
  simp only [List.length_range] at hl
  refine ⟨hl,fun j v hv=>?_⟩
  have hj:j<n:=by
   have:=(List.getElem?_eq_some_iff.1 hv).1
   omega
  have:=mapM_some_get h j j (by simp [hj])
  rw [iW] at this
  rw [this,hv]
 ·cases h
mutual
theorem wP {H:Type} {enc:TypeId×Value→H} {W:World} {sp:Nat→Bool}:∀ (T:Ty) (t:TypeId) (fuel:Nat) (cs:List Value) (x:DataW H×List MemPlace),
  C2 P T t=true→DataW.trod enc P W 0 sp true fuel t cs=some x→∃ l,kP T l∧cr (vu W) l cs∧∀ u∈cs,u.oneCell'=true
 | .bool,t,fuel,cs,x,hs,h=>by
  simp only [C2] at hs
  split at hs
  ·rename_i hu
   obtain ⟨b,rfl,_⟩:=DataW.trod_bool hu h
   exact ⟨_,⟨b,rfl⟩,by simp [cr,bg],by simp [Value.oneCell']⟩
  ·cases hs
 | .int k,t,fuel,cs,x,hs,h=>by
  simp only [C2] at hs
  split at hs
  ·rename_i k' hu
   have hk:k'=k:=by simpa using hs
   subst hk
   obtain ⟨n,rfl,_,hw⟩:=DataW.trod_int hu h
   exact ⟨_,⟨n,rfl,hw⟩,by simp [cr,bg],by simp [Value.oneCell']⟩
  ·cases hs
 | .str,t,fuel,cs,x,hs,h=>by
  simp only [C2] at hs
  split at hs
  ·rename_i hu
   obtain ⟨s,rfl,_,hw⟩:=DataW.trod_string hu h
   exact ⟨_,⟨s,rfl,hw⟩,by simp [cr,bg],by simp [Value.oneCell']⟩
  ·cases hs
 | .slice e,t,fuel,cs,x,hs,h=>by
  simp only [C2] at hs
  split at hs
  ·rename_i u hu
   simp only [Bool.and_eq_true,beq_iff_eq,decide_eq_true_eq] at hs
   obtain ⟨h1,h2,h3⟩:=hs
   rcases DataW.trod_slice hu h with ⟨rfl,_⟩ | ⟨a,len,cap,elems,rest,n,rfl,rfl,_,_,hlc,Il,hel,BG,_⟩
   ·exact ⟨_,⟨[],rfl,by simp,by simp⟩,by simp [cr,bg],by simp [Value.oneCell']⟩
   ·rw [h2] at BG
    have each:∀ i,i<len→∃ Lg xi,W.cells? 0 (a.add (i*e.size)) e.size=some Lg∧DataW.trod enc P W 0 sp true n u Lg=some xi:=by
     intro i hi
     have:=BG i hi
     have hx:elems[i]? =some (elems[i]'(by omega)):=List.getElem?_eq_getElem (by omega)
     rw [hx,Option.bind_eq_some_iff] at this
     obtain ⟨Lg,k1,k2⟩:=this
     exact ⟨Lg,_,k1,k2⟩
    by_cases h0:len=0
    ·subst h0
     exact ⟨_,⟨[],rfl,by simp,by simp⟩,by simp [cr,bg],by simp [Value.oneCell']⟩
    ·have RM:a.spot=none:=by
      obtain ⟨Lg,_,k1,_⟩:=each 0 (by omega)
      have:=Lf k1 h3
      simpa [Addr.add] using this
     obtain ⟨b,o,s⟩:=a
     simp only at RM
     subst RM
     obtain ⟨xs,e1,e2,e3⟩:=Nt (m:=vu W) (b:=b) (e:=e) (sz:=e.size) len o (fun i hi=>by
      obtain ⟨Lg,xi,k1,k2⟩:=each i hi
      obtain ⟨l,l1,l2,l3⟩:=wP e u n Lg xi h1 k2
      rw [iW] at k1
      obtain ⟨k3,k4⟩:=Nu k1
      exact ⟨l,Lg,l1,l2,k3,fun j v hv=>Le (k4 j v hv) (l3 v (List.mem_of_getElem? hv))⟩)
     refine ⟨[.slice xs],⟨xs,rfl,by omega,e3⟩,?_,by simp [Value.oneCell']⟩
     simp only [cr,bg]
     exact ⟨_,[],rfl,⟨some ⟨b,o,none⟩,cap,by rw [e1],by omega, .inr ⟨b,o,rfl,e2⟩⟩,rfl⟩
  ·cases hs
 | .st ts,t,fuel,cs,x,hs,h=>by
  simp only [C2] at hs
  split at hs
  ·rename_i fs hu
   simp only [Bool.and_eq_true,beq_iff_eq] at hs
   obtain ⟨h1,h2⟩:=hs
   obtain ⟨xs,n,rfl,_,hl,hx,BG⟩:=DataW.trod_struct hu h
   obtain ⟨l,l1,l2,l3⟩:=Gh ts fs.toList 0 n cs h2 (fun f hf=>by
    obtain ⟨i,hi⟩:=List.mem_iff_getElem?.1 hf
    have hi':fs[i]? =some f:=by simpa using hi
    have:=BG i f hi'
    have hlt:i<fs.size:=(Array.getElem?_eq_some_iff.1 hi').1
    exact ⟨xs[i]'(by omega),by rw [this];exact List.getElem?_eq_getElem (by omega)⟩) (by omega)
   have e:(cs.drop 0).take (Ty.sizes ts)=cs:=by rw [List.drop_zero,List.take_of_length_le (by omega)]
   rw [e] at l2 l3
   exact ⟨l,by simpa only [kP] using l1,l2,l3⟩
  ·cases hs
 | .arr k e,t,fuel,cs,x,hs,h=>by
  simp only [C2] at hs
  split at hs
  ·rename_i k' u hu
   simp only [Bool.and_eq_true,beq_iff_eq] at hs
   obtain ⟨rfl,h1,h2,h3⟩:=hs
   obtain ⟨xs,n,rfl,hl,hx,BG⟩:=trod_array hu h
   rw [h2] at BG
   obtain ⟨ls,e1,e2,e3,e4⟩:=Ns (m:=vu W) (e:=e) (sz:=e.size) k' cs (by omega) (fun i hi=>by
    have:=BG i hi
    rw [List.getElem?_eq_getElem (by omega)] at this
    exact wP e u n _ _ h1 this)
   exact ⟨_,⟨ls,e1,rfl,e2⟩,e3,e4⟩
  ·cases hs
theorem Gh {H:Type} {enc:TypeId×Value→H} {W:World} {sp:Nat→Bool}:∀ (Ts:List Ty) (fs:List Field) (off n:Nat) (cs:List Value),
  IQ P Ts fs off=true→(∀ f∈fs,∃ x,DataW.trod enc P W 0 sp true n f.type ((cs.drop f.offset).take (P.cellsOf f.type))=some x)→off+Ty.sizes Ts≤cs.length→
  ∃ l,Gg Ts l∧cr (vu W) l ((cs.drop off).take (Ty.sizes Ts))∧∀ u∈(cs.drop off).take (Ty.sizes Ts),u.oneCell'=true
 | [],[],off,n,cs,_,_,_=>⟨[],rfl,by simp [cr,Ty.sizes],by simp [Ty.sizes]⟩
 | T::r,f::q,off,n,cs,hs,h,hl=>by
  simp only [IQ,Bool.and_eq_true,beq_iff_eq] at hs
  obtain ⟨h1,h2,h3,h4⟩:=hs
  obtain ⟨x,hx⟩:=h f (List.mem_cons_self ..)
  rw [h1,h2] at hx
  simp only [Ty.sizes] at hl
  obtain ⟨a,a1,a2,a3⟩:=wP T f.type n _ x h3 hx
  obtain ⟨b,b1,b2,b3⟩:=Gh r q (off+T.size) n cs h4 (fun g hg=>h g (List.mem_cons_of_mem _ hg)) (by omega)
  have e:(cs.drop off).take (Ty.sizes (T::r))=(cs.drop off).take T.size++(cs.drop (off+T.size)).take (Ty.sizes r):=by
   simp only [Ty.sizes]
   rw [List.take_add,List.drop_drop]
  refine ⟨a++b,?_,?_,?_⟩
  ·simp only [Gg];exact ⟨a,b,rfl,a1,b1⟩
  ·rw [e];exact pz a2 b2
  ·intro u hu
   rw [e] at hu
   rcases List.mem_append.1 hu with hu | hu
   ·exact a3 u hu
   ·exact b3 u hu
 | [],_::_,_,_,_,hs,_,_=>by simp [IQ] at hs
 | _::_,[],_,_,_,hs,_,_=>by simp [IQ] at hs
end
end Go.Proofs.YtlfjfoknbjcncaaGreat.K
namespace Go.Proofs.YtlfjfoknbjcncaaGreat.K
open Go Go.RowKit Go.ChangeShapes Go.WideShapes Go.ChangeAt
variable {P:Program}
theorem T5 {W:World} {r:Reach} {b0:Nat} {t:TypeId} {v:Value} {T:Ty} (hT:T.isAgg=false) (hs:C2 P T t=true) (hv:Value.okWide P W r b0 t v):v.cells.toList=[v]:=by
 have key:∀ cs,v≠ .agg cs:=by
  intro cs e
  subst e
  cases T<;>simp only [Ty.isAgg,Bool.true_eq_false] at hT<;>simp only [C2] at hs<;>split at hs<;>first | (cases hs;done) | (rename_i hu;simp [Value.okWide,hu,Cell.okWide,Cell.ok] at hv)
 cases v<;>simp_all [Value.cells]
theorem IS {H:Type} {enc:TypeId×Value→H} {W:World} {sp:Nat→Bool} {r:Reach} {b0:Nat} {t:TypeId} {v:Value} {d:DataW H} {ps:List MemPlace} (T:Ty) (hs:C2 P T t=true) (hv:Value.okWide P W r b0 t v) (h:DataW.Trod enc P W 0 sp true t v d ps):
  ∃ l,kP T l∧bg (vu W) (z4 T l) v:=by
 obtain ⟨fuel,h⟩:=h
 obtain ⟨l,h1,h2,h3⟩:=wP T t fuel _ _ hs h
 refine ⟨l,h1,?_⟩
 cases hT:T.isAgg with
 | true=>
  have:∃ cs,v= .agg cs:=by
   cases T<;>simp only [Ty.isAgg,Bool.false_eq_true] at hT<;>simp only [C2] at hs<;>split at hs<;>first | (cases hs;done) | (rename_i hu;simp only [Value.okWide,hu] at hv;obtain ⟨cs,e,_⟩:=hv;exact ⟨cs,e⟩)
  obtain ⟨cs,rfl⟩:=this
  simp only [z4,hT,if_true,bg]
  exact ⟨cs.toList,rfl,by simpa [Value.cells] using h2,by simpa [Value.cells] using h3⟩
 | false=>
  have hc:=T5 hT hs hv
  rw [hc] at h2
  have hw:=C3 h1
  simp only [z4,hT,Bool.false_eq_true,if_false] at hw ⊢
  cases l with
  | nil=>simp [cr] at h2
  | cons x q=>
   simp only [cr] at h2
   obtain ⟨v',vr,e,e1,e2⟩:=h2
   simp only [List.cons.injEq] at e
   obtain ⟨rfl,_⟩:=e
   simpa using e1
theorem O8 {l:List D} (h:kP (.int .u8) l):∃ b:UInt8,l=[U b]:=by
 simp only [kP] at h
 obtain ⟨n,rfl,hw⟩:=h
 have hr:0≤n∧n≤255:=by
  simp only [Lit.wf,Bool.and_eq_true,decide_eq_true_eq] at hw
  have h1:IntKind.u8.min=0:=by decide
  have h2:IntKind.u8.max=255:=by decide
  rw [h1,h2] at hw
  exact hw
 refine ⟨UInt8.ofNat n.toNat,?_⟩
 have:((UInt8.ofNat n.toNat).toNat:Int)=n:=by
  rw [UInt8.toNat_ofNat']
  omega
 rw [U,this]
theorem Gi {α:Type} {e:Ty} {f:α→D} (one:∀ x:D,kP e x.cells→(∃ c,x= .agg c)=(e.isAgg=true)→∃ a,x=f a):∀ {xs:List D},(∀ x∈xs,kP e x.cells∧(∃ c,x= .agg c)=(e.isAgg=true))→∃ as:List α,as.length=xs.length∧xs=as.map f
 | [],_=>⟨[],rfl,rfl⟩
 | x::r,h=>by
  obtain ⟨a,e1⟩:=one x (h x (List.mem_cons_self ..)).1 (h x (List.mem_cons_self ..)).2
  obtain ⟨as,h1,h2⟩:=Gi one (xs:=r) fun y hy=>h y (List.mem_cons_of_mem _ hy)
  exact ⟨a::as,by simp [h1],by simp [e1,h2]⟩
theorem Lh {x y:D} (h:x.cells=[y]) (ha:(∃ c,x= .agg c)=(false=true)):x=y:=by
 cases x with
 | agg c=>
  have:(false=true):=ha▸⟨c,rfl⟩
  cases this
 | _=>simpa [D.cells] using h
end Go.Proofs.YtlfjfoknbjcncaaGreat.K
namespace Go.Proofs.YtlfjfoknbjcncaaGreat.K
open Go Go.RowKit
theorem ofInt_u8 (a:UInt8):BitVec.ofInt IntKind.u8.bits (a.toNat:Int)=a.toBitVec:=by
 apply BitVec.eq_of_toNat_eq
 simp [IntKind.bits]
theorem WR (a:UInt8):(0:Int)≤a.toNat∧(a.toNat:Int)≤255:=by
 have:a.toNat<256:=a.toNat_lt
 omega
theorem wQ (a:UInt8):IntKind.u8.wrap (a.toNat:Int)=a.toNat:=wrap_u8 (WR a)
theorem WS (a b:UInt8):IntKind.u8.wrap ((BitVec.ofInt IntKind.u8.bits (a.toNat:Int)||| BitVec.ofInt IntKind.u8.bits (b.toNat:Int)).toNat:Int)=(a||| b).toNat:=by
 rw [ofInt_u8,ofInt_u8]
 exact wQ (a||| b)
theorem T6 (a b:UInt8):IntKind.u8.wrap ((BitVec.ofInt IntKind.u8.bits (a.toNat:Int)&&& BitVec.ofInt IntKind.u8.bits (b.toNat:Int)).toNat:Int)=(a&&& b).toNat:=by
 rw [ofInt_u8,ofInt_u8]
 exact wQ (a&&& b)
theorem T7 (a b:UInt8):IntKind.u8.wrap ((a.toNat:Int)+(b.toNat:Int))=(a+b).toNat:=by
 rw [IntKind.wrap_u8,UInt8.toNat_add]
 omega
theorem wR:∀ l:List D,PV.ej (l.map .d)=some l
 | []=>rfl
 | x::r=>by simp only [List.map_cons,PV.ej,PV.dj,wR r,Option.map_some]
theorem wS:maxLen=9223372036854775807:=rfl
theorem fT.lone {M:List Nat} {L:List Rec} (n:Nat) (h1:∀ R∈L.take n,R.T=[]∧R.W=[]∧R.lo=R.hi) (h2:∀ R∈L.drop (n+1),R.T=[]∧R.W=[]):fT M L:=by
 intro i j a b hij ha hb hx
 have front:∀ (k:Nat) (R:Rec),k<n→L[k]? =some R→R.T=[]∧R.W=[]∧R.lo=R.hi:=fun k R hk hR=>h1 R (List.mem_of_getElem? (i:=k) (by rw [List.getElem?_take,if_pos hk];exact hR))
 have back:∀ (k:Nat) (R:Rec),n<k→L[k]? =some R→R.T=[]∧R.W=[]:=fun k R hk hR=>h2 R (List.mem_of_getElem? (i:=k-(n+1)) (by rw [List.getElem?_drop,show n+1+(k-(n+1))=k from by omega];exact hR))
 rcases Nat.lt_trichotomy j n with hj | hj | hj
 ·have hB:=front j b hj hb
  rcases hx with ⟨x,hx,_⟩ | ⟨x,_,hx⟩
  ·rw [hB.1] at hx;cases hx
  ·rw [hB.2.1] at hx;cases hx
 ·have hA:=front i a (by omega) ha
  rcases hx with ⟨x,_,hx | hx⟩ | ⟨x,hx,_⟩
  ·rw [hA.2.1] at hx;cases hx
  ·rw [hA.2.2] at hx;omega
  ·rw [hA.1] at hx;cases hx
 ·have hB:=back j b hj hb
  rcases hx with ⟨x,hx,_⟩ | ⟨x,_,hx⟩
  ·rw [hB.1] at hx;cases hx
  ·rw [hB.2] at hx;cases hx
end Go.Proofs.YtlfjfoknbjcncaaGreat.K
namespace Go.Proofs.YtlfjfoknbjcncaaGreat.K
open Go Go.RowKit
variable {P:Program} {N:Nat} {ops:Array Oper} {o:Oper} {r:List Oper} {s:St}
def Z9 (S:Nat→PV):List (Nat×PV)→Prop
 | []=>True
 | x::r=>S x.1=x.2∧Z9 S r
theorem Kd (bs:ByteArray):∀ (n i:Nat) (r:List UInt8),bs.size-i=n→ByteArray.toList.loop bs i r=r.reverse++bs.data.toList.drop i:=by
 have e:bs.data.size=bs.size:=rfl
 intro n
 induction n with
 | zero=>
  intro i r h
  rw [ByteArray.toList.loop,if_neg (by omega),List.drop_eq_nil_of_le (by simp;omega),List.append_nil]
 | succ n ih=>
  intro i r h
  rw [ByteArray.toList.loop,if_pos (by omega),ih (i+1) _ (by omega)]
  have hi:i<bs.data.toList.length:=by simp;omega
  rw [List.drop_eq_getElem_cons hi,List.reverse_cons,List.append_assoc]
  congr 2
  rw [ByteArray.get!,getElem!_pos bs.data i (by simpa using hi)]
  simp
theorem z5 (l:List UInt8):(ByteArray.mk l.toArray).toList=l:=by
 rw [ByteArray.toList,Kd _ _ 0 [] rfl]
 simp
theorem sY (l:List UInt8):(ByteArray.mk l.toArray).size=l.length:=by simp [ByteArray.size]
theorem EN (a b:List UInt8):ByteArray.mk a.toArray++ByteArray.mk b.toArray=ByteArray.mk (a++b).toArray:=by
 apply WideShapes.bytes_inj
 simp
theorem C4 (l:List UInt8) (i j:Nat):(ByteArray.mk l.toArray).extract i j=ByteArray.mk ((l.drop i).take (j-i)).toArray:=by
 apply WideShapes.bytes_inj
 simp
theorem Li:IntKind.i64.max=9223372036854775807:=rfl
theorem D1 {m:Mem} {ρ:di} {p q:PV} (h:∀ v,aN m ρ p v→aN m ρ q v):∀ (l:List PV) (vs:List Value) (j:Nat),l[j]? =some p→bN m ρ l vs→bN m ρ (l.set j q) vs
 | [],vs,j,hj,_=>by simp at hj
 | x::r,vs,0,hj,hr=>by
  simp only [List.getElem?_cons_zero,Option.some.injEq] at hj
  subst hj
  simp only [List.set_cons_zero,bN] at hr ⊢
  obtain ⟨v,vr,e1,e2,e3⟩:=hr
  exact ⟨v,vr,e1,h v e2,e3⟩
 | x::r,vs,j+1,hj,hr=>by
  simp only [List.getElem?_cons_succ] at hj
  simp only [List.set_cons_succ,bN] at hr ⊢
  obtain ⟨v,vr,e1,e2,e3⟩:=hr
  exact ⟨v,vr,e1,e2,D1 h r vr j hj e3⟩
theorem nc (a:UInt8):a.toNat<256:=a.toNat_lt
theorem Nv (b:UInt8):IntKind.i64.wrap (b.toNat:Int)=(b.toNat:Int):=wrap_i64 (by have:=nc b;omega)
def O9 (P:Program) (t:TypeId) (n:Nat):Bool:=
 match P.underlying t with
 | some (.array k e)=>k==n&&(match P.underlying e with | some (.int .u8)=>true | _=>false)&&(match P.info? e with | some _=>P.cellsOf e==1 | none=>false)&& !P.eqGuardType P.depth t
 | _=>false
theorem z6 {e:TypeId} {w:World} (he:P.underlying e=some (.int .u8)) (d:Nat):∀ (a b:List UInt8) (pa pb:List UInt8),a.length=b.length→pa.length=pb.length→
  (Op.eqItems (d+1) e 1 ⟨(pa++a).map fun b=>Value.int .u8 b.toNat⟩ ⟨(pb++b).map fun b=>Value.int .u8 b.toNat⟩ (List.range' pa.length a.length)).run P w= .ok (a==b) w
 | [],[],pa,pb,_,_=>rfl
 | x::a,y::b,pa,pb,h,hp=>by
  have hpk:P.plainKey e=true:=by simp [Program.plainKey,he]
  have e1:((⟨(pa++x::a).map fun b=>Value.int .u8 b.toNat⟩:Array Value)[pa.length*1]?)=some (.int .u8 x.toNat):=by simp
  have e2:((⟨(pb++y::b).map fun b=>Value.int .u8 b.toNat⟩:Array Value)[pa.length*1]?)=some (.int .u8 y.toNat):=by rw [hp];simp
  have ih:=z6 (w:=w) he d a b (pa++[x]) (pb++[y]) (by simpa using h) (by simp [hp])
  simp only [List.append_assoc,List.cons_append,List.nil_append,List.length_append,List.length_cons,List.length_nil,Nat.zero_add] at ih
  simp only [List.length_cons,List.range'_succ,Op.eqItems,Sem.run_bind,run_part_plain w hpk e1,run_part_plain w hpk e2,run_equalIn_int w d e _ _ _ _ he,Result.andThen_ok]
  by_cases hx:x=y
  ·subst hx
   simp only [beq_self_eq_true,Bool.not_true,Bool.false_eq_true,if_false]
   rw [ih]
   simp
  ·have:(((x.toNat:Int))==(y.toNat:Int))=false:=by rw [beq_eq_false_iff_ne];intro e;exact hx (UInt8.toNat_inj.1 (by omega))
   rw [this]
   have h2:(x::a==y::b)=false:=by simp [hx]
   rw [h2]
   rfl
 | [],_::_,_,_,h,_=>by simp at h
 | _::_,[],_,_,h,_=>by simp at h
theorem D0.bytes {t:TypeId} {n:Nat} (h:O9 P t n=true) (a b:List UInt8) (ha:a.length=n) (hb:b.length=n):D0 P t (.agg (a.map U)) (.agg (b.map U)) (a==b):=by
 unfold O9 at h
 split at h
 ·rename_i k e hu
  simp only [Bool.and_eq_true,beq_iff_eq,Bool.not_eq_true'] at h
  obtain ⟨⟨⟨rfl,h2⟩,h3⟩,h4⟩:=h
  have he:P.underlying e=some (.int .u8):=by
   split at h2
   ·assumption
   ·cases h2
  split at h3
  ·rename_i i hi
   have hc:P.cellsOf e=1:=by simpa using h3
   refine ⟨h4,fun m w v u hv Yu=>?_⟩
   simp only [bg] at hv Yu
   obtain ⟨vs,rfl,hvs,_⟩:=hv
   obtain ⟨us,rfl,hus,_⟩:=Yu
   refine ⟨_,_,rfl,rfl,?_⟩
   have e1:=tH hvs
   have e2:=tH hus
   subst e1;subst e2
   show (Op.equalIn (9998+1+1) t _ _).run P w=_
   rw [run_equalIn_array w (9998+1) _ _ hu hi,hc,List.range_eq_range']
   have:=z6 (w:=w) he 9998 a b [] [] (by omega) rfl
   simp only [List.nil_append,List.length_nil] at this
   rw [← ha]
   exact this
  ·cases h3
 ·cases h
attribute [go_sem] Int.natCast_zero Int.cast_ofNat_Int List.all_cons List.all_nil Nv UInt8.ofNat_toNat List.size_toArray Int.tdiv_eq_ediv_of_nonneg Int.tmod_eq_emod_of_nonneg wQ z5 sY EN C4 Li aT cU ot dw AT eq_self true_implies false_implies Int.toNat_natCast Op.operands Call.operands Array.toList_append List.nil_append List.append_nil vt bU jA iU jX jB aB dQ isEq BF yM wO zy oh bin un yE sU js z1 PV.elems B5 xA nM oG nF CU wL zX nO B6 um C1 oD k9 k8 placeOf K4 PV.hY PV.cz PV.dj PV.ej PV.more Gf cx oJ Nat.one_ne_zero Nat.zero_ne_one if_true if_false and_true true_and and_self Bool.and_true Bool.true_and Bool.and_false Bool.false_and Bool.false_eq_true beq_self_eq_true Bool.not_true Bool.not_false Bool.not_eq_true Bool.not_eq_false Bool.cond_true Bool.cond_false List.map_cons List.map_nil List.length_cons List.length_nil List.length_map decide_true decide_false List.drop_zero List.drop_succ_cons List.headD_cons List.getD_cons_zero List.getD_cons_succ forall_const imp_self ne_eq not_true not_false_eq_true Option.map_some Option.map_none List.cons_append and_assoc x3 RG mC wR Nat.mul_one List.forall_mem_cons List.not_mem_nil List.mem_cons forall_eq_or_imp forall_eq implies_true Option.some.injEq HO.spare.injEq Value.oneCell' List.length_replicate wS CY C0 wrap_i64 wrap_u64 wrap_u8
end Go.Proofs.YtlfjfoknbjcncaaGreat.K
namespace Go.Proofs.YtlfjfoknbjcncaaGreat.K
open Go Go.RowKit
abbrev Wd:=BitVec 32
def C5 (m:Nat):List Rec→Nat→Bool
 | [],_=>true
 | R::r,i=>(R.T.isEmpty||m.testBit i)&&C5 m r (i+1)
theorem EO {m:Nat}:∀ {L:List Rec} {k i:Nat} {R:Rec},C5 m L k=true→L[i]? =some R→R.T≠[]→m.testBit (k+i)=true
 | R'::r,k,0,R,h,e,hT=>by
  simp only [List.getElem?_cons_zero,Option.some.injEq] at e
  subst e
  simp only [C5,Bool.and_eq_true,Bool.or_eq_true,List.isEmpty_iff] at h
  exact h.1.resolve_left hT
 | R'::r,k,i+1,R,h,e,hT=>by
  simp only [List.getElem?_cons_succ] at e
  simp only [C5,Bool.and_eq_true] at h
  have:=EO h.2 e hT
  rwa [show k+1+i=k+(i+1) by omega] at this
 | [],_,_,_,_,e,_=>by simp at e
theorem fT.last {M:List Nat} {L:List Rec} (n:Nat) (h1:∀ R∈L.take n,R.W=[]∧R.lo=R.hi) (h2:∀ R∈L.drop (n+1),R.T=[]∧R.W=[]) (h3:C5 (M.getD n 0) (L.take n) 0=true):fT M L:=by
 intro i j a b hij ha hb hx
 have front:∀ (k:Nat) (R:Rec),k<n→L[k]? =some R→R.W=[]∧R.lo=R.hi:=fun k R hk hR=>h1 R (List.mem_of_getElem? (i:=k) (by rw [List.getElem?_take,if_pos hk];exact hR))
 have back:∀ (k:Nat) (R:Rec),n<k→L[k]? =some R→R.T=[]∧R.W=[]:=fun k R hk hR=>h2 R (List.mem_of_getElem? (i:=k-(n+1)) (by rw [List.getElem?_drop,show n+1+(k-(n+1))=k from by omega];exact hR))
 rcases Nat.lt_trichotomy j n with hj | hj | hj
 ·have hB:=front j b hj hb
  have hA:=front i a (by omega) ha
  rcases hx with ⟨x,_,hx | hx⟩ | ⟨x,_,hx⟩
  ·rw [hA.1] at hx;cases hx
  ·omega
  ·rw [hB.1] at hx;cases hx
 ·subst hj
  have hA:=front i a hij ha
  rcases hx with ⟨x,_,hx | hx⟩ | ⟨x,hx,_⟩
  ·rw [hA.1] at hx;cases hx
  ·omega
  ·have:=EO h3 (i:=i) (R:=a) (by rw [List.getElem?_take,if_pos hij];exact ha) (by intro e;rw [e] at hx;cases hx)
   simpa using this
 ·have hB:=back j b hj hb
  rcases hx with ⟨x,hx,_⟩ | ⟨x,_,hx⟩
  ·rw [hB.1] at hx;cases hx
  ·rw [hB.2] at hx;cases hx
attribute [go_sem] Nat.zero_add
end Go.Proofs.YtlfjfoknbjcncaaGreat.K
namespace Go.Proofs.YtlfjfoknbjcncaaGreat.K
open Go Go.RowKit
variable {P:Program} {N:Nat} {ops:Array Oper} {o:Oper} {r:List Oper} {s:St}
theorem Lj {s:St} {m:Mem} {ρ:di} {w:World} (T:List Nat) (V:ew (· ∈T) m ρ w s.H) (hf:∀ i,s.nx≤i→i<s.nx+1→ρ i=none) {vals rest:List Value} {sz n cap:Nat} (h1:∀ v∈vals,v.oneCell'=true) (hv:vals.length=n*sz)
  (hr:vals.length+rest.length=cap*sz) (hc:n≤cap) (hm:cap≤maxLen) (e:TypeId) (fr:Nat×Nat) (hfr:(vals++rest).length≤fr.1) (Hd:HM) (hd:∀ i,Hd i=none∨Hd i=s.H i):
  zu (· ∈T) s.nx (s.nx+1) m ρ w s.H (m.with w.heap.size vals) (fun i=>if i=s.nx then some (w.heap.size,cap) else ρ i) (w.drew.alloc (.cells ⟨vals++rest⟩ e fr)) (fun i=>if i=s.nx then some (.spare sz n) else Hd i):=by
 have hle:ρ.le (fun i=>if i=s.nx then some (w.heap.size,cap) else ρ i):=by
  intro i x e
  have:i≠s.nx:=by intro h;subst h;rw [hf _ (Nat.le_refl _) (by omega)] at e;cases e
  simp [this,e]
 have hml:=Mem.tI (vs:=vals) (tJ V.mem)
 have hold:∀ k,k<w.heap.size→(w.drew.alloc (.cells ⟨vals++rest⟩ e fr)).heap[k]? =w.heap[k]? :=fun k hk=>heap_alloc_old w.drew _ hk
 have hnew:(w.drew.alloc (.cells ⟨vals++rest⟩ e fr)).heap[w.heap.size]? =some (.cells ⟨vals++rest⟩ e fr):=heap_alloc_new w.drew _
 have hnm:∀ b o v,(m.with w.heap.size vals) b o=some v→m b o=some v∨w.heap.size≤b:=by
  intro b o v h
  unfold Mem.with at h
  split at h
  ·exact .inr (by omega)
  ·exact .inl h
 have hmem:gb (m.with w.heap.size vals) (w.drew.alloc (.cells ⟨vals++rest⟩ e fr)):=by
  refine V.mem.with (fun b ⟨_,_,h⟩=>hold b (V.mem.lt h)) (fun o v h=>?_) h1
  rw [ig hnew,List.getElem?_append_left (List.getElem?_eq_some_iff.1 h).1]
  exact h
 refine ⟨⟨hml,by simp,fun b hb _=>hold b hb,rfl,rfl,rfl,fun b o v h=>(hnm b o v h).imp id .inr⟩,hle,fun i=>?_,⟨hmem,?_,?_⟩,?_⟩
 ·by_cases h:i=s.nx
  ·exact .inr ⟨by omega,by omega⟩
  ·simp [h]
 ·intro i o hi hH
  by_cases h:i=s.nx
  ·subst h
   simp only [if_true,Option.some.injEq] at hH
   subst hH
   refine .inr ⟨w.heap.size,cap,_,e,fr,by simp,hnew,by simp;omega,hc,hm,by simp only [List.size_toArray] at hfr ⊢;omega,fun o ho=>?_⟩
   simp only [Mem.with,if_true]
   exact List.getElem?_eq_none (by omega)
  ·simp only [h,if_false] at hH
   have uk:s.H i=some o:=by
    rcases hd i with h' | h'
    ·rw [h'] at hH;cases hH
    ·rw [← h'];exact hH
   have hE:=V.entry i o (hi.elim id (by omega)) uk
   refine hE.move hml hle (by simp [h]) (fun b c hr=>hold b (hE.oC hr)) (fun b c hr o' v h'=>?_)
   rcases hnm b o' v h' with h'' | h''
   ·exact h''
   ·have:=hE.oC hr;omega
 ·intro i j b c c' hi hj Bp yJ fY jR
  have old:∀ k,(k∈T∨(s.nx≤k∧k<s.nx+1))→k≠s.nx→(if k=s.nx then some (HO.spare sz n) else Hd k)≠none→∀ b c,(if k=s.nx then some (w.heap.size,cap) else ρ k)=some (b,c)→k∈T∧s.H k≠none∧ρ k=some (b,c)∧b<w.heap.size:=by
   intro k hk hne hl b c hr
   simp only [hne,if_false] at hl hr
   have Ga:k∈T:=hk.elim id (by omega)
   have hl':s.H k≠none:=by
    rcases hd k with h' | h'
    ·exact absurd h' hl
    ·rw [← h'];exact hl
   refine ⟨Ga,hl',hr,?_⟩
   cases e:s.H k with
   | none=>exact absurd e hl'
   | some o=>exact (V.entry k o Ga e).oC hr
  by_cases h:i=s.nx<;>by_cases h':j=s.nx
  ·rw [h,h']
  ·subst h
   have:=old j hj h' yJ b c' jR
   simp at fY
   omega
  ·subst h'
   have:=old i hi h Bp b c fY
   simp at jR
   omega
  ·have e1:=old i hi h Bp b c fY
   have e2:=old j hj h' yJ b c' jR
   exact V.apart i j b c c' e1.1 e2.1 e1.2.1 e2.2.1 e1.2.2.1 e2.2.2.1
 ·rintro b ⟨i,c,hi,hl,hr⟩
  by_cases h:i=s.nx
  ·subst h
   simp at hr
   exact .inr (by omega)
  ·simp only [h,if_false] at hl hr
   have hl':s.H i≠none:=by
    rcases hd i with h' | h'
    ·exact absurd h' hl
    ·rw [← h'];exact hl
   exact .inl ⟨i,c,hi.elim id (by omega),hl',hr⟩
theorem Lk {t u e:TypeId} {x:Operand} {l:List UInt8} (ho:o.op= .convert t u x) (hs:P.underlying t=some .string) (hd:P.underlying u=some (.slice e)) (he:P.underlying e=some (.int .u8))
  (hx:aB s.S x= .d (.val (.string ⟨l.toArray⟩))) (hn:∀ i,s.nx≤i→s.H i=none) (hl:l.length≤maxLen):
  m9 P o s (.own s.nx (l.map U)) (fun i=>if i=s.nx then some (.spare 1 l.length) else s.H i) (s.nx+1) [] []:=by
 refine ⟨by omega,fun i _ hi=>?_,fun i hi=>?_,by simp,by simp,?_⟩
 ·have:i≠s.nx:=by omega
  simp [this]
 ·have:i≠s.nx:=by omega
  simp [this,hn i (by omega)]
 intro m ρ a w K Q V hf hxs hK
 have h1:=hxs x (by simp [ho,Op.operands])
 rw [hx] at h1
 simp only [aN,bg] at h1
 have hz:(ByteArray.mk l.toArray).size=l.length:=sY l
 have hrun:=run_bytes_of_string (P:=P) w t u e ⟨l.toArray⟩ hs hd he
 have hge:=grownCap_ge w (ByteArray.mk l.toArray).size 0 e
 have Il:=grownCap_le_maxLen w (ByteArray.mk l.toArray).size 0 e (by rw [hz];exact hl)
 have hb:bytesRow ⟨l.toArray⟩ (grownCap w (ByteArray.mk l.toArray).size 0 e)=⟨(l.map fun b=>Value.int .u8 b.toNat)++List.replicate (grownCap w (ByteArray.mk l.toArray).size 0 e-l.length) (.int .u8 0)⟩:=by
  apply Array.ext'
  simp [bytesRow,hz]
 rw [hb] at hrun
 generalize grownCap w (ByteArray.mk l.toArray).size 0 e=cap at*
 rw [hz] at hge hrun
 have hD:=Lj (s:=s) (w:=w) [] V hf (vals:=l.map fun b=>Value.int .u8 b.toNat) (rest:=List.replicate (cap-l.length) (.int .u8 0)) (sz:=1) (n:=l.length) (cap:=cap)
  (fun v hv=>by obtain ⟨b,_,rfl⟩:=List.mem_map.1 hv;rfl) (by simp) (by simp;omega) hge Il e (((l.map fun b=>Value.int .u8 b.toNat)++List.replicate (cap-l.length) (Value.int .u8 0)).length,((l.map fun b=>Value.int .u8 b.toNat)++List.replicate (cap-l.length) (Value.int .u8 0)).length+1) (Nat.le_refl _) s.H (fun i=> .inr rfl)
 unfold Oper.wp
 have Nw:(execOp a.eval o).run P w= .ok (.value (.slice (some ⟨w.heap.size,0,none⟩) l.length cap)) (w.drew.alloc (.cells ⟨(l.map fun b=>Value.int .u8 b.toNat)++List.replicate (cap-l.length) (.int .u8 0)⟩ e (((l.map fun b=>Value.int .u8 b.toNat)++List.replicate (cap-l.length) (Value.int .u8 0)).length,((l.map fun b=>Value.int .u8 b.toNat)++List.replicate (cap-l.length) (Value.int .u8 0)).length+1))):=by
  obtain ⟨dst,op',type,pos,after,guard⟩:=o
  simp only at ho
  subst ho
  simp only [execOp,h1,Sem.run_bind,hrun,Result.andThen_ok]
  rfl
 rw [Nw,Oper.upon_value]
 refine hK _ _ _ _ hD ?_
 simp only [aN]
 refine .inl ⟨w.heap.size,cap,by simp,by simp,by simpa using hge,?_⟩
 refine kq (vs:=l.map fun b=>Value.int .u8 b.toNat) ?_ (fun j v hj=>by simp [Mem.with,hj])
 have:∀ bs:List UInt8,cr (m.with w.heap.size (l.map fun b=>Value.int .u8 b.toNat)) ((bs.map U).flatMap D.cells) (bs.map fun b=> .int .u8 b.toNat):=by
  intro bs
  induction bs with
  | nil=>simp [cr]
  | cons b r ih=>simp only [List.map_cons,List.flatMap_cons,U,Gf,List.singleton_append,cr,bg];exact ⟨_,_,rfl,rfl,by simpa [U] using ih⟩
 exact this l
theorem XK.T8 {Q:PX→St→Prop} {t u e:TypeId} {x:Operand} {l:List UInt8} (hg:o.guard=none) (ho:o.op= .convert t u x) (hs:P.underlying t=some .string) (hd:P.underlying u=some (.slice e)) (he:P.underlying e=some (.int .u8))
  (hx:aB s.S x= .d (.val (.string ⟨l.toArray⟩))) (hl:l.length≤maxLen) (h:XK P ops r ⟨fk s.S o.dst (.own s.nx (l.map U)),cG s.H s.nx (some (.spare 1 l.length)),s.nx+1,s.df⟩ Q):XK P ops (o::r) s Q:=by
 intro hn
 have Wm:=Lk (P:=P) ho hs hd he hx hn hl
 exact .step (R:=⟨[],[],s.nx,s.nx+1⟩) (.run hg Wm) (h Wm.nil)
theorem Ll (k:Nat):IntKind.u8.wrap (k:Int)=((UInt8.ofNat k).toNat:Int):=by
 rw [IntKind.wrap_u8,UInt8.toNat_ofNat']
 omega
attribute [go_sem] Option.isSome_some Option.isSome_none Int.sub_zero
end Go.Proofs.YtlfjfoknbjcncaaGreat.K
namespace Go.Proofs.YtlfjfoknbjcncaaGreat.K
open Go Go.RowKit
variable {P:Program} {N:Nat} {ops:Array Oper} {o:Oper} {r:List Oper} {s:St}
theorem Lm {t e:TypeId} {w:World} (hu:P.underlying t=some (.slice e)) (a:Option Addr) (n c:Nat):(Op.equal t (.slice a n c) (.slice none 0 0)).run P w= .ok a.isNone w:=by
 have:∀ k,(Op.equalIn (k+1) t (.slice a n c) (.slice none 0 0)).run P w= .ok a.isNone w:=fun k=>by cases a<;>simp [Op.equalIn,run_underlying hu]
 exact this 9999
theorem Ke {t e u:TypeId} {x:Operand} {op:BinOp} (ho:o.op= .binOp op t x (.const (.slice none 0 0)) u) (hop:op= .eql∨op= .neq) (hu:P.underlying t=some (.slice e)) {l:List D} (hx:aB s.S x= .d (.slice l)):
  DW P o s fun out H' cO=>∃ b:Bool,(l≠[]→b=false)∧out= .ret (.d (.val (.bool (oh op b))))∧H'=s.H∧cO=s.nx:=by
 intro m ρ a w K Q V hn hρ hxs h1 _
 have h2:=hxs x (by simp [ho,Op.operands])
 rw [hx] at h2
 simp only [aN,bg] at h2
 obtain ⟨ad,c,ev,_,hl⟩:=h2
 have hb:l≠[]→ad.isNone=false:=by
  intro hne
  rcases hl with rfl | ⟨b,o',rfl,_⟩
  ·exact absurd rfl hne
  ·rfl
 have Nw:(execOp a.eval o).run P w= .ok (.value (.bool (oh op ad.isNone))) w:=by
  obtain ⟨dst,op',type,pos,after,guard⟩:=o
  simp only at ho
  subst ho
  have hc:a.eval (.const (.slice none 0 0))= .slice none 0 0:=rfl
  rcases hop with rfl | rfl<;>simp [execOp,ev,hc,eqGuard,binOp,Lm hu,oh]
 unfold Oper.wp
 rw [Nw,Oper.upon_value]
 exact h1 _ s.H s.nx m ρ w _ ⟨_,hb,rfl,rfl,rfl⟩ V hn hρ (nN.refl _ _ _ _ _) (by simp [aN,bg])
theorem XK.RN {Q:PX→St→Prop} {t e u:TypeId} {x:Operand} {op:BinOp} {l:List D} (hg:o.guard=none) (ho:o.op= .binOp op t x (.const (.slice none 0 0)) u) (hop:op= .eql∨op= .neq) (hu:P.underlying t=some (.slice e)) (hx:aB s.S x= .d (.slice l))
  (h:∀ b:Bool,(l≠[]→b=false)→XK P ops r ⟨fk s.S o.dst (.d (.val (.bool (oh op b)))),s.H,s.nx,s.df⟩ Q):XK P ops (o::r) s Q:=by
 intro hn
 refine .call hg (Ke ho hop hu hx) ?_ ?_
 ·rintro p H' cO ⟨b,hb,e,rfl,rfl⟩ hn'
  cases e
  exact h b hb hn
 ·rintro p H' cO ⟨b,_,e,_⟩
  cases e
end Go.Proofs.YtlfjfoknbjcncaaGreat.K
namespace Go.Proofs.YtlfjfoknbjcncaaGreat.K
open Go Go.RowKit
variable {P:Program} {N:Nat} {ops:Array Oper} {o:Oper} {r:List Oper} {s:St}
def WT (nx sz:Nat) (l:List D):Out→HM→Nat→Prop:=fun out H' cO=>∃ j,nx≤j∧j<cO∧out= .ret (.own j l)∧H'=fun i=>if i=j then some (.spare sz l.length) else none
def Yv (P:Program) (f:Nat) (ds:List D) (sz:Nat) (l:List D):Prop:=∀ nx,Spec P f (ds.map .d) (fun _=>none) nx (WT nx sz l)
theorem WU {c:Call} {f sz:Nat} {ds l:List D} (ho:o.op= .call c) (hc:c.callee= .value (.func f)) (he:aP P f=true) (hd:PV.ej (c.args.toList.map (aB s.S))=some ds) (hF:Yv P f ds sz l) (hn:∀ i,s.nx≤i→s.H i=none):
  m9 P o s (.own s.nx l) (cG s.H s.nx (some (.spare sz l.length))) (s.nx+1) [] []:=by
 refine ⟨by omega,fun i _ hi=>?_,fun i hi=>?_,by simp,by simp,?_⟩
 ·have:i≠s.nx:=by omega
  simp [cG,this]
 ·have:i≠s.nx:=by omega
  simp [cG,this,hn i (by omega)]
 intro m ρ a w K Q V hf hx hK
 have hx':∀ x∈c.args.toList,aN m ρ (aB s.S x) (a.eval x):=fun x hx'=>hx x (by simp only [ho,Op.operands,Call.operands];simp only [Array.mem_append];exact .inr (by simpa using hx'))
 unfold Oper.wp
 rw [rK ho hc he,Oper.upon_enter]
 have hr:=wN hx' hd
 have:=hF s.nx m (fun _=>none) w _ ⟨V.mem,fun i o _ h=>(by cases h),fun i j b c c' _ _ h _ _ _=>absurd rfl h⟩ (fun _ _=>rfl) (fun _ _=>rfl) (Kc hr)
 have e:(⟨c.args.toList.map a.eval⟩:Array Value)=c.args.map a.eval:=by apply Array.ext';simp
 rw [e] at this
 refine this.mono ?_
 rintro e w' ⟨out,H',cO,m',ρ',⟨j,Yw,hj2,rfl,rfl⟩,V',hn',hr',hA,Ip⟩
 obtain ⟨v,rfl,hv⟩:=Ip
 have Yx:ρ s.nx=none:=hf _ (Nat.le_refl _) (by omega)
 refine hK v m' (fun i=>if i=s.nx then ρ' j else ρ i) w' ⟨hA.ext.mono (by rintro b ⟨i,c,_,h,_⟩;exact absurd rfl h),fun i x e=>?_,fun i=>?_,⟨V'.mem,fun i o hi hH=>?_,fun i k b c1 c2 hi hk _ _ _ _=>?_⟩,?_⟩ ?_
 ·have:i≠s.nx:=by intro h;subst h;rw [Yx] at e;cases e
  simp [this,e]
 ·by_cases h:i=s.nx
  ·exact .inr ⟨by omega,by omega⟩
  ·simp [h]
 ·have h:i=s.nx:=hi.elim (fun h=>by cases h) (by omega)
  subst h
  simp only [cG,if_true,Option.some.injEq] at hH
  subst hH
  have hE:=V'.entry j (.spare sz l.length) trivial (by simp)
  rcases hE with ⟨e1,e2⟩ | ⟨b,c1,vs,t,fr,e1,e2⟩
  ·exact .inl ⟨e1,by simp [e2]⟩
  ·exact .inr ⟨b,c1,vs,t,fr,by simp [e1],e2⟩
 ·have h1:i=s.nx:=hi.elim (fun h=>by cases h) (by omega)
  have h2:k=s.nx:=hk.elim (fun h=>by cases h) (by omega)
  rw [h1,h2]
 ·rintro b ⟨i,c1,hi,hl,fY⟩
  have h1:i=s.nx:=hi.elim (fun h=>by cases h) (by omega)
  subst h1
  simp only [if_true] at fY
  rcases hA.place b ⟨j,c1,trivial,by simp,fY⟩ with ⟨_,_,_,h,_⟩ | h
  ·exact absurd rfl h
  ·exact .inr h
 ·simp only [aN] at hv ⊢
  rcases hv with ⟨b,c1,e1,e2⟩ | h
  ·exact .inl ⟨b,c1,by simp [e1],e2⟩
  ·exact .inr h
attribute [go_sem] List.getElem?_cons_zero List.getElem?_cons_succ Int.toNat_sub
end Go.Proofs.YtlfjfoknbjcncaaGreat.K
namespace Go.Proofs.YtlfjfoknbjcncaaGreat.K
open Go Go.RowKit
variable {P:Program} {N:Nat}
structure zA (b:Nat) (m0:Mem) (kN:di) (w0:World) (H0:HM) (n:Nat) (m:Mem) (ρ:di) (w:World) (H:HM):Prop where
 ext:Ext (xw kN H0 fun _=>True) m0 w0 m w
 place:∀ c,xw ρ H (fun _=>True) c→xw kN H0 (fun _=>True) c∨w0.heap.size≤c
 le:b≤n
 old:∀ i,i<b→ρ i=kN i
theorem nN.T9 {b n0 n:Nat} {m0 m:Mem} {kN ρ:di} {w0 w:World} {H0 H:HM} (h:nN n0 m0 kN w0 H0 n m ρ w H) (hb:b≤n0):zA b m0 kN w0 H0 n m ρ w H:=
 ⟨h.ext,h.place,Nat.le_trans hb h.le,fun i hi=>h.old i (Nat.lt_of_lt_of_le hi hb)⟩
theorem zA.trans {b n1 n2:Nat} {m0 m1 m2:Mem} {kN Fh kO:di} {w0 w1 w2:World} {H0 H1 H2:HM} (h:zA b m0 kN w0 H0 n1 m1 Fh w1 H1) (k:zA b m1 Fh w1 H1 n2 m2 kO w2 H2):
  zA b m0 kN w0 H0 n2 m2 kO w2 H2:=
 ⟨h.ext.trans k.ext h.place,fun c hc=>(k.place c hc).elim (h.place c) (fun x=> .inr (Nat.le_trans h.ext.size x)),k.le,fun i hi=>(k.old i hi).trans (h.old i hi)⟩
def Kf (N b:Nat) (m0:Mem) (kN:di) (w0:World) (H0:HM) (Q:PX→St→Prop) (e:Exit) (a:Act) (w:World):Prop:=
 ∃ px s m ρ,Q px s∧RX m ρ px e∧Inv N s m ρ a w∧zA b m0 kN w0 H0 s.nx m ρ w s.H
def QW (P:Program) (N b:Nat) (c:Code) (s:St) (Q:PX→St→Prop):Prop:=
 b≤s.nx∧∀ m ρ a w,Inv N s m ρ a w→c.wp P (Kf N b m ρ w s.H Q) a w
theorem Kf.Kg {b n1:Nat} {m0 m1:Mem} {kN Fh:di} {w0 w1:World} {H0 H1:HM} {Q:PX→St→Prop} {e:Exit} {a:Act} {w:World} (hA:zA b m0 kN w0 H0 n1 m1 Fh w1 H1)
  (h:Kf N b m1 Fh w1 H1 Q e a w):Kf N b m0 kN w0 H0 Q e a w:=by
 obtain ⟨px,s,m,ρ,h1,h2,h3,h4⟩:=h
 exact ⟨px,s,m,ρ,h1,h2,h3,hA.trans h4⟩
variable {b:Nat}
theorem QW.region {id:Nat} {ops:Array Oper} {g:Bool} {s:St} {Q:PX→St→Prop} (hb:b≤s.nx) (h:PW P N (.region id ops g) s Q):QW P N b (.region id ops g) s Q:=by
 refine ⟨hb,fun m ρ a w hI=>wp_mono (h m ρ a w hI) ?_⟩
 rintro e a' w' ⟨px,s',m',ρ',h1,h2,h3,h4⟩
 exact ⟨px,s',m',ρ',h1,h2,h3,h4.T9 hb⟩
theorem QW.seq {x y:Code} {s:St} {Q:PX→St→Prop} (h:QW P N b x s (PX.then (fun s'=>QW P N b y s' Q) Q)):QW P N b (.seq x y) s Q:=by
 refine ⟨h.1,fun m ρ a w hI=>?_⟩
 refine wp_seq (wp_mono (h.2 m ρ a w hI) ?_)
 rintro e a' w' ⟨px,s',m',ρ',hq,hr,mq,hA⟩
 cases px with
 | normal=>
  simp only [RX] at hr
  subst hr
  exact wp_mono (hq.2 m' ρ' a' w' mq) fun _ _ _ hp=>hp.Kg hA
 | exit i=>simp only [RX] at hr;subst hr;exact ⟨.exit i,s',m',ρ',hq,rfl,mq,hA⟩
 | ret=>simp only [RX] at hr;subst hr;exact ⟨.ret,s',m',ρ',hq,rfl,mq,hA⟩
 | panic p=>obtain ⟨v,rfl,hv⟩:=hr;exact ⟨.panic p,s',m',ρ',hq,⟨v,rfl,hv⟩,mq,hA⟩
theorem QW.skip {s:St} {Q:PX→St→Prop} (hb:b≤s.nx) (h:Q .normal s):QW P N b .skip s Q:=
 ⟨hb,fun m ρ _ _ hI=>wp_skip ⟨.normal,s,m,ρ,h,rfl,hI,(nN.refl _ _ _ _ _).T9 hb⟩⟩
theorem QW.exit {id:Nat} {s:St} {Q:PX→St→Prop} (hb:b≤s.nx) (h:Q (.exit id) s):QW P N b (.exit id) s Q:=
 ⟨hb,fun m ρ _ _ hI=>wp_exit ⟨.exit id,s,m,ρ,h,rfl,hI,(nN.refl _ _ _ _ _).T9 hb⟩⟩
theorem QW.ret {s:St} {Q:PX→St→Prop} (hb:b≤s.nx) (h:Q .ret s):QW P N b .ret s Q:=
 ⟨hb,fun m ρ _ _ hI=>wp_ret ⟨.ret,s,m,ρ,h,rfl,hI,(nN.refl _ _ _ _ _).T9 hb⟩⟩
theorem QW.cond {c:Operand} {x y:Code} {s:St} {Q:PX→St→Prop} {t:Bool} (hc:aB s.S c= .d (.val (.bool t))) (hb:b≤s.nx) (h1:t=true→QW P N b x s Q) (h2:t=false→QW P N b y s Q):
  QW P N b (.cond c x y) s Q:=by
 refine ⟨hb,fun m ρ a w hI=>?_⟩
 have hr:=DV hI.slots c
 rw [hc] at hr
 simp only [aN,bg] at hr
 exact wp_cond_split hr (fun hb=>(h1 hb).2 m ρ a w hI) (fun hb=>(h2 hb).2 m ρ a w hI)
theorem QW.Gj {c:Operand} {x y:Code} {s:St} {Q:PX→St→Prop} (hc:aB s.S c= .d (.val (.bool true))) (h1:QW P N b x s Q):QW P N b (.cond c x y) s Q:=
 QW.cond hc h1.1 (fun _=>h1) (fun h=>nomatch h)
theorem QW.Nx {c:Operand} {x y:Code} {s:St} {Q:PX→St→Prop} (hc:aB s.S c= .d (.val (.bool false))) (h1:QW P N b y s Q):QW P N b (.cond c x y) s Q:=
 QW.cond hc h1.1 (fun h=>nomatch h) (fun _=>h1)
theorem QW.block {id:Nat} {c:Code} {s:St} {Q:PX→St→Prop} (h:QW P N b c s (PX.inBlock id Q)):QW P N b (.block id c) s Q:=by
 refine ⟨h.1,fun m ρ a w hI=>?_⟩
 refine wp_block (wp_mono (h.2 m ρ a w hI) ?_)
 rintro e a' w' ⟨px,s',m',ρ',hq,hr,mq,hA⟩
 cases px with
 | normal=>simp only [RX] at hr;subst hr;exact ⟨.normal,s',m',ρ',hq,rfl,mq,hA⟩
 | exit i=>
  simp only [RX] at hr;subst hr
  simp only [PX.inBlock] at hq
  simp only [Exit.inBlock]
  split
  ·rename_i he
   rw [if_pos he] at hq
   exact ⟨.normal,s',m',ρ',hq,rfl,mq,hA⟩
  ·rename_i he
   rw [if_neg he] at hq
   exact ⟨.exit i,s',m',ρ',hq,rfl,mq,hA⟩
 | ret=>simp only [RX] at hr;subst hr;exact ⟨.ret,s',m',ρ',hq,rfl,mq,hA⟩
 | panic p=>obtain ⟨v,rfl,hv⟩:=hr;exact ⟨.panic p,s',m',ρ',hq,⟨v,rfl,hv⟩,mq,hA⟩
def View (N b:Nat) (s s':St):Prop:=
 ∀ m ρ a w,Inv N s m ρ a w→∃ m' ρ',Inv N s' m' ρ' a w∧zA b m ρ w s.H s'.nx m' ρ' w s'.H
theorem View.of {s s':St} (hb:b≤s'.nx) (h:∀ m ρ a w,Inv N s m ρ a w→∃ ρ',Inv N s' m ρ' a w∧(∀ c,xw ρ' s'.H (fun _=>True) c→xw ρ s.H (fun _=>True) c)∧∀ i,i<b→ρ' i=ρ i):View N b s s':=by
 intro m ρ a w hI
 obtain ⟨ρ',mq,hB,ho⟩:=h m ρ a w hI
 exact ⟨m,ρ',mq,⟨Ext.refl _ _ _,fun c hc=> .inl (hB c hc),hb,ho⟩⟩
theorem QW.view {c:Code} {s s':St} {Q:PX→St→Prop} (hv:View N b s s') (hb:b≤s.nx) (h:QW P N b c s' Q):QW P N b c s Q:=by
 refine ⟨hb,fun m ρ a w hI=>?_⟩
 obtain ⟨m',ρ',mq,hA⟩:=hv m ρ a w hI
 exact wp_mono (h.2 m' ρ' a w mq) fun _ _ _ hp=>hp.Kg hA
theorem View.refl {s:St} (h:b≤s.nx):View N b s s:=View.of h fun _ ρ _ _ hI=>⟨ρ,hI,fun _ h=>h,fun _ _=>rfl⟩
theorem QW.loop {c:Code} {s:St} {Q:PX→St→Prop} (I:Nat→St→Prop) (k:Nat) (hb:b≤s.nx) (h0:∃ s0,View N b s s0∧I k s0) (round:∀ k s,I k s→QW P N b c s (PX.then (fun s'=>∃ j,j<k∧∃ s'',View N b s' s''∧I j s'') Q)):QW P N b (.loop c) s Q:=by
 refine ⟨hb,fun m ρ a w hI=>?_⟩
 let R:Act→World→Nat→Prop:=fun a' w' k=>∃ s' m' ρ',I k s'∧Inv N s' m' ρ' a' w'∧zA b m ρ w s.H s'.nx m' ρ' w' s'.H
 have hex:R a w k:=by
  obtain ⟨s0,hv,hi⟩:=h0
  obtain ⟨m',ρ',mq,hA⟩:=hv m ρ a w hI
  exact ⟨s0,m',ρ',hi,mq,hA⟩
 open Classical in
 refine wp_loop (fun a' w'=>∃ k,R a' w' k) (fun a' w'=>if h:∃ k,R a' w' k∧∀ j,R a' w' j→k≤j then Classical.choose h else 0) ⟨_,hex⟩ ?_
 intro a1 w1 h1
 obtain ⟨k1,CV⟩:=h1
 have h1:=least k1 CV
 have RO:=Classical.choose_spec h1
 generalize hk:Classical.choose h1=kk at RO
 obtain ⟨⟨s1,m1,Fh,i1,v1,A1⟩,hmin⟩:=RO
 refine wp_mono ((round kk s1 i1).2 m1 Fh a1 w1 v1) ?_
 rintro e a' w' ⟨px,s',m',ρ',hq,hr,mq,hA⟩
 cases px with
 | normal=>
  simp only [RX] at hr;subst hr
  obtain ⟨j,hlt,s'',hv,hi⟩:=hq
  obtain ⟨m2,kO,zO,D2⟩:=hv m' ρ' a' w' mq
  have RC:R a' w' j:=⟨s'',m2,kO,hi,zO,(A1.trans hA).trans D2⟩
  have h2:=least _ RC
  refine ⟨⟨_,RC⟩,?_⟩
  simp only [dif_pos h1,dif_pos h2,hk]
  have:=(Classical.choose_spec h2).2 _ RC
  omega
 | exit i=>simp only [RX] at hr;subst hr;exact ⟨.exit i,s',m',ρ',hq,rfl,mq,A1.trans hA⟩
 | ret=>simp only [RX] at hr;subst hr;exact ⟨.ret,s',m',ρ',hq,rfl,mq,A1.trans hA⟩
 | panic p=>obtain ⟨v,rfl,hv⟩:=hr;exact ⟨.panic p,s',m',ρ',hq,⟨v,rfl,hv⟩,mq,A1.trans hA⟩
mutual
def PV.re (f:Nat→Nat):PV→PV
 | .d x=> .d x
 | .full l=> .full l
 | .own id l=> .own (f id) l
 | .aF id off=> .aF (f id) off
 | .gD id off n=> .gD (f id) off n
 | .room id n=> .room (f id) n
 | .gT g l=> .gT g (PV.res f l)
 | .agg l=> .agg (PV.res f l)
 | .tuple l=> .tuple (PV.res f l)
 | .cond g p=> .cond g (PV.re f p)
 | .dO=> .dO
def PV.res (f:Nat→Nat):List PV→List PV
 | []=>[]
 | x::r=>PV.re f x::PV.res f r
end
theorem PV.bK (f:Nat→Nat):∀ l:List D,PV.res f (l.map .d)=l.map .d
 | []=>rfl
 | x::r=>by simp only [List.map_cons,PV.res,PV.re,PV.bK f r]
mutual
theorem aN.re {m:Mem} {ρ:di} {f:Nat→Nat}:∀ (p:PV) (v:Value),aN m ρ (p.re f) v→aN m (fun i=>ρ (f i)) p v
 | .d x,v,e=>by simpa [PV.re,aN] using e
 | .full l,v,e=>by simpa [PV.re,aN] using e
 | .own id l,v,e=>by simpa [PV.re,aN] using e
 | .aF id off,v,e=>by simpa [PV.re,aN] using e
 | .gD id off n,v,e=>by simpa [PV.re,aN] using e
 | .room id n,v,e=>by simpa [PV.re,aN] using e
 | .gT g l,v,e=>by
  simp only [PV.re,aN] at e ⊢
  obtain ⟨vs,e1,e2⟩:=e
  exact ⟨vs,e1,bN.re l vs e2⟩
 | .agg l,v,e=>by
  simp only [PV.re,aN] at e ⊢
  obtain ⟨vs,e1,e2,e3⟩:=e
  exact ⟨vs,e1,bN.re l vs e2,e3⟩
 | .tuple l,v,e=>by
  simp only [PV.re,aN] at e ⊢
  obtain ⟨vs,e1,e2⟩:=e
  exact ⟨vs,e1,bN.re l vs e2⟩
 | .cond g p,v,e=>by
  simp only [PV.re,aN] at e ⊢
  exact ⟨fun h=>aN.re p v (e.1 h),e.2⟩
 | .dO,v,e=>by simp [aN]
theorem bN.re {m:Mem} {ρ:di} {f:Nat→Nat}:∀ (l:List PV) (vs:List Value),bN m ρ (PV.res f l) vs→bN m (fun i=>ρ (f i)) l vs
 | [],vs,e=>by simpa [PV.res,bN] using e
 | x::r,vs,e=>by
  simp only [PV.res,bN] at e ⊢
  obtain ⟨v,vr,e1,e2,e3⟩:=e
  exact ⟨v,vr,e1,aN.re x v e2,bN.re r vr e3⟩
end
def HO.re (f:Nat→Nat):HO→HO
 | .var l=> .var (PV.res f l)
 | .spare sz n=> .spare sz n
 | .dead=> .dead
 | .BV sz l=> .BV sz (PV.res f l)
def RP (f:Nat→Nat):List (Nat×List PV)→List (Nat×List PV)
 | []=>[]
 | x::r=>(x.1,PV.res f x.2)::RP f r
theorem wK.re {m:Mem} {ρ:di} {f:Nat→Nat}:∀ (l:List (Nat×List PV)) (ds:List Deferred),wK m ρ (RP f l) ds→wK m (fun i=>ρ (f i)) l ds
 | [],_,h=>h
 | x::r,_,h=>by
  obtain ⟨d,l',e1,e2,e3,e4⟩:=h
  exact ⟨d,l',e1,e2,bN.re _ _ e3,wK.re r l' e4⟩
def iH (p q:PV):Prop:=∀ m ρ v,aN m ρ p v→aN m ρ q v
theorem iH.refl {p:PV}:iH p p:=fun _ _ _ h=>h
theorem iH.dj {p:PV} {x:D} (h:p.dj=some x):iH p (.d x):=fun _ _ v e=>by
 simp only [aN];exact aN.dj p x v h e
def aG:List (Nat×PV)→Nat→PV
 | [],_=> .dO
 | x::r,t=>if t=x.1 then x.2 else aG r t
def lv:HO→Option HO
 | .var l=>some (.var l)
 | .spare a b=>some (.spare a b)
 | .dead=>none
 | .BV a l=>some (.BV a l)
theorem C6 {x o:HO} (h:lv x=some o):x=o:=by
 cases x<;>simp only [lv,Option.some.injEq,reduceCtorEq] at h<;>exact h
theorem WV {f:Nat→Nat} {x o:HO} (h:lv x=some o):lv (x.re f)=some (o.re f):=by
 have:=C6 h
 subst this
 cases x<;>first | rfl | simp [lv] at h
def aj:List HO→Nat→Option HO
 | [],_=>none
 | x::_,0=>lv x
 | _::r,i+1=>aj r i
def AtR (f:Nat→Nat) (S:Nat→PV):List (Nat×PV)→Prop
 | []=>True
 | x::r=>iH (S x.1) (x.2.re f)∧AtR f S r
def cv (f:Nat→Nat) (H:HM) (i:Nat):HO→Prop
 | .var l=>H (f i)=some (.var (PV.res f l))
 | .spare a b=>H (f i)=some (.spare a b)
 | .dead=>True
 | .BV a l=>H (f i)=some (.BV a (PV.res f l))
def RR (f:Nat→Nat) (H:HM):List HO→Nat→Prop
 | [],_=>True
 | x::r,i=>cv f H i x∧RR f H r (i+1)
def EP (f:Nat→Nat) (H:HM):List HO→Nat→Prop
 | [],_=>True
 | x::r,i=>H (f i)=some (x.re f)∧EP f H r (i+1)
theorem Pa {f:Nat→Nat} {S:Nat→PV} {m:Mem} {ρ:di} {t:Nat} {v:Value} (h:aN m ρ (S t) v):∀ (L:List (Nat×PV)),AtR f S L→aN m (fun i=>ρ (f i)) (aG L t) v
 | [],_=>by simp [aG,aN]
 | x::r,hL=>by
  unfold aG
  split
  ·rename_i e
   subst e
   exact aN.re _ _ (hL.1 _ _ _ h)
  ·exact Pa h r hL.2
theorem IT {f:Nat→Nat} {H:HM}:∀ (M:List HO) (k i:Nat) (o:HO),RR f H M k→aj M i=some o→i<M.length∧H (f (k+i))=some (o.re f)
 | [],_,_,_,_,h=>by simp [aj] at h
 | x::r,k,0,o,hM,h=>by
  simp only [aj] at h
  have e:=C6 h
  subst e
  refine ⟨by simp,?_⟩
  have h1:=hM.1
  cases x with
  | var l=>exact h1
  | spare a b=>exact h1
  | dead=>simp [lv] at h
  | BV a l=>exact h1
 | x::r,k,i+1,o,hM,h=>by
  have:=IT r (k+1) i o hM.2 h
  exact ⟨by simp;omega,by rw [show k+(i+1)=k+1+i by omega];exact this.2⟩
theorem Gk {f:Nat→Nat} {H:HM}:∀ (M:List HO) (k i:Nat) (o:HO),EP f H M k→aj M i=some o→i<M.length∧H (f (k+i))=some (o.re f)
 | [],_,_,_,_,h=>by simp [aj] at h
 | x::r,k,0,o,hM,h=>by
  simp only [aj] at h
  have e:=C6 h
  subst e
  exact ⟨by simp,hM.1⟩
 | x::r,k,i+1,o,hM,h=>by
  have:=Gk r (k+1) i o hM.2 h
  exact ⟨by simp;omega,by rw [show k+(i+1)=k+1+i by omega];exact this.2⟩
theorem IU {f:Nat→Nat} {H:HM}:∀ (M:List HO) (j k:Nat) (x:HO),EP f H M j→M[k]? =some x→H (f (j+k))=some (x.re f)
 | [],_,_,_,_,h=>by simp at h
 | y::r,j,0,x,h,e=>by simp only [List.getElem?_cons_zero,Option.some.injEq] at e;subst e;exact h.1
 | y::r,j,k+1,x,h,e=>by
  have:=IU r (j+1) k x h.2 (by simpa using e)
  rwa [show j+1+k=j+(k+1) by omega] at this
def kY (F:List Nat) (nx i:Nat):Nat:=F.getD i (nx+i)
theorem gU.re {m:Mem} {ρ ρ':di} {w:World} {i j:Nat} {f:Nat→Nat} {o:HO} (hr:ρ' i=ρ j) (hρ:∀ p v,aN m ρ (PV.re f p) v→aN m ρ' p v) (h:gU m ρ w j (o.re f)):gU m ρ' w i o:=by
 cases o with
 | var l=>
  simp only [HO.re,gU] at h ⊢
  rcases h with ⟨e0,e⟩ | ⟨b,c,vs,tail,t,e1,e2,e3,e4⟩
  ·exact .inl ⟨by cases l with | nil=>rfl | cons x r=>simp [PV.res] at e0,by rw [hr];exact e⟩
  refine .inr ⟨b,c,vs,tail,t,by rw [hr];exact e1,e2,?_,e4⟩
  have:∀ (l:List PV) (vs:List Value),bN m ρ (PV.res f l) vs→bN m ρ' l vs:=by
   intro l
   induction l with
   | nil=>intro vs h;simpa [PV.res,bN] using h
   | cons x r ih=>
    intro vs h
    simp only [PV.res,bN] at h ⊢
    obtain ⟨v,vr,e1,e2,e3⟩:=h
    exact ⟨v,vr,e1,hρ _ _ e2,ih _ e3⟩
  exact this l vs e3
 | spare sz n=>
  simp only [HO.re,gU] at h ⊢
  rw [hr]
  exact h
 | dead=>exact h.elim
 | BV sz l=>
  simp only [HO.re,gU] at h ⊢
  rcases h with ⟨e0,e⟩ | ⟨b,c,vs,tail,t,e1,e2,e3,e4⟩
  ·exact .inl ⟨by cases l with | nil=>rfl | cons x r=>simp [PV.res] at e0,by rw [hr];exact e⟩
  refine .inr ⟨b,c,vs,tail,t,by rw [hr];exact e1,e2,?_,e4⟩
  have:∀ (l:List PV) (vs:List Value),bN m ρ (PV.res f l) vs→bN m ρ' l vs:=by
   intro l
   induction l with
   | nil=>intro vs h;simpa [PV.res,bN] using h
   | cons x r ih=>
    intro vs h
    simp only [PV.res,bN] at h ⊢
    obtain ⟨v,vr,e1,e2,e3⟩:=h
    exact ⟨v,vr,e1,hρ _ _ e2,ih _ e3⟩
  exact this l vs e3
theorem View.mk {s:St} (n:Nat) (F:List Nat) (L:List (Nat×PV)) (M:List HO) (df:List (Nat×List PV)) (hn:M.length=n) (hF:F.length=M.length) (hd:F.Nodup) (hS:AtR (kY F s.nx) s.S L) (hH:RR (kY F s.nx) s.H M 0) (hdf:s.df=RP (kY F s.nx) df)
  (hb:b≤M.length) (Yy:F.take b=List.range b):View N b s ⟨aG L,aj M,n,df⟩:=by
 subst hn
 refine View.of hb fun m ρ a w hI=>?_
 have Gl:∀ i,M.length≤i→ρ (kY F s.nx i)=none:=by
  intro i hi
  have:kY F s.nx i=s.nx+i:=by
   unfold kY
   rw [List.getD_eq_getElem?_getD,List.getElem?_eq_none (by omega)];rfl
  rw [this]
  exact hI.n5 _ (Nat.le_add_right _ _)
 have Fo:∀ i,i<M.length→∃ x,F[i]? =some x∧kY F s.nx i=x:=by
  intro i hi
  refine ⟨F[i]'(by omega),List.getElem?_eq_getElem (by omega),?_⟩
  unfold kY
  rw [List.getD_eq_getElem?_getD,List.getElem?_eq_getElem (by omega)];rfl
 have D3:∀ i o,aj M i=some o→i<M.length∧s.H (kY F s.nx i)=some (o.re (kY F s.nx)):=by
  intro i o h
  have:=IT M 0 i o hH h
  rw [Nat.zero_add] at this
  exact this
 have hne:∀ i,aj M i≠none→i<M.length∧s.H (kY F s.nx i)≠none:=by
  intro i h
  cases hh:aj M i with
  | none=>exact absurd hh h
  | some o=>have:=D3 i o hh;exact ⟨this.1,by rw [this.2];simp⟩
 refine ⟨fun i=>ρ (kY F s.nx i),⟨hI.size,?_,?_,⟨hI.valid.mem,?_,?_⟩,?_,Gl⟩,?_,?_⟩
 ·have:=hI.defers
  rw [hdf] at this
  exact wK.re df _ this
 ·intro t
  exact Pa (hI.slots t) L hS
 ·intro i o _ ho
  have:=D3 i o ho
  exact gU.re rfl (fun p v h=>aN.re p v h) (hI.valid.entry _ _ trivial this.2)
 ·intro i j c d d' _ _ hi hj fY jR
  have h1:=hne i hi
  have h2:=hne j hj
  have:=hI.valid.apart _ _ _ _ _ trivial trivial h1.2 h2.2 fY jR
  obtain ⟨x,hx,ex⟩:=Fo i h1.1
  obtain ⟨y,hy,ey⟩:=Fo j h2.1
  rw [ex,ey] at this
  subst this
  have e1:=List.getElem?_eq_some_iff.1 hx
  have e2:=List.getElem?_eq_some_iff.1 hy
  obtain ⟨l1,e1⟩:=e1
  obtain ⟨l2,e2⟩:=e2
  exact (List.getElem_inj hd).1 (e1.trans e2.symm)
 ·intro i hi
  cases hh:aj M i with
  | none=>exact hh
  | some o=>have:=(D3 i o hh).1;have hi':M.length≤i:=hi;omega
 ·rintro c ⟨i,d,_,hl,hr⟩
  exact ⟨kY F s.nx i,d,trivial,(hne i hl).2,hr⟩
 ·intro i hi
  have h1:F[i]? =some i:=by
   have h2:(F.take b)[i]? =(List.range b)[i]? :=by rw [Yy]
   rw [List.getElem?_take,if_pos hi,List.getElem?_range hi] at h2
   exact h2
  show ρ (kY F s.nx i)=ρ i
  unfold kY
  rw [List.getD_eq_getElem?_getD,h1];rfl
theorem bI.aU {f:Nat} {fn:Func} {c:Code} {args:List D} {res:D} (hf:P.funcs[f]? =some fn) (hb:fn.body=some c) (hN:args.length≤fn.ntmps)
  (h:QW P fn.ntmps 0 c ⟨yL args,fun _=>none,0,[]⟩ (Ends P fn.results.toList fun p=>p.dj=some res)):bI P f args res:=by
 intro m w vs hm hr
 refine calls_of_wp hf hb (wp_mono (h.2 m _ _ w (IP hm hr hN)) ?_)
 rintro e a w' ⟨px,s,m',ρ',⟨hpx,hdf,hres,hp⟩,sB,hI,hA⟩
 obtain ⟨v,hv,iO⟩:=nP (P:=P) hI hres
 have hd:=hI.defers
 rw [hdf] at hd
 have hE:Ext (fun _=>False) m w m' w':=hA.ext.mono (by rintro b ⟨i,c,_,h,_⟩;exact absurd rfl h)
 have key:a.defers=[]∧∃ v,(results fn a.tmps).run P w'= .ok v w'∧∃ v_1 m',Ending.returned v= .returned v_1∧bg m' res v_1∧gb m' w'∧Ext (fun _=>False) m w m' w':=
  ⟨hd,v,hv,v,m',rfl,aN.dj _ _ _ hp iO,hI.valid.mem,hE⟩
 rcases hpx with rfl | rfl<;>simp only [RX] at sB<;>subst sB<;>exact key
theorem zA.Ny {n0 n:Nat} {m0 m:Mem} {kN ρ:di} {w0 w:World} {H0 H:HM} (h:zA n0 m0 kN w0 H0 n m ρ w H) (hρ:∀ i,n0≤i→kN i=none):nN n0 m0 kN w0 H0 n m ρ w H:=
 ⟨h.ext,fun i x e=>by
  rcases Nat.lt_or_ge i n0 with h1 | h1
  ·rw [h.old i h1,e]
  ·rw [hρ i h1] at e;exact absurd e (by simp),h.place,h.le,h.old⟩
end Go.Proofs.YtlfjfoknbjcncaaGreat.K
namespace Go.Proofs.YtlfjfoknbjcncaaGreat.K
open Go Go.RowKit
variable {P:Program} {N:Nat} {ops:Array Oper} {o:Oper} {r:List Oper} {s:St}
theorem m9.imp {o:Oper} {s:St} {v v':PV} {H':HM} {cO:Nat} {T W:List Nat} (h:m9 P o s v H' cO T W) (hi:iH v v'):m9 P o s v' H' cO T W:=
 ⟨h.le,h.keep,h.nil,h.sub,h.old,fun m ρ a w K Q V hf hx hK=>h.sem m ρ a w K Q V hf hx fun u m' ρ' w' hD hr=>hK u m' ρ' w' hD (hi _ _ _ hr)⟩
section
variable {S:Nat→PV} {H:HM} {nx:Nat} {df:List (Nat×List PV)}
theorem XK.st {Q:PX→St→Prop} (d:Option Nat) (hd:o.dst=d) (hg:o.guard=none) (h:aT P [] o ⟨S,H,nx,df⟩ fun v H' cO _ _=>XK P ops r ⟨fk S d v,H',cO,df⟩ Q):XK P ops (o::r) ⟨S,H,nx,df⟩ Q:=by subst hd;exact XK.step hg h
theorem RK.st {acc:List Rec} {K:St→List Rec→Prop} (d:Option Nat) (hd:o.dst=d) (hg:o.guard=none) (h:aT P [] o ⟨S,H,nx,df⟩ fun v H' cO T W=>RK P ops r ⟨fk S d v,H',cO,df⟩ (⟨T,W,nx,cO⟩::acc) K):RK P ops (o::r) ⟨S,H,nx,df⟩ acc K:=by subst hd;exact RK.step hg h
theorem RQ.st {Q:St→Prop} (d:Option Nat) (hd:o.dst=d) (hg:o.guard=none) (h:aT P [] o ⟨S,H,nx,df⟩ fun v H' cO _ W=>(W=[]∧cO=nx)∧RQ P ops r ⟨fk S d v,H',cO,df⟩ Q):RQ P ops (o::r) ⟨S,H,nx,df⟩ Q:=by subst hd;exact RQ.step hg h
theorem XK.as {Q:PX→St→Prop} (d:Option Nat) (hd:o.dst=d) (hg:o.guard=none) (h:aT P [] o ⟨S,H,nx,df⟩ fun v H' cO _ _=>∃ v',iH v v'∧XK P ops r ⟨fk S d v',H',cO,df⟩ Q):XK P ops (o::r) ⟨S,H,nx,df⟩ Q:=by
 intro hn
 subst hd
 obtain ⟨v,H',cO,T,W,h1,v',h2,h3⟩:=ld hn h
 exact .step (.run hg (h1.imp h2)) (h3 h1.nil)
theorem RK.as {acc:List Rec} {K:St→List Rec→Prop} (d:Option Nat) (hd:o.dst=d) (hg:o.guard=none) (h:aT P [] o ⟨S,H,nx,df⟩ fun v H' cO T W=>∃ v',iH v v'∧RK P ops r ⟨fk S d v',H',cO,df⟩ (⟨T,W,nx,cO⟩::acc) K):RK P ops (o::r) ⟨S,H,nx,df⟩ acc K:=by
 intro hn
 subst hd
 obtain ⟨v,H',cO,T,W,h1,v',h2,h3⟩:=ld hn h
 obtain ⟨s',L,h4,h5⟩:=h3 h1.nil
 exact ⟨s',_, .cons (.run hg (h1.imp h2)) h4,by simpa using h5⟩
theorem XK.fz {Q:PX→St→Prop} (d:Option Nat) (hd:o.dst=d) (hg:o.guard=none) (h:aT P d.toList o ⟨S,H,nx,df⟩ fun v H' cO _ _=>XK P ops r ⟨fk S d v,H',cO,df⟩ Q):XK P ops (o::r) ⟨S,H,nx,df⟩ Q:=by subst hd;exact XK.frozen hg h
end
section
variable {S:Nat→PV} {H:HM} {nx:Nat} {df:List (Nat×List PV)}
variable {eI:List Nat} {k:PV→HM→Nat→List Nat→List Nat→Prop}
theorem au {x:Operand} {v:PV} (ho:o.op= .move x) (hx:aB S x=v) (hk:k v H nx [] []):aT P eI o ⟨S,H,nx,df⟩ k:=by
 unfold aT;rw [ho];subst hx;exact ⟨trivial,hk⟩
theorem cq {x:Operand} {v:PV} (ho:o.op= .assign x) (hx:aB S x=v) (hk:k v H nx [] []):aT P eI o ⟨S,H,nx,df⟩ k:=by
 unfold aT;rw [ho];subst hx;exact ⟨trivial,hk⟩
theorem mD {x:Operand} {v:PV} (ho:o.op= .nilCheck x) (hx:aB S x=v) (hv:B6 v=true) (hk:k v H nx [] []):aT P eI o ⟨S,H,nx,df⟩ k:=by
 unfold aT;rw [ho];subst hx
 obtain ⟨h1,h2⟩:=Nf hv
 refine ⟨h2,?_⟩
 show k (AQ (aB S x)) H nx [] []
 rw [h1];exact hk
theorem dH {x:Operand} {z:Bool} {l:List D} (ho:o.op= .nilCheck x) (hx:aB S x= .d (.l7 z l)) (hz:z=false) (hk:k (.d (.cA l)) H nx [] []):aT P eI o ⟨S,H,nx,df⟩ k:=by
 unfold aT;rw [ho];simp only [jB,hx];exact ⟨hz,hk⟩
def bw (n:Int):Prop:= -9223372036854775808≤n∧n≤9223372036854775807
instance (n:Int):Decidable (bw n):=by unfold bw;exact inferInstance
theorem tM {n:Int} (h:bw n):IntKind.i64.wrap n=n:=wrap_i64 h
theorem gv {op:BinOp} {t u:TypeId} {x y:Operand} {p q v:PV} (ho:o.op= .binOp op t x y u) (hx:aB S x=p) (hy:aB S y=q) (hop:isEq op=false) (hv:(bin op p q).2) (he:(bin op p q).1=v) (hk:k v H nx [] []):aT P eI o ⟨S,H,nx,df⟩ k:=by
 unfold aT;rw [ho]
 subst hx hy he
 cases op<;>first | (exact absurd hop (by decide)) | exact ⟨hv,hk⟩
theorem bX {t u:TypeId} {x y:Operand} {a b:Int} (ho:o.op= .binOp .add t x y u) (hx:aB S x= .d (.val (.int .i64 a))) (hy:aB S y= .d (.val (.int .i64 b))) (h:bw (a+b)) (hk:k (.d (.val (.int .i64 (a+b)))) H nx [] []):aT P eI o ⟨S,H,nx,df⟩ k:=
 gv ho hx hy rfl rfl (by show PV.d (.val (.int .i64 (IntKind.i64.wrap (a+b))))=_;rw [tM h]) hk
theorem mE {t u:TypeId} {x y:Operand} {a b:Int} (ho:o.op= .binOp .sub t x y u) (hx:aB S x= .d (.val (.int .i64 a))) (hy:aB S y= .d (.val (.int .i64 b))) (h:bw (a-b)) (hk:k (.d (.val (.int .i64 (a-b)))) H nx [] []):aT P eI o ⟨S,H,nx,df⟩ k:=
 gv ho hx hy rfl rfl (by show PV.d (.val (.int .i64 (IntKind.i64.wrap (a-b))))=_;rw [tM h]) hk
theorem wT {t u:TypeId} {x y:Operand} {a b:Int} (ho:o.op= .binOp .mul t x y u) (hx:aB S x= .d (.val (.int .i64 a))) (hy:aB S y= .d (.val (.int .i64 b))) (h:bw (a*b)) (hk:k (.d (.val (.int .i64 (a*b)))) H nx [] []):aT P eI o ⟨S,H,nx,df⟩ k:=
 gv ho hx hy rfl rfl (by show PV.d (.val (.int .i64 (IntKind.i64.wrap (a*b))))=_;rw [tM h]) hk
theorem FH {t u:TypeId} {x y:Operand} {a b:Int} (ho:o.op= .binOp .quo t x y u) (hx:aB S x= .d (.val (.int .i64 a))) (hy:aB S y= .d (.val (.int .i64 b))) (h:b≠0∧bw (a.tdiv b)) (hk:k (.d (.val (.int .i64 (a.tdiv b)))) H nx [] []):aT P eI o ⟨S,H,nx,df⟩ k:=
 gv ho hx hy rfl ⟨rfl,h.1⟩ (by show PV.d (.val (.int .i64 (IntKind.i64.wrap (a.tdiv b))))=_;rw [tM h.2]) hk
theorem uT {t u:TypeId} {x y:Operand} {a b:Int} (ho:o.op= .binOp .rem t x y u) (hx:aB S x= .d (.val (.int .i64 a))) (hy:aB S y= .d (.val (.int .i64 b))) (h:b≠0) (hk:k (.d (.val (.int .i64 (a.tmod b)))) H nx [] []):aT P eI o ⟨S,H,nx,df⟩ k:=
 gv ho hx hy rfl ⟨rfl,h⟩ rfl hk
def Nz (a b:Int):Int:=IntKind.i64.wrap (BitVec.ofInt 64 a||| BitVec.ofInt 64 b).toNat
theorem WW {t u:TypeId} {x y:Operand} {a b:Int} (ho:o.op= .binOp .or t x y u) (hx:aB S x= .d (.val (.int .i64 a))) (hy:aB S y= .d (.val (.int .i64 b))) (hk:k (.d (.val (.int .i64 (Nz a b)))) H nx [] []):aT P eI o ⟨S,H,nx,df⟩ k:=
 gv ho hx hy rfl rfl rfl hk
def wU (a b:Int):Int:=a*2 ^ (min b.toNat 64)
def Gm (a b:Int):Int:=a.fdiv (2 ^ (min b.toNat 64))
theorem Ua {t u:TypeId} {x y:Operand} {a b:Int} {k':IntKind} (ho:o.op= .binOp .shl t x y u) (hx:aB S x= .d (.val (.int .i64 a))) (hy:aB S y= .d (.val (.int k' b))) (h:0≤b∧bw (wU a b)) (hk:k (.d (.val (.int .i64 (wU a b)))) H nx [] []):aT P eI o ⟨S,H,nx,df⟩ k:=
 gv ho hx hy rfl h.1 (by show PV.d (.val (.int .i64 (IntKind.i64.wrap (wU a b))))=_;rw [tM h.2]) hk
theorem Ub {t u:TypeId} {x y:Operand} {a b:Int} {k':IntKind} (ho:o.op= .binOp .shr t x y u) (hx:aB S x= .d (.val (.int .i64 a))) (hy:aB S y= .d (.val (.int k' b))) (h:0≤b) (hk:k (.d (.val (.int .i64 (Gm a b)))) H nx [] []):aT P eI o ⟨S,H,nx,df⟩ k:=
 gv ho hx hy rfl h rfl hk
theorem cJ {t u:TypeId} {x y:Operand} {a b:Int} {kd:IntKind} (ho:o.op= .binOp .lss t x y u) (hx:aB S x= .d (.val (.int kd a))) (hy:aB S y= .d (.val (.int kd b))) (hk:k (.d (.val (.bool (decide (a<b))))) H nx [] []):aT P eI o ⟨S,H,nx,df⟩ k:=
 gv ho hx hy rfl rfl rfl hk
theorem yN {t u:TypeId} {x y:Operand} {a b:Int} {kd:IntKind} (ho:o.op= .binOp .leq t x y u) (hx:aB S x= .d (.val (.int kd a))) (hy:aB S y= .d (.val (.int kd b))) (hk:k (.d (.val (.bool (decide (a≤b))))) H nx [] []):aT P eI o ⟨S,H,nx,df⟩ k:=
 gv ho hx hy rfl rfl rfl hk
theorem nQ {t u:TypeId} {x y:Operand} {a b:Int} {kd:IntKind} (ho:o.op= .binOp .gtr t x y u) (hx:aB S x= .d (.val (.int kd a))) (hy:aB S y= .d (.val (.int kd b))) (hk:k (.d (.val (.bool (decide (b<a))))) H nx [] []):aT P eI o ⟨S,H,nx,df⟩ k:=
 gv ho hx hy rfl rfl rfl hk
theorem uU {t u:TypeId} {x y:Operand} {a b:Int} {kd:IntKind} (ho:o.op= .binOp .geq t x y u) (hx:aB S x= .d (.val (.int kd a))) (hy:aB S y= .d (.val (.int kd b))) (hk:k (.d (.val (.bool (decide (b≤a))))) H nx [] []):aT P eI o ⟨S,H,nx,df⟩ k:=
 gv ho hx hy rfl rfl rfl hk
theorem IV {t:TypeId} {kd Bq:IntKind} {a b:Int}:zy P t (.d (.val (.int kd a))) (.d (.val (.int Bq b)))=none:=by
 unfold zy;split<;>simp_all
theorem IW {t:TypeId} {a b:ByteArray}:zy P t (.d (.val (.string a))) (.d (.val (.string b)))=none:=by
 unfold zy;split<;>simp_all
theorem Pb {op:BinOp} {t u:TypeId} {x y:Operand} {a b:Int} {kd:IntKind} {c:Bool} (ho:o.op= .binOp op t x y u) (hx:aB S x= .d (.val (.int kd a))) (hy:aB S y= .d (.val (.int kd b))) (hop:(op= .eql∧c=decide (a=b))∨(op= .neq∧c= !decide (a=b)))
  (hk:k (.d (.val (.bool c))) H nx [] []):aT P eI o ⟨S,H,nx,df⟩ k:=by
 unfold aT;rw [ho]
 rcases hop with ⟨rfl,rfl⟩ | ⟨rfl,rfl⟩
 ·simp only [isEq,BF,hx,hy,Bool.and_false,Bool.false_eq_true,if_false,wO,IV]
  exact ⟨rfl,hk⟩
 ·simp only [isEq,BF,hx,hy,Bool.and_false,Bool.false_eq_true,if_false,wO,IV]
  exact ⟨rfl,hk⟩
theorem eF {t u:TypeId} {x y:Operand} {a b:Int} {kd:IntKind} (ho:o.op= .binOp .eql t x y u) (hx:aB S x= .d (.val (.int kd a))) (hy:aB S y= .d (.val (.int kd b))) (hk:k (.d (.val (.bool (decide (a=b))))) H nx [] []):aT P eI o ⟨S,H,nx,df⟩ k:=
 Pb ho hx hy (.inl ⟨rfl,rfl⟩) hk
theorem qA {t u:TypeId} {x y:Operand} {a b:Int} {kd:IntKind} (ho:o.op= .binOp .neq t x y u) (hx:aB S x= .d (.val (.int kd a))) (hy:aB S y= .d (.val (.int kd b))) (hk:k (.d (.val (.bool (!decide (a=b))))) H nx [] []):aT P eI o ⟨S,H,nx,df⟩ k:=
 Pb ho hx hy (.inr ⟨rfl,rfl⟩) hk
abbrev sV (l:List UInt8):Value:= .string ⟨l.toArray⟩
theorem nR {t u:TypeId} {x y:Operand} {a b:List UInt8} (ho:o.op= .binOp .eql t x y u) (hx:aB S x= .d (.val (sV a))) (hy:aB S y= .d (.val (sV b))) (hk:k (.d (.val (.bool (a==b)))) H nx [] []):aT P eI o ⟨S,H,nx,df⟩ k:=by
 unfold aT;rw [ho]
 simp only [isEq,BF,hx,hy,Bool.and_false,Bool.false_eq_true,if_false,wO,IW,bin,z5]
 exact ⟨trivial,hk⟩
theorem yO {t u:TypeId} {x y:Operand} {a b:List UInt8} (ho:o.op= .binOp .neq t x y u) (hx:aB S x= .d (.val (sV a))) (hy:aB S y= .d (.val (sV b))) (hk:k (.d (.val (.bool (!(a==b))))) H nx [] []):aT P eI o ⟨S,H,nx,df⟩ k:=by
 unfold aT;rw [ho]
 simp only [isEq,BF,hx,hy,Bool.and_false,Bool.false_eq_true,if_false,wO,IW,bin,z5]
 exact ⟨trivial,hk⟩
theorem lf {t u:TypeId} {x y:Operand} {a b:List UInt8} (ho:o.op= .binOp .add t x y u) (hx:aB S x= .d (.val (sV a))) (hy:aB S y= .d (.val (sV b))) (h:a.length+b.length≤9223372036854775807) (hk:k (.d (.val (sV (a++b)))) H nx [] []):aT P eI o ⟨S,H,nx,df⟩ k:=
 gv ho hx hy rfl (by show ((_+_:Nat):Int)≤IntKind.i64.max;rw [sY,sY,Li];omega) (by show PV.d (.val (.string _))=_;rw [EN]) hk
theorem ou {t:TypeId} {x:Operand} {a:Bool} (ho:o.op= .unOp .not t x) (hx:aB S x= .d (.val (.bool a))) (hk:k (.d (.val (.bool (!a)))) H nx [] []):aT P eI o ⟨S,H,nx,df⟩ k:=by
 unfold aT;rw [ho];simp only [jB,un,hx];exact ⟨trivial,hk⟩
theorem Uc {t:TypeId} {x:Operand} {a:Int} (ho:o.op= .unOp .neg t x) (hx:aB S x= .d (.val (.int .i64 a))) (h:bw (0-a)) (hk:k (.d (.val (.int .i64 (0-a)))) H nx [] []):aT P eI o ⟨S,H,nx,df⟩ k:=by
 unfold aT;rw [ho];simp only [jB,un,hx,tM h];exact ⟨trivial,hk⟩
theorem Gn {t u:TypeId} {x:Operand} {p v:PV} (ho:o.op= .convert t u x) (hx:aB S x=p) (h1:(um P t u p).2) (h2:(um P t u p).1=v) (hk:k v H nx [] []):aT P eI o ⟨S,H,nx,df⟩ k:=by
 unfold aT;rw [ho];subst hx h2;exact ⟨h1,hk⟩
theorem yP {t u:TypeId} {d:TypeDesc} {kd Bq:IntKind} {n:Int} (ht:P.underlying t=some d) (hu:P.underlying u=some (.int kd)):um P t u (.d (.val (.int Bq n)))=(.d (.val (.int kd (kd.wrap n))),True):=by
 unfold um;rw [ht,hu]
theorem AU {t u:TypeId} {x:Operand} {n:Int} {Bq:IntKind} {d:TypeDesc} (ho:o.op= .convert t u x) (ht:P.underlying t=some d) (hu:P.underlying u=some (.int .i64)) (hx:aB S x= .d (.val (.int Bq n))) (h:bw n) (hk:k (.d (.val (.int .i64 n))) H nx [] []):aT P eI o ⟨S,H,nx,df⟩ k:=
 Gn ho hx (by rw [yP ht hu];trivial) (by rw [yP ht hu,tM h]) hk
def gf (n:Int):UInt8:=UInt8.ofNat (n%256).toNat
theorem PZ (n:Int):IntKind.u8.wrap n=((gf n).toNat:Int):=by
 rw [IntKind.wrap_u8]
 unfold gf
 have h:(UInt8.ofNat (n%256).toNat).toNat=(n%256).toNat:=by
  rw [UInt8.toNat_ofNat'];omega
 rw [h];omega
theorem n6 {t u:TypeId} {x:Operand} {n:Int} {Bq:IntKind} {d:TypeDesc} (ho:o.op= .convert t u x) (ht:P.underlying t=some d) (hu:P.underlying u=some (.int .u8)) (hx:aB S x= .d (.val (.int Bq n))) (hk:k (.d (.val (.int .u8 ((gf n).toNat:Int)))) H nx [] []):aT P eI o ⟨S,H,nx,df⟩ k:=
 Gn ho hx (by rw [yP ht hu];trivial) (by rw [yP ht hu,PZ]) hk
theorem nS {t u e:TypeId} {x:Operand} {l:List UInt8} (ho:o.op= .convert t u x) (ht:P.underlying t=some (.slice e)) (he:P.underlying e=some (.int .u8)) (hu:P.underlying u=some .string) (hx:(aB S x).elems=some (l.map U)) (hk:k (.d (.val (sV l))) H nx [] []):aT P eI o ⟨S,H,nx,df⟩ k:=by
 refine Gn (p:=aB S x) ho rfl ?_ ?_ hk
 ·unfold um;rw [ht,hu];simp only [hx];exact ⟨he,C0 l⟩
 ·unfold um;rw [ht,hu];simp only [hx,CY]
theorem wV {c:Call} {b:Builtin} {v:PV} (ho:o.op= .call c) (hc:c.callee= .builtin b) (hb:b≠ .append) (h1:(js P S b c.args.toList c.argTypes.toList).2) (h2:(js P S b c.args.toList c.argTypes.toList).1=v) (hk:k v H nx [] []):aT P eI o ⟨S,H,nx,df⟩ k:=by
 unfold aT;rw [ho];simp only [hc];subst h2
 cases b<;>first | exact absurd rfl hb | exact ⟨h1,hk⟩
theorem gE {x:Operand} {t:TypeId} {l:List UInt8} (ho:o.op= .call {callee:= .builtin .len,args:= #[x],argTypes:= #[t]}) (ht:P.underlying t=some .string) (hx:aB S x= .d (.val (sV l))) (hk:k (.d (.val (.int .i64 (l.length:Int)))) H nx [] []):aT P eI o ⟨S,H,nx,df⟩ k:=
 wV ho rfl (by simp) (by show (z1 P t (aB S x)).2;unfold z1;rw [ht,hx];trivial) (by show (z1 P t (aB S x)).1=_;unfold z1;rw [ht,hx];simp [sY]) hk
theorem cM {x:Operand} {t e:TypeId} {α:Type} {en:α→D} {l:List α} (ho:o.op= .call {callee:= .builtin .len,args:= #[x],argTypes:= #[t]}) (ht:P.underlying t=some (.slice e)) (hx:(aB S x).elems=some (l.map en)) (hk:k (.d (.val (.int .i64 (l.length:Int)))) H nx [] []):aT P eI o ⟨S,H,nx,df⟩ k:=
 wV ho rfl (by simp) (by show (z1 P t (aB S x)).2;unfold z1;rw [ht];simp only [hx]) (by show (z1 P t (aB S x)).1=_;unfold z1;rw [ht];simp only [hx,List.length_map]) hk
def eY (a b:Int):Int:=if b<a then b else a
def gQ (a b:Int):Int:=if b>a then b else a
theorem FI {x y:Operand} {ts:Array TypeId} {a b:Int} {kd:IntKind} (ho:o.op= .call {callee:= .builtin .min,args:= #[x,y],argTypes:=ts}) (hx:aB S x= .d (.val (.int kd a))) (hy:aB S y= .d (.val (.int kd b))) (hk:k (.d (.val (.int kd (eY a b)))) H nx [] []):aT P eI o ⟨S,H,nx,df⟩ k:=
 wV ho rfl (by simp) (by show (js P S .min [x,y] _).2;simp only [js,hx,hy]) (by show (js P S .min [x,y] _).1=_;simp only [js,hx,hy,eY]) hk
theorem Pc {x y:Operand} {ts:Array TypeId} {a b:Int} {kd:IntKind} (ho:o.op= .call {callee:= .builtin .max,args:= #[x,y],argTypes:=ts}) (hx:aB S x= .d (.val (.int kd a))) (hy:aB S y= .d (.val (.int kd b))) (hk:k (.d (.val (.int kd (gQ a b)))) H nx [] []):aT P eI o ⟨S,H,nx,df⟩ k:=
 wV ho rfl (by simp) (by show (js P S .max [x,y] _).2;simp only [js,hx,hy]) (by show (js P S .max [x,y] _).1=_;simp only [js,hx,hy,gQ]) hk
def idx {α:Type} [Inhabited α] (l:List α) (i:Int):α:=l.getD i.toNat default
def sub {α:Type} (l:List α) (lo hi:Int):List α:=(l.drop lo.toNat).take (hi-lo).toNat
theorem getD_map {α:Type} [Inhabited α] {en:α→D} {l:List α} {i:Int} (h:0≤i∧i<(l.length:Int)):(l.map en).getD i.toNat default=en (idx l i):=by
 unfold idx
 have hi:i.toNat<l.length:=by omega
 rw [List.getD_eq_getElem?_getD,List.getD_eq_getElem?_getD,List.getElem?_map,List.getElem?_eq_getElem hi]
 rfl
structure sC {α:Type} (en:α→D) (c:α→List D) (n:Nat):Prop where
 cells:∀ x,(en x).cells=c x
 len:∀ x,(c x).length=n
theorem bx:sC U (fun b=>[U b]) 1:=⟨fun _=>rfl,fun _=>rfl⟩
def eS (l:List UInt8):D:= .val (sV l)
def eL {α:Type} (en:α→D) (l:List α):D:= .slice (l.map en)
theorem z7:sC eS (fun b=>[.val (sV b)]) 1:=⟨fun _=>rfl,fun _=>rfl⟩
theorem Gp {α:Type} {en:α→D}:sC (eL en) (fun l=>[.slice (l.map en)]) 1:=⟨fun _=>rfl,fun _=>rfl⟩
theorem sC.all {α:Type} {en:α→D} {c:α→List D} {n:Nat} (h:sC en c n) (l:List α):∀ x∈l.map en,x.cells.length=n:=by
 intro x hx
 obtain ⟨y,_,rfl⟩:=List.mem_map.1 hx
 rw [h.cells,h.len]
theorem bC {α:Type} [Inhabited α] {en:α→D} {c:α→List D} {n je:Nat} {ag:Bool} {t:TypeId} {x y:Operand} {l:List α} {i:Int} {kd:IntKind} (ho:o.op= .indexAddr t x y) (ht:mz P t=some (n,je,ag)) (hl:sC en c n) (hx:(aB S x).elems=some (l.map en)) (hy:aB S y= .d (.val (.int kd i)))
  (h:0≤i∧i<(l.length:Int)) (hk:k (.d (.cA (c (idx l i)))) H nx [] []):aT P eI o ⟨S,H,nx,df⟩ k:=by
 unfold aT;rw [ho]
 simp only [jB,nF,ht,hx,hy]
 refine ⟨⟨by simpa using h,hl.all l⟩,?_⟩
 rw [getD_map h,hl.cells]
 exact hk
theorem mF {n sz:Nat} {ag:Bool} {t:TypeId} {x y:Operand} {l:List D} {i:Int} {kd:IntKind} (ho:o.op= .indexAddr t x y) (hs:mz P t=none) (ht:mw P t=some (n,sz,ag)) (hx:aB S x= .d (.cA l)) (hy:aB S y= .d (.val (.int kd i)))
  (h:0≤i∧i<(n:Int)) (hk:k (.d (.cA (l.drop (i.toNat*sz)))) H nx [] []):aT P eI o ⟨S,H,nx,df⟩ k:=by
 unfold aT;rw [ho];simp only [jB,nF,hs,ht,hx,hy];exact ⟨h,hk⟩
theorem cV {n sz:Nat} {ag:Bool} {t:TypeId} {x y:Operand} {id off:Nat} {i:Int} {kd:IntKind} (ho:o.op= .indexAddr t x y) (hs:mz P t=none) (ht:mw P t=some (n,sz,ag)) (hx:aB S x= .aF id off) (hy:aB S y= .d (.val (.int kd i)))
  (h:0≤i∧i<(n:Int)) (hk:k (.aF id (off+i.toNat*sz)) H nx [] []):aT P eI o ⟨S,H,nx,df⟩ k:=by
 unfold aT;rw [ho];simp only [jB,nF,hs,ht,hx,hy];exact ⟨h,hk⟩
theorem lK {t:TypeId} {x y:Operand} {l:List UInt8} {i:Int} {kd:IntKind} (ho:o.op= .index t x y) (ht:P.underlying t=some .string) (ha:mw P t=none) (hx:aB S x= .d (.val (sV l))) (hy:aB S y= .d (.val (.int kd i)))
  (h:0≤i∧i<(l.length:Int)) (hk:k (.d (.val (.int .u8 ((idx l i).toNat:Int)))) H nx [] []):aT P eI o ⟨S,H,nx,df⟩ k:=by
 unfold aT;rw [ho]
 simp only [jB,wL,ha,hx,hy,sY]
 exact ⟨⟨fun _=>ht,h⟩,hk⟩
theorem aO {t:TypeId} {f off n:Nat} {ag:Bool} {x:Operand} {l:List D} (ho:o.op= .fieldAddr t x f) (ht:mu P t f=some (off,n,ag)) (hn:n≠0) (hx:aB S x= .d (.cA l)) (hk:k (.d (.cA (l.drop off))) H nx [] []):aT P eI o ⟨S,H,nx,df⟩ k:=by
 unfold aT;rw [ho];simp only [jB,oG,ht,hx];exact ⟨hn,hk⟩
theorem gF {t:TypeId} {f off n:Nat} {ag:Bool} {x:Operand} {id p:Nat} (ho:o.op= .fieldAddr t x f) (ht:mu P t f=some (off,n,ag)) (hn:n≠0) (hx:aB S x= .aF id p) (hk:k (.aF id (p+off)) H nx [] []):aT P eI o ⟨S,H,nx,df⟩ k:=by
 unfold aT;rw [ho];simp only [jB,oG,ht,hx];exact ⟨hn,hk⟩
def c8 (ag:Bool) (n:Nat) (l:List D) (d:D):Prop:=match ag with
 | true=>n≤l.length∧D.agg (l.take n)=d
 | false=>l≠[]∧l.headD default=d
theorem c8.one {n:Nat} {d:D} {r:List D}:c8 false n (d::r) d:=⟨by simp,rfl⟩
theorem aC {t:TypeId} {x:Operand} {l:List D} {ag:Bool} {n:Nat} {d:D} (ho:o.op= .load t x) (ht:jS P t=some (ag,n)) (hx:aB S x= .d (.cA l)) (h:c8 ag n l d) (hk:k (.d d) H nx [] []):aT P eI o ⟨S,H,nx,df⟩ k:=by
 unfold aT;rw [ho];simp only [hx,ht]
 cases ag with
 | true=>obtain ⟨h1,rfl⟩:=h;exact ⟨h1,hk⟩
 | false=>obtain ⟨h1,rfl⟩:=h;exact ⟨h1,hk⟩
def C7 (ag:Bool) (n off:Nat) (l:List PV) (v:PV):Prop:=(off+n≤l.length∧0<n)∧nO ag l off n=v
theorem bD {t:TypeId} {x:Operand} {id off:Nat} {l:List PV} {ag:Bool} {n:Nat} {v:PV} (ho:o.op= .load t x) (ht:jS P t=some (ag,n)) (hx:aB S x= .aF id off) (hH:H id=some (.var l)) (h:C7 ag n off l v) (hk:k v H nx [id] []):aT P eI o ⟨S,H,nx,df⟩ k:=by
 unfold aT;rw [ho];simp only [hx,ht,hH,xA]
 obtain ⟨h1,rfl⟩:=h;exact ⟨h1,hk⟩
theorem bh {t:TypeId} {x y:Operand} {id off n:Nat} {ag:Bool} {l c l':List PV} {v:PV} (ho:o.op= .store t x y) (ht:jS P t=some (ag,n)) (hx:aB S x= .aF id off) (hH:H id=some (.var l)) (hy:aB S y=v) (hs:v.cz=true) (hc:v.hY=c) (hn:c.length=n) (hf:off+n≤l.length) (hl:l6 l off c=l')
  (hk:k .dO (cG H id (some (.var l'))) nx [id] [id]):aT P eI o ⟨S,H,nx,df⟩ k:=by
 unfold aT;rw [ho];simp only [hx,ht,hH,hy,hc,hl]
 exact ⟨⟨hs,hn,hf⟩,hk⟩
theorem bB {t:TypeId} {z:List Value} {l:List PV} (ho:o.op= .alloc t) (ht:mb P t=some z) (h1:z.all Value.oneCell'=true) (hl:z.map nM=l) (hk:k (.aF nx 0) (cG H nx (some (.var l))) (nx+1) [] []):aT P eI o ⟨S,H,nx,df⟩ k:=by
 unfold aT;rw [ho];simp only [ht,hl];exact ⟨h1,hk⟩
theorem fl {t:TypeId} {x:Operand} {v:PV} {ds:List D} (ho:o.op= .box t x) (hf:yM eI o.dst=true) (hx:aB S x=v) (hs:v.cz=true) (hd:PV.ej v.hY=some ds) (hk:k (.d (.cA ds)) H nx [] []):aT P eI o ⟨S,H,nx,df⟩ k:=by
 unfold aT;rw [ho];simp only [hx,hd];rw [if_pos hf];exact ⟨hs,hk⟩
theorem Ln {t:TypeId} {x:Operand} {v:PV} {c:List PV} (ho:o.op= .box t x) (hf:yM eI o.dst=false) (hx:aB S x=v) (hs:v.cz=true) (hc:v.hY=c) (hk:k (.aF nx 0) (cG H nx (some (.var c))) (nx+1) [] []):aT P eI o ⟨S,H,nx,df⟩ k:=by
 unfold aT;rw [ho];simp only [hx,hc];rw [if_neg (by rw [hf];simp)];exact ⟨hs,hk⟩
theorem bM {x:Operand} {i:Nat} {l:List D} {d:D} (ho:o.op= .extract x i) (hx:aB S x= .d (.tuple l)) (h:l[i]? =some d) (hk:k (.d d) H nx [] []):aT P eI o ⟨S,H,nx,df⟩ k:=by
 unfold aT;rw [ho];simp only [jB,sU,hx]
 have hi:=(List.getElem?_eq_some_iff.1 h).1
 refine ⟨hi,?_⟩
 rw [List.getD_eq_getElem?_getD,h];exact hk
theorem pE {x:Operand} {i:Nat} {l:List PV} {d:PV} (ho:o.op= .extract x i) (hx:aB S x= .tuple l) (h:l[i]? =some d) (hk:k d H nx [] []):aT P eI o ⟨S,H,nx,df⟩ k:=by
 unfold aT;rw [ho];simp only [jB,sU,hx]
 have hi:=(List.getElem?_eq_some_iff.1 h).1
 refine ⟨hi,?_⟩
 rw [List.getD_eq_getElem?_getD,h];exact hk
theorem tN {t:TypeId} {x:Operand} {lo hi:Option Operand} {l:List UInt8} {a b:Int} (ho:o.op= .slice t x lo hi none) (ht:P.underlying t=some .string) (hx:aB S x= .d (.val (sV l))) (ha:oD 0 (lo.map (aB S))=some a) (hb:oD (l.length:Int) (hi.map (aB S))=some b)
  (h:0≤a∧a≤b∧b≤(l.length:Int)) (hk:k (.d (.val (sV (sub l a b)))) H nx [] []):aT P eI o ⟨S,H,nx,df⟩ k:=by
 unfold aT;rw [ho]
 simp only [jB,C1,ht,hx,ha,sY,Option.map_none,hb]
 refine ⟨h,?_⟩
 rw [C4]
 have e:b.toNat-a.toNat=(b-a).toNat:=by omega
 rw [e]
 exact hk
theorem n7 {α:Type} {en:α→D} {c:α→List D} {n je:Nat} {ag:Bool} {t e:TypeId} {x:Operand} {lo hi:Option Operand} {l:List α} {a b:Int} (ho:o.op= .slice t x lo hi none) (hu:P.underlying t=some (.slice e)) (ht:mz P t=some (n,je,ag)) (hl:sC en c n) (hx:(aB S x).elems=some (l.map en))
  (ha:oD 0 (lo.map (aB S))=some a) (hb:oD (l.length:Int) (hi.map (aB S))=some b) (h:0≤a∧a≤b∧b≤(l.length:Int)) (hk:k (.d (.slice ((sub l a b).map en))) H nx [] []):aT P eI o ⟨S,H,nx,df⟩ k:=by
 unfold aT;rw [ho]
 simp only [jB,C1,hu,ht,hx,ha,Option.map_none,List.length_map,hb]
 refine ⟨⟨h,hl.all l⟩,?_⟩
 rw [← List.map_drop, ← List.map_take]
 exact hk
theorem P0 {α:Type} {en:α→D} {c:α→List D} {n je:Nat} {ag:Bool} {t e:TypeId} {x hi mx:Operand} {lo:Option Operand} {l:List α} {a b:Int} {kd Bq:IntKind} (ho:o.op= .slice t x lo (some hi) (some mx)) (hu:P.underlying t=some (.slice e)) (ht:mz P t=some (n,je,ag)) (hl:sC en c n) (hx:(aB S x).elems=some (l.map en))
  (ha:oD 0 (lo.map (aB S))=some a) (hb:aB S hi= .d (.val (.int kd b))) (hm:aB S mx= .d (.val (.int Bq b))) (h:0≤a∧a≤b∧b≤(l.length:Int)) (hk:k (.full ((sub l a b).map en)) H nx [] []):aT P eI o ⟨S,H,nx,df⟩ k:=by
 unfold aT;rw [ho]
 simp only [jB,C1,hu,ht,hx,ha,Option.map_some,hb,hm,List.length_map]
 refine ⟨⟨h,trivial,hl.all l⟩,?_⟩
 rw [← List.map_drop, ← List.map_take]
 exact hk
theorem ef {α:Type} {en:α→D} {c:α→List D} {n je:Nat} {t:TypeId} {sz:Nat} {parts:Array (Nat×Operand)} {l:List α} (ho:o.op= .buildSlice t sz parts) (ht:oH P t=some (n,je)) (hl:sC en c n) (hx:PV.ej (cU S parts.toList)=some (l.map en)) (h1:AT parts.toList=List.range sz) (h2:sz*n≤2 ^ 24)
  (h3:dw (cU S parts.toList)) (hk:k (.full (l.map en)) H nx [] []):aT P eI o ⟨S,H,nx,df⟩ k:=by
 unfold aT;rw [ho];simp only [jB,ht,hx]
 exact ⟨⟨h1,h2,h3,hl.all l⟩,hk⟩
theorem iY {α:Type} {en:α→D} {c:α→List D} {n je id:Nat} {t u:TypeId} {d:TypeDesc} {x y:Operand} {l l2:List α} (ho:o.op= .call {callee:= .builtin .append,args:= #[x,y],argTypes:= #[t,u]}) (ht:oH P t=some (n,je)) (hu:P.underlying u=some d) (hd:mC d=true) (hl:sC en c n)
  (hx:aB S x= .own id (l.map en)) (hH:H id=some (.spare n l.length)) (hy:(aB S y).more=some (l2.map en)) (h:(l.length+l2.length)*je≤140737488355328) (hb:0<je)
  (hk:k (.own nx ((l++l2).map en)) (cG (cG H id none) nx (some (.spare n (l++l2).length))) (nx+1) [id] [id]):aT P eI o ⟨S,H,nx,df⟩ k:=by
 unfold aT;rw [ho]
 simp only [x3,ht,hu,hy,hx,List.length_map]
 refine ⟨⟨hd,hH,hl.all l,hl.all l2⟩,⟨h,?_⟩,?_⟩
 ·have:(l.length+l2.length)*1≤(l.length+l2.length)*je:=Nat.mul_le_mul_left _ hb
  rw [wS];omega
 ·rw [← List.map_append, ← List.length_append];exact hk
theorem Gq {α:Type} {en:α→D} {c:α→List D} {n je:Nat} {t u:TypeId} {d:TypeDesc} {x y:Operand} {l l2:List α} (ho:o.op= .call {callee:= .builtin .append,args:= #[x,y],argTypes:= #[t,u]}) (ht:oH P t=some (n,je)) (hu:P.underlying u=some d) (hd:mC d=true) (hl:sC en c n)
  (hx:aB S x= .full (l.map en)) (hy:(aB S y).more=some (l2.map en)) (h:(l.length+l2.length)*je≤140737488355328∧(l2=[]→l=[])) (hb:0<je)
  (hk:k (.own nx ((l++l2).map en)) (cG H nx (some (.spare n (l++l2).length))) (nx+1) [] []):aT P eI o ⟨S,H,nx,df⟩ k:=by
 unfold aT;rw [ho]
 simp only [x3,ht,hu,hy,hx,List.length_map]
 refine ⟨⟨hd,hl.all l,hl.all l2⟩,⟨h.1,?_,?_⟩,?_⟩
 ·have:(l.length+l2.length)*1≤(l.length+l2.length)*je:=Nat.mul_le_mul_left _ hb
  rw [wS];omega
 ·intro e;rw [h.2 (List.map_eq_nil_iff.1 e)];rfl
 ·rw [← List.map_append, ← List.length_append];exact hk
theorem vb {t:TypeId} {parts:Array (Nat×Operand)} {v:PV} (ho:o.op= .build t parts) (h1:(k9 (p8 P t) (ot S parts.toList)).2) (h2:(k9 (p8 P t) (ot S parts.toList)).1=v) (hk:k v H nx [] []):aT P eI o ⟨S,H,nx,df⟩ k:=by
 unfold aT;rw [ho];subst h2;exact ⟨h1,hk⟩
theorem Lo {f:Nat} {caps:Array Operand} {v:PV} (ho:o.op= .makeFunc (.func f) #[] caps) (h:K4 f (caps.toList.map (aB S))=v) (hk:k v H nx [] []):aT P eI o ⟨S,H,nx,df⟩ k:=by
 unfold aT;rw [ho];subst h;exact ⟨rfl,hk⟩
theorem P1 {t u:TypeId} {x y:Operand} {dx dy:D} {b:Bool} (ho:o.op= .binOp .neq t x y u) (ha:BF (aB S x)=true) (hx:(aB S x).dj=some dx) (hy:(aB S y).dj=some dy) (h:D0 P t dx dy b) (hk:k (.d (.val (.bool (!b)))) H nx [] []):aT P eI o ⟨S,H,nx,df⟩ k:=by
 unfold aT;rw [ho];simp only [isEq,ha,Bool.and_self,if_true,hx,hy];exact ⟨b,h,hk⟩
theorem aA {c:Call} {f:Nat} {ds:List D} {d:D} (ho:o.op= .call c) (hc:c.callee= .value (.func f)) (he:aP P f=true) (hd:PV.ej (c.args.toList.map (aB S))=some ds) (hF:bI P f ds d) (hk:k (.d d) H nx [] []):aT P eI o ⟨S,H,nx,df⟩ k:=by
 unfold aT;rw [ho];simp only [hc,hd];exact ⟨he,d,hF,hk⟩
theorem wW {c:Call} {t:Nat} {f:Nat} {ds caps:List D} {d:D} (ho:o.op= .call c) (hc:c.callee= .value (.tmp t)) (ht:S t= .d (.gT f caps)) (he:aP P f=true) (hd:PV.ej (c.args.toList.map (aB S))=some ds) (hF:bI P f (ds++caps) d) (hk:k (.d d) H nx [] []):aT P eI o ⟨S,H,nx,df⟩ k:=by
 unfold aT;rw [ho];simp only [hc,aB,ht,hd];exact ⟨he,d,hF,hk⟩
end
end Go.Proofs.YtlfjfoknbjcncaaGreat.K
namespace Go.Proofs.YtlfjfoknbjcncaaGreat.K
open Go Go.RowKit
variable {P:Program} {N b:Nat}
section
variable {next:St→Prop} {Q:PX→St→Prop} {s:St} {i id:Nat} {p:PV}
theorem aX (h:next s):PX.then next Q .normal s:=h
theorem eD (h:Q (.exit i) s):PX.then next Q (.exit i) s:=h
theorem gm (h:Q .ret s):PX.then next Q .ret s:=h
theorem sD (h:Q (.panic p) s):PX.then next Q (.panic p) s:=h
theorem g6 (h:Q .normal s):PX.inBlock id Q .normal s:=h
theorem sZ (h:Q .ret s):PX.inBlock id Q .ret s:=h
theorem Kh (h:Q (.panic p) s):PX.inBlock id Q (.panic p) s:=h
theorem j3 (h:Q .normal s):PX.inBlock id Q (.exit id) s:=by simp only [PX.inBlock,if_true];exact h
end
theorem QW.qY {x y:Code} {s:St} {Q:PX→St→Prop} (I:St→Prop) (h:QW P N b x s (PX.then (fun s'=>∃ s'',View N b s' s''∧I s'') Q)) (hb:∀ s',I s'→QW P N b y s' Q):QW P N b (.seq x y) s Q:=by
 refine ⟨h.1,fun m ρ a w hI=>?_⟩
 refine wp_seq (wp_mono (h.2 m ρ a w hI) ?_)
 rintro e a' w' ⟨px,s',m',ρ',hq,hr,mq,hA⟩
 cases px with
 | normal=>
  simp only [RX] at hr
  subst hr
  obtain ⟨s'',hv,hi⟩:=hq
  obtain ⟨m2,kO,zO,D2⟩:=hv m' ρ' a' w' mq
  exact wp_mono ((hb s'' hi).2 m2 kO a' w' zO) fun _ _ _ hp=>hp.Kg (hA.trans D2)
 | exit i=>simp only [RX] at hr;subst hr;exact ⟨.exit i,s',m',ρ',hq,rfl,mq,hA⟩
 | ret=>simp only [RX] at hr;subst hr;exact ⟨.ret,s',m',ρ',hq,rfl,mq,hA⟩
 | panic p=>obtain ⟨v,rfl,hv⟩:=hr;exact ⟨.panic p,s',m',ρ',hq,⟨v,rfl,hv⟩,mq,hA⟩
theorem View.trans {s s1 s2:St} (h:View N b s s1) (k:View N b s1 s2):View N b s s2:=by
 intro m ρ a w hI
 obtain ⟨m1,Fh,hI1,hA1⟩:=h m ρ a w hI
 obtain ⟨m2,kO,zO,D2⟩:=k m1 Fh a w hI1
 exact ⟨m2,kO,zO,hA1.trans D2⟩
theorem View.buf {s:St} (t sz:Nat) (hs:s.S t= .full []) (hb:b≤s.nx):View N b s ⟨fk s.S (some t) (.own s.nx []),cG s.H s.nx (some (.spare sz 0)),s.nx+1,s.df⟩:=by
 refine View.of (Nat.le_trans hb (Nat.le_succ _)) fun m ρ a w hI=>?_
 have qB:=hI.slots t
 rw [hs] at qB
 simp only [aN] at qB
 obtain ⟨ad,ev,_⟩:=qB
 have nn:∀ k,(∃ b c,ρ k=some (b,c))→k≠s.nx:=by
  rintro k ⟨b,c,h⟩ e
  subst e
  rw [hI.n5 _ (Nat.le_refl _)] at h;cases h
 have mq:Inv N ⟨fk s.S (some t) (.own s.nx []),cG s.H s.nx (some (.spare sz 0)),s.nx+1,s.df⟩ m ρ a w:=by
  refine ⟨hI.size,hI.defers,fun i=>?_,⟨hI.valid.mem,fun i o _ hH=>?_,fun i j b c c' _ _ hi hj fY jR=>?_⟩,fun i hi=>?_,fun i hi=>hI.n5 i (by have:s.nx+1≤i:=hi;omega)⟩
  ·simp only [cx]
   by_cases e:i=t
   ·subst e
    simp only [if_true,aN]
    exact .inr ⟨trivial,ad,ev⟩
   ·simp only [e,if_false];exact hI.slots i
  ·simp only [oJ] at hH
   by_cases e:i=s.nx
   ·subst e
    simp only [if_true,Option.some.injEq] at hH
    subst hH
    exact .inl ⟨rfl,hI.n5 _ (Nat.le_refl _)⟩
   ·simp only [e,if_false] at hH;exact hI.valid.entry i o trivial hH
  ·have e1:=nn i ⟨b,c,fY⟩
   have e2:=nn j ⟨b,c',jR⟩
   simp only [oJ,e1,if_false] at hi
   simp only [oJ,e2,if_false] at hj
   exact hI.valid.apart i j b c c' trivial trivial hi hj fY jR
  ·have h1:s.nx+1≤i:=hi
   have:i≠s.nx:=by omega
   simp only [oJ,this,if_false]
   exact hI.gP i (by omega)
 refine ⟨ρ,mq,?_,fun _ _=>rfl⟩
 rintro b' ⟨i,c,_,hl,fY⟩
 have:=nn i ⟨b',c,fY⟩
 simp only [oJ,this,if_false] at hl
 exact ⟨i,c,trivial,hl,fY⟩
theorem View.Wn {s:St} {l:List PV} (id j sz:Nat) (hH:s.H id=some (.var l)) (hj:l[j]? =some (.full [])) (hb:b≤s.nx):
  View N b s ⟨s.S,cG (cG s.H id (some (.var (l.set j (.own s.nx []))))) s.nx (some (.spare sz 0)),s.nx+1,s.df⟩:=by
 refine View.of (Nat.le_trans hb (Nat.le_succ _)) fun m ρ a w hI=>?_
 have hid:id≠s.nx:=by intro e;rw [e,hI.gP _ (Nat.le_refl _)] at hH;cases hH
 have nn:∀ k,(∃ b c,ρ k=some (b,c))→k≠s.nx:=by
  rintro k ⟨b,c,h⟩ e
  subst e
  rw [hI.n5 _ (Nat.le_refl _)] at h;cases h
 have live:∀ k,k≠s.nx→cG (cG s.H id (some (.var (l.set j (.own s.nx []))))) s.nx (some (.spare sz 0)) k≠none→s.H k≠none:=by
  intro k hk
  simp only [cG,hk,if_false]
  split
  ·rename_i e;intro _;rw [e,hH];simp
  ·exact fun h=>h
 have mq:Inv N ⟨s.S,cG (cG s.H id (some (.var (l.set j (.own s.nx []))))) s.nx (some (.spare sz 0)),s.nx+1,s.df⟩ m ρ a w:=by
  refine ⟨hI.size,hI.defers,hI.slots,⟨hI.valid.mem,fun i o _ uk=>?_,fun i j b c c' _ _ hi hj fY jR=>?_⟩,fun i hi=>?_,fun i hi=>hI.n5 i (by have:s.nx+1≤i:=hi;omega)⟩
  ·by_cases e:i=s.nx
   ·subst e
    simp only [cG,if_true,Option.some.injEq] at uk
    subst uk
    exact .inl ⟨rfl,hI.n5 _ (Nat.le_refl _)⟩
   ·by_cases e2:i=id
    ·subst e2
     simp only [cG,e,if_false,if_true,Option.some.injEq] at uk
     subst uk
     rcases hI.valid.entry i _ trivial hH with ⟨e0,_⟩ | ⟨b,c,vs,tail,t,e1,e2,e3,e5,e4⟩
     ·rw [e0] at hj;cases hj
     refine .inr ⟨b,c,vs,tail,t,e1,e2,D1 (fun v hv=>?_) _ _ _ hj e3,e5,e4⟩
     simp only [aN] at hv ⊢
     obtain ⟨ad,ev,_⟩:=hv
     exact .inr ⟨trivial,ad,ev⟩
    ·simp only [cG,e,e2,if_false] at uk
     exact hI.valid.entry i o trivial uk
  ·exact hI.valid.apart i j b c c' trivial trivial (live i (nn i ⟨b,c,fY⟩) hi) (live j (nn j ⟨b,c',jR⟩) hj) fY jR
  ·have h1:s.nx+1≤i:=hi
   have e1:i≠s.nx:=by omega
   have e2:i≠id:=by intro e;subst e;rw [hI.gP i (by omega)] at hH;cases hH
   simp only [cG,e1,e2,if_false]
   exact hI.gP i (by omega)
 refine ⟨ρ,mq,?_,fun _ _=>rfl⟩
 rintro b' ⟨i,c,_,hl,fY⟩
 exact ⟨i,c,trivial,live i (nn i ⟨b',c,fY⟩) hl,fY⟩
def Gr:List D→Nat→List (Nat×PV)
 | [],_=>[]
 | x::r,i=>(i, .d x)::Gr r (i+1)
theorem Lp:∀ (l:List D) (i t:Nat),aG (Gr l i) (i+t)=yL l t
 | [],_,_=>by simp [Gr,aG,yL]
 | x::r,i,0=>by simp [Gr,aG,yL]
 | x::r,i,t+1=>by
  have:=Lp r (i+1) t
  unfold Gr aG
  rw [if_neg (by simp only;omega),show i+(t+1)=i+1+t by omega,this]
  simp [yL]
theorem View.init {args:List D} {L:List (Nat×PV)} (h:L=Gr args 0):View N 0 ⟨yL args,fun _=>none,0,[]⟩ ⟨aG L,aj [],0,[]⟩:=by
 subst h
 have e1:aG (Gr args 0)=yL args:=by funext t;have:=Lp args 0 t;rwa [Nat.zero_add] at this
 have e2:aj []=fun _=>none:=by funext i;rfl
 rw [e1,e2]
 exact View.refl (Nat.zero_le _)
def aI (P:Program) (s:St) (r:ResultVar) (p:PV):Prop:=(og P s r).2∧(og P s r).1=p
theorem aI.tmp {s:St} {t:Nat} {p:PV} (h:s.S t=p):aI P s (.tmp t) p:=⟨trivial,h⟩
theorem aI.cell {s:St} {t id off n:Nat} {ty:TypeId} {ag:Bool} {l:List PV} {p:PV} (hx:s.S t= .aF id off) (hH:s.H id=some (.var l)) (ht:jS P ty=some (ag,n)) (h:C7 ag n off l p):aI P s (.cell t ty) p:=by
 unfold aI og
 simp only [hx,hH,xA,ht]
 exact ⟨h.1,h.2⟩
def uV (P:Program) (s:St):List ResultVar→List PV→Prop
 | [],[]=>True
 | r::rs,p::ps=>aI P s r p∧uV P s rs ps
 | _,_=>False
theorem uV.spec {s:St}:∀ (rs:List ResultVar) (ps:List PV),uV P s rs ps→(rs.map fun r=>(og P s r).1)=ps∧∀ r∈rs,(og P s r).2
 | [],[],_=>⟨rfl,by simp⟩
 | r::rs,p::ps,h=>by
  obtain ⟨h1,h2⟩:=h
  have:=uV.spec rs ps h2
  refine ⟨by rw [List.map_cons,this.1,h1.2],?_⟩
  intro x hx
  rcases List.mem_cons.1 hx with rfl | hx
  ·exact h1.1
  ·exact this.2 x hx
 | [],_::_,h=>h.elim
 | _::_,[],h=>h.elim
theorem Ends.one {s:St} {r:ResultVar} {p:PV} {x y:D} {px:PX} (hp:px= .normal∨px= .ret) (hd:s.df=[]) (h:aI P s r p) (ht:p.dj=some x) (e:x=y):Ends P [r] (fun p=>p.dj=some y) px s:=
 ⟨hp,hd,h.1,by show (og P s r).1.dj=_;rw [h.2,ht,e]⟩
theorem AV {s:St} {r r':ResultVar} {rs:List ResultVar}:oI P (r::r'::rs) s=(.tuple ((r::r'::rs).map fun r=>(og P s r).1),∀ x∈r::r'::rs,(og P s x).2):=rfl
theorem Ends.more {s:St} {r r':ResultVar} {rs:List ResultVar} {ps:List PV} {x y:D} {px:PX} (hp:px= .normal∨px= .ret) (hd:s.df=[]) (h:uV P s (r::r'::rs) ps) (ht:(PV.tuple ps).dj=some x) (e:x=y):Ends P (r::r'::rs) (fun p=>p.dj=some y) px s:=by
 have:=uV.spec _ _ h
 refine ⟨hp,hd,?_,?_⟩
 ·rw [AV];exact this.2
 ·rw [AV];show PV.dj (.tuple _)=_;rw [this.1,ht,e]
section
variable {C R α:Type}
def C8 (f:C→Option R):Option (C⊕R)→Option R
 | some (.inl c)=>f c
 | some (.inr r)=>some r
 | none=>none
def run (step:C→Option (C⊕R)):Nat→C→Option R
 | 0,_=>none
 | n+1,c=>C8 (run step n) (step c)
def Comes (step:C→Option (C⊕R)) (c:C) (r:R):Prop:=∃ n,run step n c=some r
theorem Comes.stop {step:C→Option (C⊕R)} {c:C} {r:R} (h:step c=some (.inr r)):Comes step c r:=⟨1,by simp only [run,h,C8]⟩
theorem Comes.next {step:C→Option (C⊕R)} {c c':C} {r:R} (h:step c=some (.inl c')) (k:Comes step c' r):Comes step c r:=by
 obtain ⟨n,k⟩:=k
 exact ⟨n+1,by simp only [run,h,C8];exact k⟩
theorem aQ {step:C→Option (C⊕R)} {n:Nat} {c:C} {r:R} (h:run step n c=some r):∃ m,n=m+1∧C8 (run step m) (step c)=some r:=by
 cases n with
 | zero=>cases h
 | succ m=>exact ⟨m,rfl,h⟩
def gO (c:Prop) [Decidable c] (t:Option α):Option α:=if c then t else none
theorem ah {c:Prop} [Decidable c] {t:Option α} (h:c):gO c t=t:=if_pos h
theorem bk {c:Prop} [Decidable c] {t:Option α} {r:α} (h:gO c t=some r):c∧t=some r:=by
 unfold gO at h
 split at h
 ·exact ⟨by assumption,h⟩
 ·cases h
theorem gG {f:C→Option R} {c:Prop} [Decidable c] {t:Option (C⊕R)} {r:R} (h:C8 f (gO c t)=some r):c∧C8 f t=some r:=by
 unfold gO at h
 split at h
 ·exact ⟨by assumption,h⟩
 ·cases h
theorem bT {b:Bool} {x y:Option α} {r:α} (h:(bif b then x else y)=some r) (hb:b=true):x=some r:=by subst hb;exact h
theorem bF {b:Bool} {x y:Option α} {r:α} (h:(bif b then x else y)=some r) (hb:b=false):y=some r:=by subst hb;exact h
theorem fF {f:C→Option R} {b:Bool} {x y:Option (C⊕R)} {r:R} (h:C8 f (bif b then x else y)=some r) (hb:b=true):C8 f x=some r:=by subst hb;exact h
theorem fG {f:C→Option R} {b:Bool} {x y:Option (C⊕R)} {r:R} (h:C8 f (bif b then x else y)=some r) (hb:b=false):C8 f y=some r:=by subst hb;exact h
theorem bO {β:Type} {g:Option β} {k:β→Option α} {r:α} (h:g.bind k=some r):∃ x,g=some x∧k x=some r:=Option.bind_eq_some_iff.1 h
theorem bG {β:Type} {f:C→Option R} {g:Option β} {k:β→Option (C⊕R)} {r:R} (h:C8 f (g.bind k)=some r):∃ x,g=some x∧C8 f (k x)=some r:=by
 cases g with
 | none=>cases h
 | some x=>exact ⟨x,rfl,h⟩
theorem sO {v r:α} (h:some v=some r):v=r:=Option.some.inj h
theorem sG {f:C→Option R} {v r:R} (h:C8 f (some (.inr v))=some r):v=r:=Option.some.inj h
theorem jG {f:C→Option R} {c:C} {r:R} (h:C8 f (some (.inl c))=some r):f c=some r:=h
end
section
variable {ops:Array Oper} {o:Oper} {r:List Oper} {s:St}
theorem Fp {b w:Bool} (h:(b==w)=true):b=w:=by simpa using h
theorem BH {S:Nat→PV}:∀ {l:List Operand},vt true S l→∀ x∈l,∀ m ρ u,aN m ρ (aB S x) u→aN m ρ (bU (aB S x)).2 u
 | [],_,x,hx=>by cases hx
 | y::r,h,x,hx=>by
  intro m ρ u hr
  rcases List.mem_cons.1 hx with rfl | hx
  ·exact zW hr (h.1 rfl)
  ·exact BH h.2 x hx m ρ u hr
theorem Lq {g:Bool} {v:PV} {T:List Nat} (hn:∀ i,s.nx≤i→s.H i=none) (hg:tq ops o s.S=some g) (hc:vt g s.S o.op.operands.toList)
  (h:g=true→aT P [] o ⟨jA s.S,s.H,s.nx,s.df⟩ fun v' H' cO T' W=>(W=[]∧cO=s.nx∧T'=T)∧H'=s.H∧iH v' v) (hT:g=false→∀ i∈T,i<s.nx):pq P ops o s (.cond g v) s.H ⟨T,[],s.nx,s.nx⟩:=by
 refine .gd hg ?_ ?_
 ·cases g with
  | false=>exact hT rfl
  | true=>
   obtain ⟨v',H',cO,T',W,h1,⟨⟨rfl,rfl,rfl⟩,rfl,_⟩⟩:=ld (s:=⟨jA s.S,s.H,s.nx,s.df⟩) hn (h rfl)
   exact h1.old
 ·rintro rfl
  obtain ⟨v',H',cO,T',W,h1,⟨⟨rfl,rfl,rfl⟩,rfl,hi⟩⟩:=ld (s:=⟨jA s.S,s.H,s.nx,s.df⟩) hn (h rfl)
  refine ⟨jA s.S,fun x hx m ρ u hr=>?_,h1.imp hi⟩
  rw [RI]
  exact BH hc x (by simpa using hx) m ρ u hr
variable {S:Nat→PV} {H:HM} {nx:Nat} {df:List (Nat×List PV)}
theorem XK.gd {Q:PX→St→Prop} {g:Bool} {v:PV} {T:List Nat} (d:Option Nat) (hd:o.dst=d) (hg:tq ops o S=some g) (hc:vt g S o.op.operands.toList)
  (h:g=true→aT P [] o ⟨jA S,H,nx,df⟩ fun v' H' cO T' W=>(W=[]∧cO=nx∧T'=T)∧H'=H∧iH v' v) (hT:g=false→∀ i∈T,i<nx)
  (k:XK P ops r ⟨fk S d (.cond g v),H,nx,df⟩ Q):XK P ops (o::r) ⟨S,H,nx,df⟩ Q:=by subst hd;exact fun hn=> .step (Lq hn hg hc h hT) (k hn)
theorem RQ.gd {Q:St→Prop} {g:Bool} {v:PV} {T:List Nat} (d:Option Nat) (hd:o.dst=d) (hg:tq ops o S=some g) (hc:vt g S o.op.operands.toList)
  (h:g=true→aT P [] o ⟨jA S,H,nx,df⟩ fun v' H' cO T' W=>(W=[]∧cO=nx∧T'=T)∧H'=H∧iH v' v) (hT:g=false→∀ i∈T,i<nx)
  (k:RQ P ops r ⟨fk S d (.cond g v),H,nx,df⟩ Q):RQ P ops (o::r) ⟨S,H,nx,df⟩ Q:=by
 intro hn
 subst hd
 obtain ⟨s',L,h4,h5,h6⟩:=k hn
 refine ⟨s',_, .cons (Lq hn hg hc h hT) h4,?_,h6⟩
 intro R hR
 rcases List.mem_cons.1 hR with rfl | hR
 ·exact ⟨rfl,rfl⟩
 ·exact h5 R hR
variable {eI:List Nat} {k:PV→HM→Nat→List Nat→List Nat→Prop}
theorem IX {c x y:Operand} {b u v gx gy:Bool} (ho:o.op= .pick c x y) (hc:aB S c= .d (.val (.bool b))) (hx:bU (aB S x)=(gx, .d (.val (.bool u)))) (hy:bU (aB S y)=(gy, .d (.val (.bool v)))) (h1:b=true→gx=true) (h2:b=false→gy=true)
  (hk:k (.d (.val (.bool (bif b then u else v)))) H nx [] []):aT P eI o ⟨S,H,nx,df⟩ k:=by
 unfold aT;rw [ho]
 simp only [jB,yE,hc,hx,hy]
 exact ⟨⟨h1,h2⟩,hk⟩
theorem fu {c x y:Operand} {b u gx gy:Bool} (ho:o.op= .pick c x y) (hc:aB S c= .d (.val (.bool b))) (hx:bU (aB S x)=(gx, .d (.val (.bool u)))) (hy:bU (aB S y)=(gy, .d (.val (.bool false)))) (h1:b=true→gx=true) (h2:b=false→gy=true)
  (hk:k (.d (.val (.bool (b&&u)))) H nx [] []):aT P eI o ⟨S,H,nx,df⟩ k:=
 IX ho hc hx hy h1 h2 (by cases b<;>exact hk)
theorem jt {c x y:Operand} {b v gx gy:Bool} (ho:o.op= .pick c x y) (hc:aB S c= .d (.val (.bool b))) (hx:bU (aB S x)=(gx, .d (.val (.bool true)))) (hy:bU (aB S y)=(gy, .d (.val (.bool v)))) (h1:b=true→gx=true) (h2:b=false→gy=true)
  (hk:k (.d (.val (.bool (b||v)))) H nx [] []):aT P eI o ⟨S,H,nx,df⟩ k:=
 IX ho hc hx hy h1 h2 (by cases b<;>exact hk)
theorem AW (a:UInt8):bw (a.toNat:Int):=by have:=nc a;unfold bw;omega
end
end Go.Proofs.YtlfjfoknbjcncaaGreat.K
namespace Go.Proofs.YtlfjfoknbjcncaaGreat.K
open Go Go.RowKit
variable {P:Program} {N b:Nat} {ops:Array Oper} {o:Oper} {r:List Oper} {α:Type} {n:Nat} {en:α→D}
abbrev aE (n:Nat) (α:Type):={l:List α//l.length=n}
def aE.rep (n:Nat) (x:α):aE n α:=⟨List.replicate n x,by simp⟩
instance Wo [Inhabited α]:Inhabited (aE n α):=⟨aE.rep n default⟩
def aE.put (a:aE n α) (i:Int) (x:α):aE n α:=⟨a.1.set i.toNat x,by rw [List.length_set];exact a.2⟩
def Pre (l:List D) (en:α→D) (a:aE n α):Prop:=∃ rest,l=a.1.map en++rest
theorem Pre.all (a:aE n α):Pre (a.1.map en) en a:=⟨[],by simp⟩
theorem ov [Inhabited α] {l:List D} {a:aE n α} {i:Int} {m:Nat} (hp:Pre l en a) (h:0≤i∧i<(n:Int)):c8 false m (l.drop (i.toNat*1)) (en (idx a.1 i)):=by
 obtain ⟨rest,rfl⟩:=hp
 have hi:i.toNat<a.1.length:=by rw [a.2];omega
 rw [Nat.mul_one,List.drop_append_of_le_length (by simpa using Nat.le_of_lt hi),List.drop_eq_getElem_cons (by simpa using hi)]
 refine ⟨by simp,?_⟩
 simp [idx,List.getD_eq_getElem?_getD,List.getElem?_eq_getElem hi]
section
variable {S:Nat→PV} {H:HM} {nx:Nat} {df:List (Nat×List PV)} {eI:List Nat} {k:PV→HM→Nat→List Nat→List Nat→Prop}
theorem RS {l:List D} {a:aE n α} (hp:Pre l en a) {lo hi:Int} (h:0≤lo∧lo≤hi∧hi≤(n:Int)):(l.drop lo.toNat).take (hi-lo).toNat=(sub a.1 lo hi).map en:=by
 obtain ⟨rest,rfl⟩:=hp
 unfold sub
 have h1:lo.toNat≤(a.1.map en).length:=by rw [List.length_map,a.2];omega
 rw [List.drop_append_of_le_length h1,List.take_append_of_le_length (by rw [List.length_drop,List.length_map,a.2];omega),List.map_take,List.map_drop]
theorem D4 {t e:TypeId} {x:Operand} {l:List D} {a:aE n α} {ag:Bool} (ho:o.op= .slice t x none none none) (hu:P.underlying t=some (.array n e)) (ht:mw P t=some (n,1,ag)) (hp:Pre l en a) (hf:∀ x∈l,x.flat=true) (hx:aB S x= .d (.cA l))
  (hk:k (.full (a.1.map en)) H nx [] []):aT P eI o ⟨S,H,nx,df⟩ k:=by
 unfold aT;rw [ho]
 have hn:n≤l.length:=by obtain ⟨rest,rfl⟩:=hp;simp [a.2]
 have e:=RS hp (lo:=0) (hi:=(n:Int)) (by omega)
 simp only [jB,C1,hu,ht,hx,Option.map_none,oD,Option.isSome_none,Bool.false_eq_true,if_false]
 refine ⟨⟨⟨Int.le_refl _,Int.natCast_nonneg _,Int.le_refl _⟩,hn,hf⟩,?_⟩
 rw [e]
 have:sub a.1 0 (n:Int)=a.1:=by
  unfold sub
  rw [List.take_of_length_le (by rw [List.length_drop,a.2];omega)];rfl
 rw [this];exact hk
theorem Gs (l:List α):((l.map en).map PV.d)=l.map fun x=> .d (en x):=by simp
theorem fI [Inhabited α] {a:aE n α} {i:Int} (h:0≤i∧i<(n:Int)):C7 false 1 (0+i.toNat*1) ((a.1.map en).map .d) (.d (en (idx a.1 i))):=by
 have hi:i.toNat<a.1.length:=by rw [a.2];omega
 refine ⟨⟨by simp only [List.length_map,a.2];omega,by omega⟩,?_⟩
 simp only [nO,Bool.false_eq_true,if_false,Nat.zero_add,Nat.mul_one,Gs,idx]
 rw [List.getD_eq_getElem?_getD,List.getElem?_map,List.getElem?_eq_getElem hi,List.getD_eq_getElem?_getD,List.getElem?_eq_getElem hi];rfl
theorem p9 {a:aE n α} {i:Int} {x:α} (h:0≤i∧i<(n:Int)):l6 ((a.1.map en).map PV.d) (0+i.toNat*1) [PV.d (en x)]=((a.put i x).1.map en).map PV.d:=by
 have hi:i.toNat<a.1.length:=by rw [a.2];omega
 simp only [l6,Nat.zero_add,Nat.mul_one,aE.put]
 apply List.ext_getElem?
 intro j
 simp only [Gs,List.getElem?_map,List.getElem?_set]
 rcases Nat.lt_trichotomy j i.toNat with hj | hj | hj
 ·rw [List.getElem?_append_left (by simp;omega),List.getElem?_take,if_pos hj,List.getElem?_map,if_neg (by omega)]
 ·subst hj
  rw [List.getElem?_append_right (by simp;omega),if_pos rfl,if_pos hi]
  simp only [List.length_take,List.length_map,Nat.min_eq_left (Nat.le_of_lt hi),Nat.sub_self,List.cons_append,List.getElem?_cons_zero,Option.map_some]
 ·rw [List.getElem?_append_right (by simp;omega),if_neg (by omega)]
  simp only [List.length_take,List.length_map,Nat.min_eq_left (Nat.le_of_lt hi)]
  rw [show j-i.toNat=(j-i.toNat-1)+1 by omega,List.cons_append,List.getElem?_cons_succ,List.nil_append,List.getElem?_drop,List.getElem?_map,List.length_singleton,show i.toNat+1+(j-i.toNat-1)=j by omega]
theorem rM {a:aE n α} {i:Int} (h:0≤i∧i<(n:Int)):0+i.toNat*1+1≤((a.1.map en).map PV.d).length:=by simp only [List.length_map,a.2];omega
theorem ju {a:aE n α} (h:0<n):C7 true n 0 ((a.1.map en).map .d) (.agg ((a.1.map en).map .d)):=by
 refine ⟨⟨by simp [a.2],h⟩,?_⟩
 simp only [nO,if_true,List.drop_zero]
 rw [List.take_of_length_le (by simp [a.2])]
theorem gV {l:List D}:iH (.agg (l.map .d)) (.d (.agg l)):=iH.dj (by simp only [PV.dj,wR,Option.map_some])
theorem cQ {l c:List PV} (h:l.length=c.length):l6 l 0 c=c:=by
 unfold l6
 rw [List.take_zero,List.nil_append,List.drop_eq_nil_of_le (by omega),List.append_nil]
theorem cH {l:List D}:PV.ej (l.map .d)=some l:=wR l
theorem D5 {t u:TypeId} {x y:Operand} {p q:UInt8} (ho:o.op= .binOp .add t x y u) (hx:aB S x= .d (.val (.int .u8 (p.toNat:Int)))) (hy:aB S y= .d (.val (.int .u8 (q.toNat:Int)))) (hk:k (.d (.val (.int .u8 ((p+q).toNat:Int)))) H nx [] []):aT P eI o ⟨S,H,nx,df⟩ k:=
 gv ho hx hy rfl rfl (by show PV.d (.val (.int .u8 (IntKind.u8.wrap _)))=_;rw [T7]) hk
theorem Ue (a b:UInt8):IntKind.u8.wrap ((a.toNat:Int)*(b.toNat:Int))=(a*b).toNat:=by
 rw [IntKind.wrap_u8,UInt8.toNat_mul]
 omega
theorem IY {t u:TypeId} {x y:Operand} {p q:UInt8} (ho:o.op= .binOp .mul t x y u) (hx:aB S x= .d (.val (.int .u8 (p.toNat:Int)))) (hy:aB S y= .d (.val (.int .u8 (q.toNat:Int)))) (hk:k (.d (.val (.int .u8 ((p*q).toNat:Int)))) H nx [] []):aT P eI o ⟨S,H,nx,df⟩ k:=
 gv ho hx hy rfl rfl (by show PV.d (.val (.int .u8 (IntKind.u8.wrap _)))=_;rw [Ue]) hk
theorem RU {t u:TypeId} {x y:Operand} {p q:UInt8} (ho:o.op= .binOp .or t x y u) (hx:aB S x= .d (.val (.int .u8 (p.toNat:Int)))) (hy:aB S y= .d (.val (.int .u8 (q.toNat:Int)))) (hk:k (.d (.val (.int .u8 ((p||| q).toNat:Int)))) H nx [] []):aT P eI o ⟨S,H,nx,df⟩ k:=
 gv ho hx hy rfl rfl (by show PV.d (.val (.int .u8 (IntKind.u8.wrap _)))=_;rw [WS]) hk
theorem IZ {t u:TypeId} {x y:Operand} {p q:UInt8} (ho:o.op= .binOp .and t x y u) (hx:aB S x= .d (.val (.int .u8 (p.toNat:Int)))) (hy:aB S y= .d (.val (.int .u8 (q.toNat:Int)))) (hk:k (.d (.val (.int .u8 ((p&&& q).toNat:Int)))) H nx [] []):aT P eI o ⟨S,H,nx,df⟩ k:=
 gv ho hx hy rfl rfl (by show PV.d (.val (.int .u8 (IntKind.u8.wrap _)))=_;rw [T6]) hk
theorem RV {q:UInt8} (h:q≠0):(q.toNat:Int)≠0:=by
 intro e;apply h;apply UInt8.toNat_inj.1;show q.toNat=0;omega
theorem P2 {t u:TypeId} {x y:Operand} {p q:UInt8} (ho:o.op= .binOp .quo t x y u) (hx:aB S x= .d (.val (.int .u8 (p.toNat:Int)))) (hy:aB S y= .d (.val (.int .u8 (q.toNat:Int)))) (h:q≠0) (hk:k (.d (.val (.int .u8 ((p/q).toNat:Int)))) H nx [] []):aT P eI o ⟨S,H,nx,df⟩ k:=by
 refine gv ho hx hy rfl ⟨rfl,RV h⟩ ?_ hk
 show PV.d (.val (.int .u8 (IntKind.u8.wrap ((p.toNat:Int).tdiv (q.toNat:Int)))))=_
 have e:(p.toNat:Int).tdiv (q.toNat:Int)=((p/q).toNat:Int):=by rw [UInt8.toNat_div];rfl
 rw [e,wQ]
theorem D6 {t u:TypeId} {x y:Operand} {p q:UInt8} (ho:o.op= .binOp .rem t x y u) (hx:aB S x= .d (.val (.int .u8 (p.toNat:Int)))) (hy:aB S y= .d (.val (.int .u8 (q.toNat:Int)))) (h:q≠0) (hk:k (.d (.val (.int .u8 ((p%q).toNat:Int)))) H nx [] []):aT P eI o ⟨S,H,nx,df⟩ k:=by
 refine gv ho hx hy rfl ⟨rfl,RV h⟩ ?_ hk
 show PV.d (.val (.int .u8 ((p.toNat:Int).tmod (q.toNat:Int))))=_
 have e:(p.toNat:Int).tmod (q.toNat:Int)=((p%q).toNat:Int):=by rw [UInt8.toNat_mod];rfl
 rw [e]
def mU (a:UInt8) (c:Int):UInt8:=UInt8.ofNat (a.toNat/2 ^ (min c.toNat 8))
def qC (a:UInt8) (c:Int):UInt8:=UInt8.ofNat (a.toNat*2 ^ (min c.toNat 8))
theorem I0 {t u:TypeId} {x y:Operand} {p:UInt8} {c:Int} {kd:IntKind} (ho:o.op= .binOp .shr t x y u) (hx:aB S x= .d (.val (.int .u8 (p.toNat:Int)))) (hy:aB S y= .d (.val (.int kd c))) (h:0≤c) (hk:k (.d (.val (.int .u8 ((mU p c).toNat:Int)))) H nx [] []):aT P eI o ⟨S,H,nx,df⟩ k:=by
 refine gv ho hx hy rfl h ?_ hk
 show PV.d (.val (.int .u8 ((p.toNat:Int).fdiv (2 ^ (min c.toNat 8)))))=_
 have h1:p.toNat/2 ^ (min c.toNat 8)<256:=Nat.lt_of_le_of_lt (Nat.div_le_self _ _) (nc p)
 have e:(p.toNat:Int).fdiv (2 ^ (min c.toNat 8))=((p.toNat/2 ^ (min c.toNat 8):Nat):Int):=by
  rw [Int.fdiv_eq_ediv_of_nonneg _ (by exact Int.le_of_lt (Int.pow_pos (by decide)))]
  push_cast;rfl
 rw [e,mU,UInt8.toNat_ofNat',Nat.mod_eq_of_lt h1]
theorem P3 {t u:TypeId} {x y:Operand} {p:UInt8} {c:Int} {kd:IntKind} (ho:o.op= .binOp .shl t x y u) (hx:aB S x= .d (.val (.int .u8 (p.toNat:Int)))) (hy:aB S y= .d (.val (.int kd c))) (h:0≤c) (hk:k (.d (.val (.int .u8 ((qC p c).toNat:Int)))) H nx [] []):aT P eI o ⟨S,H,nx,df⟩ k:=by
 refine gv ho hx hy rfl h ?_ hk
 show PV.d (.val (.int .u8 (IntKind.u8.wrap ((p.toNat:Int)*2 ^ (min c.toNat 8)))))=_
 have e:(p.toNat:Int)*2 ^ (min c.toNat 8)=((p.toNat*2 ^ (min c.toNat 8):Nat):Int):=by push_cast;rfl
 rw [e,Ll,qC]
theorem I1 {t u:TypeId} {x y:Operand} {p q:aE n UInt8} (ho:o.op= .binOp .neq t x y u) (hb:O9 P t n=true) (hx:aB S x= .d (.agg (p.1.map U))) (hy:aB S y= .d (.agg (q.1.map U))) (hk:k (.d (.val (.bool (!(p.1==q.1))))) H nx [] []):aT P eI o ⟨S,H,nx,df⟩ k:=
 P1 ho (by rw [hx];rfl) (by rw [hx];rfl) (by rw [hy];rfl) (D0.bytes hb _ _ p.2 q.2) hk
end
theorem C9 {l:List D} {off m:Nat} {d:D} (h:c8 false m (l.drop off) d) (hl:off+m≤l.length) (hm:0<m):C7 false m off (l.map .d) (.d d):=by
 obtain ⟨h1,h2⟩:=h
 refine ⟨⟨by simpa using hl,hm⟩,?_⟩
 simp only [nO,Bool.false_eq_true,if_false]
 rw [List.getD_eq_getElem?_getD,List.getElem?_map,List.getElem?_eq_getElem (by omega)]
 rw [List.drop_eq_getElem_cons (by omega)] at h2
 exact congrArg PV.d h2
theorem D7 {l:List D} {off m:Nat} {c:List D} (h:c8 true m (l.drop off) (.agg c)) (hl:off+m≤l.length) (hm:0<m):C7 true m off (l.map .d) (.agg (c.map .d)):=by
 obtain ⟨h1,h2⟩:=h
 refine ⟨⟨by simpa using hl,hm⟩,?_⟩
 simp only [nO,if_true]
 injection h2 with h2
 rw [← List.map_drop, ← List.map_take,h2]
theorem aq (a:aE n α):((a.1.map en).map PV.d).length=n:=by simp [a.2]
theorem nh (a:aE n α):0+n≤((a.1.map en).map PV.d).length:=by rw [aq,Nat.zero_add];exact Nat.le_refl _
theorem FJ {c1 c2:List D} (h:c1.length=c2.length):l6 (c1.map PV.d) 0 (c2.map PV.d)=c2.map PV.d:=cQ (by simpa using h)
theorem Ki {c:List D} {m:Nat} (h:c.length=m):0+m≤(c.map PV.d).length:=by simp [h]
theorem FK {c:List D} {m:Nat} (h:c.length=m):(c.map PV.d).length=m:=by simpa using h
theorem Uf {c:List D} {m:Nat} (h:c.length=m) (hm:0<m):C7 true m 0 (c.map .d) (.agg (c.map .d)):=by
 refine ⟨⟨by simp [h],hm⟩,?_⟩
 simp only [nO,if_true,List.drop_zero]
 rw [List.take_of_length_le (by simp [h])]
theorem Gt {l:List D} {j:Nat} (h:∀ x∈l,x.flat=true):∀ x∈l.drop j,x.flat=true:=fun x hx=>h x (List.mem_of_mem_drop hx)
theorem I2 (a:aE n α) (h:∀ y,(en y).flat=true):∀ x∈a.1.map en,x.flat=true:=by
 intro x hx
 obtain ⟨z,_,rfl⟩:=List.mem_map.1 hx;exact h z
theorem View.freeze {s:St} {l:List D} (id t:Nat) (hH:s.H id=some (.var (l.map .d))) (ht:s.S t= .aF id 0) (Lr:b≤s.nx):View N b s ⟨fk s.S (some t) (.d (.cA l)),cG s.H id none,s.nx,s.df⟩:=by
 intro m ρ a w hI
 have qB:=hI.slots t
 rw [ht] at qB
 simp only [aN] at qB
 obtain ⟨b9,c9,Yz,_⟩:=qB
 rcases hI.valid.entry id _ trivial hH with ⟨_,e⟩ | ⟨b0,cc,vs,tail,ty,e1,e2,e3,e5,e4⟩
 ·rw [Yz] at e;cases e
 clear Yz
 have x4:m.le (m.with b0 vs):=fun x y v e=>by
  unfold Mem.with
  split
  ·rename_i hx;rw [hx,e4] at e;cases e
  ·exact e
 have hnew:∀ x y v,(m.with b0 vs) x y=some v→m x y=some v∨x=b0:=by
  intro x y v e
  unfold Mem.with at e
  split at e
  ·rename_i hx;exact .inr hx
  ·exact .inl e
 have hmem:gb (m.with b0 vs) w:=by
  intro x y v e
  unfold Mem.with at e
  split at e
  ·rename_i hx
   subst hx
   refine ⟨?_,e5 v (List.mem_of_getElem? e)⟩
   rw [ig e2]
   have e:vs[y]? =some v:=by simpa using e
   rw [List.getElem?_append_left (List.getElem?_eq_some_iff.1 e).1];exact e
  ·exact hI.valid.mem x y v e
 have hl:=bN.ej (l.map .d) l vs (wR l) e3
 have YB:∀ (l:List D) (us:List Value) (o:Nat),cr m l us→(∀ j v,us[j]? =some v→(m.with b0 vs) b0 (o+j)=some v)→jg (m.with b0 vs) b0 l o:=by
  intro l
  induction l with
  | nil=>intro us o _ _;simp [jg]
  | cons x r ih=>
   intro us o hr hc
   simp only [cr] at hr
   obtain ⟨v,vr,rfl,h1,h2⟩:=hr
   simp only [jg]
   refine ⟨⟨v,by simpa using hc 0 v rfl,h1.mono x4⟩,ih vr (o+1) h2 fun j u hj=>?_⟩
   have:=hc (j+1) u (by simpa using hj)
   rwa [show o+1+j=o+(j+1) by omega]
 have mq:Inv N ⟨fk s.S (some t) (.d (.cA l)),cG s.H id none,s.nx,s.df⟩ (m.with b0 vs) ρ a w:=by
  refine ⟨hI.size,hI.defers.mono x4 (di.le_refl _),fun i=>?_,⟨hmem,fun i o _ uk=>?_,fun i j b1 c1 c2 _ _ hi hj fY jR=>?_⟩,fun i hi=>?_,hI.n5⟩
  ·show aN _ _ (fk s.S (some t) (.d (.cA l)) i) _
   rw [cx]
   split
   ·rename_i e
    subst e
    have:=hI.slots i
    rw [ht] at this
    simp only [aN] at this
    obtain ⟨b',c',hr,ev⟩:=this
    rw [e1] at hr;cases hr
    simp only [aN,bg]
    exact ⟨b0,0,ev,YB l vs 0 hl fun j v hj=>by simp [Mem.with,hj]⟩
   ·exact (hI.slots i).mono x4 (di.le_refl _)
  ·by_cases e:i=id
   ·subst e;simp [cG] at uk
   ·simp only [cG,e,if_false] at uk
    have hE:=hI.valid.entry i o trivial uk
    refine hE.move x4 (di.le_refl _) rfl (fun _ _ _=>rfl) (fun b' c' hr o' v e'=>?_)
    rcases hnew b' o' v e' with h1 | h1
    ·exact h1
    ·subst h1
     exact absurd (hI.valid.apart i id b' c' cc trivial trivial (by rw [uk];simp) (by rw [hH];simp) hr e1) e
  ·refine hI.valid.apart i j b1 c1 c2 trivial trivial ?_ ?_ fY jR
   ·intro e;apply hi;simp only [cG];split
    ·rfl
    ·exact e
   ·intro e;apply hj;simp only [cG];split
    ·rfl
    ·exact e
  ·simp only [cG]
   split
   ·rfl
   ·exact hI.gP i hi
 have WX:∀ x,xw ρ (cG s.H id none) (fun _=>True) x→xw ρ s.H (fun _=>True) x:=by
  rintro x ⟨i,c,_,hl,fY⟩
  refine ⟨i,c,trivial,?_,fY⟩
  intro e
  apply hl
  simp only [cG]
  split
  ·rfl
  ·exact e
 have bid:xw ρ s.H (fun _=>True) b0:=⟨id,cc,trivial,by rw [hH];simp,e1⟩
 refine ⟨m.with b0 vs,ρ,mq,⟨⟨x4,Nat.le_refl _,fun _ _ _=>rfl,rfl,rfl,rfl,fun x y v e=>?_⟩,fun c hc=> .inl (WX c hc),Lr,fun _ _=>rfl⟩⟩
 rcases hnew x y v e with h2 | h2
 ·exact .inl h2
 ·subst h2;exact .inr (.inl bid)
section
variable {S:Nat→PV} {H:HM} {nx:Nat} {df:List (Nat×List PV)} {eI:List Nat} {k:PV→HM→Nat→List Nat→List Nat→Prop}
theorem x5 [Inhabited α] {t:TypeId} {x y:Operand} {a:aE n α} {i:Int} {kd:IntKind} (ho:o.op= .index t x y) (ht:mw P t=some (n,1,false)) (hx:aB S x= .d (.agg (a.1.map en))) (hy:aB S y= .d (.val (.int kd i)))
  (h:0≤i∧i<(n:Int)) (hk:k (.d (en (idx a.1 i))) H nx [] []):aT P eI o ⟨S,H,nx,df⟩ k:=by
 unfold aT;rw [ho]
 have hi:i.toNat<a.1.length:=by rw [a.2];omega
 have e:zX false (a.1.map en) (i.toNat*1) 1=en (idx a.1 i):=by
  simp only [zX,Bool.false_eq_true,if_false,Nat.mul_one]
  exact getD_map (by rw [a.2];exact h)
 simp only [jB,wL,ht,hx,hy,e]
 exact ⟨⟨(fun h=>nomatch h),h,by simp [a.2],by omega⟩,hk⟩
end
end Go.Proofs.YtlfjfoknbjcncaaGreat.K
namespace Go.Proofs.YtlfjfoknbjcncaaGreat.K
open Go Go.RowKit
variable {P:Program} {N b:Nat}
mutual
theorem aN.uo {m:Mem} {ρ kO:di} {f:Nat→Nat} (hf:∀ i,kO (f i)=ρ i):∀ (p:PV) (v:Value),aN m ρ p v→aN m kO (p.re f) v
 | .d x,v,e=>by simpa [PV.re,aN] using e
 | .full l,v,e=>by simpa [PV.re,aN] using e
 | .own id l,v,e=>by simpa [PV.re,aN,hf] using e
 | .aF id off,v,e=>by simpa [PV.re,aN,hf] using e
 | .gD id off n,v,e=>by simpa [PV.re,aN,hf] using e
 | .room id n,v,e=>by simpa [PV.re,aN,hf] using e
 | .gT g l,v,e=>by
  simp only [PV.re,aN] at e ⊢
  obtain ⟨vs,e1,e2⟩:=e
  exact ⟨vs,e1,bN.uo hf l vs e2⟩
 | .agg l,v,e=>by
  simp only [PV.re,aN] at e ⊢
  obtain ⟨vs,e1,e2,e3⟩:=e
  exact ⟨vs,e1,bN.uo hf l vs e2,e3⟩
 | .tuple l,v,e=>by
  simp only [PV.re,aN] at e ⊢
  obtain ⟨vs,e1,e2⟩:=e
  exact ⟨vs,e1,bN.uo hf l vs e2⟩
 | .cond g p,v,e=>by
  simp only [PV.re,aN] at e ⊢
  exact ⟨fun h=>aN.uo hf p v (e.1 h),e.2⟩
 | .dO,v,e=>by simp [PV.re,aN]
theorem bN.uo {m:Mem} {ρ kO:di} {f:Nat→Nat} (hf:∀ i,kO (f i)=ρ i):∀ (l:List PV) (vs:List Value),bN m ρ l vs→bN m kO (PV.res f l) vs
 | [],vs,e=>by simpa [PV.res,bN] using e
 | x::r,vs,e=>by
  simp only [PV.res,bN] at e ⊢
  obtain ⟨v,vr,e1,e2,e3⟩:=e
  exact ⟨v,vr,e1,aN.uo hf x v e2,bN.uo hf r vr e3⟩
end
theorem gU.uo {m:Mem} {ρ kO:di} {w:World} {i:Nat} {f:Nat→Nat} {o:HO} (hf:∀ i,kO (f i)=ρ i) (h:gU m ρ w i o):gU m kO w (f i) (o.re f):=by
 cases o with
 | var l=>
  simp only [HO.re,gU] at h ⊢
  rcases h with ⟨e0,e⟩ | ⟨b,c,vs,tail,t,e1,e2,e3,e4⟩
  ·exact .inl ⟨by rw [e0];rfl,by rw [hf];exact e⟩
  exact .inr ⟨b,c,vs,tail,t,by rw [hf];exact e1,e2,bN.uo hf _ _ e3,e4⟩
 | spare sz n=>
  simp only [HO.re,gU] at h ⊢
  rw [hf];exact h
 | dead=>exact h.elim
 | BV sz l=>
  simp only [HO.re,gU] at h ⊢
  rcases h with ⟨e0,e⟩ | ⟨b,c,vs,tail,t,e1,e2,e3,e4⟩
  ·exact .inl ⟨by rw [e0];rfl,by rw [hf];exact e⟩
  exact .inr ⟨b,c,vs,tail,t,by rw [hf];exact e1,e2,bN.uo hf _ _ e3,e4⟩
def iB (f:Nat→Nat):List HO→Nat→HM→HM
 | [],_,H=>H
 | x::r,i,H=>cG (iB f r (i+1) H) (f i) (lv (x.re f))
theorem I3 {f:Nat→Nat} {H:HM} (hinj:∀ i j,f i=f j→i=j):∀ (M:List HO) (k i:Nat) (o:HO),aj M i=some o→iB f M k H (f (k+i))=some (o.re f)
 | [],_,_,_,h=>by simp [aj] at h
 | x::r,k,0,o,h=>by
  simp only [aj] at h
  simp [iB,cG,WV h]
 | x::r,k,i+1,o,h=>by
  have:=I3 (H:=H) hinj r (k+1) i o h
  have hne:f (k+(i+1))≠f k:=fun e=>by have:=hinj _ _ e;omega
  simp only [iB,cG,hne,if_false]
  rw [show k+(i+1)=k+1+i by omega];exact this
theorem Gu {f:Nat→Nat} {H:HM} {j:Nat}:∀ (M:List HO) (k:Nat),(∀ i,i<M.length→j≠f (k+i))→iB f M k H j=H j
 | [],_,_=>rfl
 | x::r,k,h=>by
  have h0:j≠f k:=h 0 (by simp)
  simp only [iB,cG,h0,if_false]
  exact Gu r (k+1) fun i hi=>by have:=h (i+1) (by simpa using hi);rwa [show k+(i+1)=k+1+i by omega] at this
theorem ER {f:Nat→Nat} {H:HM} (hinj:∀ i j,f i=f j→i=j):∀ (M:List HO) (k i:Nat),i<M.length→aj M i=none→iB f M k H (f (k+i))=none
 | [],_,_,h,_=>by simp at h
 | x::r,k,0,_,h=>by
  simp only [aj] at h
  have:lv (x.re f)=none:=by cases x<;>simp [lv,HO.re] at h ⊢
  simp [iB,cG,this]
 | x::r,k,i+1,hl,h=>by
  have:=ER (H:=H) hinj r (k+1) i (by simpa using hl) h
  have hne:f (k+(i+1))≠f k:=fun e=>by have:=hinj _ _ e;omega
  simp only [iB,cG,hne,if_false]
  rw [show k+(i+1)=k+1+i by omega];exact this
theorem AX:∀ (M:List HO) (i:Nat) (o:HO),aj M i=some o→i<M.length
 | [],_,_,h=>by simp [aj] at h
 | x::r,0,_,_=>by simp
 | x::r,i+1,o,h=>by have:=AX r i o h;simp;omega
def lM (out:Out) (H:HM) (n:Nat):Out→HM→Nat→Prop:=fun out' H' n'=>out'=out∧H'=H∧n'=n
def Out.re (f:Nat→Nat):Out→Out
 | .ret p=> .ret (p.re f)
 | .m7 p=> .m7 (p.re f)
def lg (F:List Nat) (n nx i:Nat):Nat:=if i<n then F.getD i 0 else nx+(i-n)
theorem I4 {H:HM} {nx:Nat} {M M':List HO} (F:List Nat) (hF:F.length=M.length) (hd:F.Nodup) (hH:EP (kY F nx) H M 0) (hle:M.length≤M'.length)
  {m:Mem} {ρ:di} {w:World} (V:ew (fun _=>True) m ρ w H) (hn:∀ i,nx≤i→H i=none) (hρ:∀ i,nx≤i→ρ i=none):
  (ew (fun _=>True) m (fun i=>ρ (kY F nx i)) w (aj M)∧(∀ i,M.length≤i→aj M i=none)∧∀ i,M.length≤i→ρ (kY F nx i)=none)∧
  ∀ (m':Mem) (ρ':di) (w':World),ew (fun _=>True) m' ρ' w' (aj M')→(∀ i,M'.length≤i→ρ' i=none)→nN M.length m (fun i=>ρ (kY F nx i)) w (aj M) M'.length m' ρ' w' (aj M')→
   ∃ kO:di,ew (fun _=>True) m' kO w' (iB (lg F M.length nx) M' 0 H)∧(∀ i,nx+(M'.length-M.length)≤i→iB (lg F M.length nx) M' 0 H i=none)∧(∀ i,nx+(M'.length-M.length)≤i→kO i=none)∧
    nN nx m ρ w H (nx+(M'.length-M.length)) m' kO w' (iB (lg F M.length nx) M' 0 H)∧∀ p v,aN m' ρ' p v→aN m' kO (p.re (lg F M.length nx)) v:=by
 have Fo:∀ i,i<M.length→∃ x,F[i]? =some x∧kY F nx i=x∧lg F M.length nx i=x:=by
  intro i hi
  refine ⟨F[i]'(by omega),List.getElem?_eq_getElem (by omega),?_,?_⟩
  ·unfold kY;rw [List.getD_eq_getElem?_getD,List.getElem?_eq_getElem (by omega)];rfl
  ·unfold lg;rw [if_pos hi,List.getD_eq_getElem?_getD,List.getElem?_eq_getElem (by omega)];rfl
 have D3:∀ i o,aj M i=some o→i<M.length∧H (kY F nx i)=some (o.re (kY F nx)):=by
  intro i o h
  have:=Gk M 0 i o hH h
  rw [Nat.zero_add] at this
  exact this
 have hne:∀ i,aj M i≠none→i<M.length∧H (kY F nx i)≠none:=by
  intro i h
  cases hh:aj M i with
  | none=>exact absurd hh h
  | some o=>have:=D3 i o hh;exact ⟨this.1,by rw [this.2];simp⟩
 have Pd:∀ i,i<M.length→kY F nx i<nx:=by
  intro i hi
  have:=IU M 0 i M[i] hH (List.getElem?_eq_getElem hi)
  rw [Nat.zero_add] at this
  rcases Nat.lt_or_ge (kY F nx i) nx with h | h
  ·exact h
  ·rw [hn _ h] at this;cases this
 have RW:∀ i j,i<M.length→j<M.length→kY F nx i=kY F nx j→i=j:=by
  intro i j hi hj e
  obtain ⟨x,hx,ex,_⟩:=Fo i hi
  obtain ⟨y,hy,ey,_⟩:=Fo j hj
  rw [ex,ey] at e
  subst e
  obtain ⟨l1,e1⟩:=List.getElem?_eq_some_iff.1 hx
  obtain ⟨l2,e2⟩:=List.getElem?_eq_some_iff.1 hy
  exact (List.getElem_inj hd).1 (e1.trans e2.symm)
 have hinj:∀ i j,lg F M.length nx i=lg F M.length nx j→i=j:=by
  intro i j e
  by_cases hi:i<M.length<;>by_cases hj:j<M.length
  ·obtain ⟨x,_,ex,ex'⟩:=Fo i hi
   obtain ⟨y,_,ey,ey'⟩:=Fo j hj
   exact RW i j hi hj (by rw [ex,ey, ← ex', ← ey',e])
  ·have h1:=Pd i hi
   obtain ⟨x,_,ex,ex'⟩:=Fo i hi
   rw [ex', ← ex] at e
   unfold lg at e;rw [if_neg hj] at e;omega
  ·have h1:=Pd j hj
   obtain ⟨x,_,ex,ex'⟩:=Fo j hj
   rw [ex', ← ex] at e
   unfold lg at e;rw [if_neg hi] at e;omega
  ·unfold lg at e;rw [if_neg hi,if_neg hj] at e;omega
 have Gl:∀ i,M.length≤i→ρ (kY F nx i)=none:=by
  intro i hi
  have:kY F nx i=nx+i:=by
   unfold kY
   rw [List.getD_eq_getElem?_getD,List.getElem?_eq_none (by omega)];rfl
  rw [this]
  exact hρ _ (Nat.le_add_right _ _)
 have Vs:ew (fun _=>True) m (fun i=>ρ (kY F nx i)) w (aj M):=by
  refine ⟨V.mem,?_,?_⟩
  ·intro i o _ ho
   exact gU.re rfl (fun p v h=>aN.re p v h) (V.entry _ _ trivial (D3 i o ho).2)
  ·intro i j c d d' _ _ hi hj fY jR
   have h1:=hne i hi
   have h2:=hne j hj
   exact RW i j h1.1 h2.1 (V.apart _ _ _ _ _ trivial trivial h1.2 h2.2 fY jR)
 have Gv:∀ i,M.length≤i→aj M i=none:=by
  intro i hi
  cases hh:aj M i with
  | none=>rfl
  | some o=>have:=AX M i o hh;omega
 refine ⟨⟨Vs,Gv,Gl⟩,?_⟩
 intro m' ρ' w' V' Ls hA
 let kO:di:=fun i=>if i<nx then ρ i else ρ' (M.length+(i-nx))
 have Lt:∀ i,kO (lg F M.length nx i)=ρ' i:=by
  intro i
  by_cases hi:i<M.length
  ·obtain ⟨x,_,ex,ex'⟩:=Fo i hi
   have h1:=Pd i hi
   show (if _ then _ else _)=_
   rw [ex', ← ex,if_pos h1,hA.old i hi]
  ·show (if _ then _ else _)=_
   unfold lg
   rw [if_neg hi,if_neg (by omega)]
   congr 1;omega
 have Wp:ρ.le kO:=by
  intro i x hx
  show (if _ then _ else _)=_
  rcases Nat.lt_or_ge i nx with h | h
  ·rw [if_pos h];exact hx
  ·rw [hρ i h] at hx;cases hx
 have hold:∀ i,i<nx→kO i=ρ i:=fun i hi=>by show (if _ then _ else _)=_;rw [if_pos hi]
 have hin:∀ i o,aj M' i=some o→iB (lg F M.length nx) M' 0 H (lg F M.length nx i)=some (o.re (lg F M.length nx)):=by
  intro i o ho
  have:=I3 (H:=H) hinj M' 0 i o ho
  rwa [Nat.zero_add] at this
 have Kj:∀ j,(∃ i o,aj M' i=some o∧j=lg F M.length nx i)∨iB (lg F M.length nx) M' 0 H j=none∨((∀ i,i<M'.length→j≠lg F M.length nx i)∧iB (lg F M.length nx) M' 0 H j=H j):=by
  intro j
  by_cases h:∃ i,i<M'.length∧j=lg F M.length nx i
  ·obtain ⟨i,hi,e⟩:=h
   cases ho:aj M' i with
   | some o=>exact .inl ⟨i,o,ho,e⟩
   | none=>exact .inr (.inl (by have:=ER (H:=H) hinj M' 0 i hi ho;rw [Nat.zero_add] at this;rw [e];exact this))
  ·have h':∀ i,i<M'.length→j≠lg F M.length nx i:=fun i hi e=>h ⟨i,hi,e⟩
   exact .inr (.inr ⟨h',Gu M' 0 (fun i hi=>by rw [Nat.zero_add];exact h' i hi)⟩)
 have hout:∀ j b c,(∀ i,i<M'.length→j≠lg F M.length nx i)→H j≠none→ρ j=some (b,c)→¬ xw (fun i=>ρ (kY F nx i)) (aj M) (fun _=>True) b:=by
  rintro j b c hj hjn hr ⟨i,d,_,hl,fY⟩
  have h1:=hne i hl
  have:=V.apart j _ _ _ _ trivial trivial hjn h1.2 hr fY
  obtain ⟨x,_,ex,ex'⟩:=Fo i h1.1
  exact hj i (by omega) (by rw [this,ex,ex'])
 have hlt:∀ j b c,H j≠none→ρ j=some (b,c)→b<w.heap.size:=by
  intro j b c hj hr
  cases hh:H j with
  | none=>exact absurd hh hj
  | some o=>exact (V.entry j o trivial hh).oC hr
 have Lu:∀ j,H j≠none→j<nx:=by
  intro j hj
  rcases Nat.lt_or_ge j nx with h | h
  ·exact h
  ·exact absurd (hn j h) hj
 have Vb:ew (fun _=>True) m' kO w' (iB (lg F M.length nx) M' 0 H):=by
  refine ⟨V'.mem,?_,?_⟩
  ·intro j o _ ho
   rcases Kj j with ⟨i,o',ho',rfl⟩ | Ig | ⟨hj,e⟩
   ·rw [hin i o' ho'] at ho
    cases ho
    exact gU.uo Lt (V'.entry i o' trivial ho')
   ·rw [Ig] at ho;cases ho
   ·rw [e] at ho
    have hjn:H j≠none:=by rw [ho];simp
    refine (V.entry j o trivial ho).move hA.ext.mem Wp (hold j (Lu j hjn)) (fun b' c hr=>?_) (fun b' c hr o' v e'=>?_)
    ·exact hA.ext.block b' (hlt j b' c hjn hr) (hout j b' c hj hjn hr)
    ·rcases hA.ext.new b' o' v e' with h1 | h1 | h1
     ·exact h1
     ·exact absurd h1 (hout j b' c hj hjn hr)
     ·have:=hlt j b' c hjn hr;omega
  ·intro i j b' c c' _ _ hi hj fY jR
   have RY:∀ i j c c',(∃ p o,aj M' p=some o∧i=lg F M.length nx p)→((∀ q,q<M'.length→j≠lg F M.length nx q)∧iB (lg F M.length nx) M' 0 H j=H j)→iB (lg F M.length nx) M' 0 H j≠none→kO i=some (b',c)→kO j=some (b',c')→False:=by
    rintro i j c c' ⟨p,o,ho,rfl⟩ ⟨hj,e⟩ hjn fY jR
    rw [e] at hjn
    rw [hold j (Lu j hjn)] at jR
    rw [Lt] at fY
    rcases hA.place b' ⟨p,c,trivial,by rw [ho];simp,fY⟩ with h1 | h1
    ·exact hout j b' c' hj hjn jR h1
    ·have:=hlt j b' c' hjn jR;omega
   have YD:∀ j,iB (lg F M.length nx) M' 0 H j≠none→(∃ i o,aj M' i=some o∧j=lg F M.length nx i)∨((∀ i,i<M'.length→j≠lg F M.length nx i)∧iB (lg F M.length nx) M' 0 H j=H j):=fun j hj=>(Kj j).elim .inl (fun h=>h.elim (fun h=>absurd h hj) .inr)
   rcases YD i hi with RZ | RZ<;>rcases YD j hj with R0 | R0
   ·obtain ⟨p,o,ho,rfl⟩:=RZ
    obtain ⟨q,o',ho',rfl⟩:=R0
    rw [Lt] at fY jR
    rw [V'.apart p q _ _ _ trivial trivial (by rw [ho];simp) (by rw [ho'];simp) fY jR]
   ·exact (RY i j c c' RZ R0 hj fY jR).elim
   ·exact (RY j i c' c R0 RZ hi jR fY).elim
   ·rw [RZ.2] at hi
    rw [R0.2] at hj
    rw [hold i (Lu i hi)] at fY
    rw [hold j (Lu j hj)] at jR
    exact V.apart i j b' c c' trivial trivial hi hj fY jR
 refine ⟨kO,Vb,?_,?_,⟨hA.ext.mono ?_,Wp,?_,by omega,hold⟩,fun p v h=>aN.uo Lt p v h⟩
 ·intro j hj
  rcases Kj j with ⟨i,o,ho,rfl⟩ | Ig | ⟨_,e⟩
  rotate_left
  ·exact Ig
  rotate_left
  ·have h1:=AX M' i o ho
   unfold lg at hj
   split at hj
   ·rename_i h2
    obtain ⟨x,hx,ex,ex'⟩:=Fo i h2
    have h3:=Pd i h2
    have:F.getD i 0=x:=by rw [List.getD_eq_getElem?_getD,hx];rfl
    rw [this, ← ex] at hj;omega
   ·omega
  ·rw [e];exact hn j (by omega)
 ·intro j hj
  show (if _ then _ else _)=_
  rw [if_neg (by omega)]
  exact Ls _ (by omega)
 ·rintro b' ⟨i,c,_,hl,fY⟩
  exact ⟨kY F nx i,c,trivial,(hne i hl).2,fY⟩
 ·rintro b' ⟨j,c,_,hl,jR⟩
  rcases Kj j with ⟨i,o,ho,rfl⟩ | Ig | ⟨_,e⟩
  rotate_left
  ·exact absurd Ig hl
  rotate_left
  ·rw [Lt] at jR
   rcases hA.place b' ⟨i,c,trivial,by rw [ho];simp,jR⟩ with ⟨p,c',_,hl',hp⟩ | h1
   ·exact .inl ⟨kY F nx p,c',trivial,(hne p hl').2,hp⟩
   ·exact .inr h1
  ·rw [e] at hl
   rw [hold j (Lu j hl)] at jR
   exact .inl ⟨j,c,trivial,hl,jR⟩
theorem ES {H:HM} {nx:Nat} {f:Nat} {args:List PV} {M M':List HO} {out:Out} (F:List Nat) (hS:Spec P f args (aj M) M.length (lM out (aj M') M'.length))
  (hF:F.length=M.length) (hd:F.Nodup) (hH:EP (kY F nx) H M 0) (hle:M.length≤M'.length):
  ∀ (m:Mem) (ρ:di) (w:World) (vs:List Value),ew (fun _=>True) m ρ w H→(∀ i,nx≤i→H i=none)→(∀ i,nx≤i→ρ i=none)→bN m ρ (PV.res (kY F nx) args) vs→
   Calls P f ⟨vs⟩ w fun e w'=>∃ m' ρ',ew (fun _=>True) m' ρ' w' (iB (lg F M.length nx) M' 0 H)∧(∀ i,nx+(M'.length-M.length)≤i→iB (lg F M.length nx) M' 0 H i=none)∧(∀ i,nx+(M'.length-M.length)≤i→ρ' i=none)∧
    nN nx m ρ w H (nx+(M'.length-M.length)) m' ρ' w' (iB (lg F M.length nx) M' 0 H)∧RE m' ρ' (out.re (lg F M.length nx)) e:=by
 intro m ρ w vs V hn hρ hr
 obtain ⟨⟨Vs,Gv,Gl⟩,tr⟩:=I4 (M':=M') F hF hd hH hle V hn hρ
 refine (hS m (fun i=>ρ (kY F nx i)) w vs Vs Gv Gl (bN.re args vs hr)).mono ?_
 rintro e w' ⟨out',H',cO,m',ρ',⟨rfl,rfl,rfl⟩,V',hn',Ls,hA,Ip⟩
 obtain ⟨kO,h1,h2,h3,h4,h5⟩:=tr m' ρ' w' V' Ls hA
 refine ⟨m',kO,h1,h2,h3,h4,?_⟩
 cases out' with
 | ret p=>obtain ⟨v,rfl,hv⟩:=Ip;exact ⟨v,rfl,h5 p v hv⟩
 | m7 p=>obtain ⟨v,rfl,hv⟩:=Ip;exact ⟨v,rfl,h5 p v hv⟩
section
variable {ops:Array Oper} {o:Oper} {r:List Oper} {S:Nat→PV} {H:HM} {nx:Nat} {df:List (Nat×List PV)} {Q:PX→St→Prop}
theorem b8 {c:Call} {f:Nat} {args:List PV} {M M':List HO} {out:Out} (F:List Nat) (ho:o.op= .call c) (hc:c.callee= .value (.func f)) (he:aP P f=true) (hS:Spec P f args (aj M) M.length (lM out (aj M') M'.length))
  (ha:c.args.toList.map (aB S)=PV.res (kY F nx) args) (hF:F.length=M.length) (hd:F.Nodup) (hH:EP (kY F nx) H M 0) (hle:M.length≤M'.length):
  DW P o ⟨S,H,nx,df⟩ fun out' H' cO=>out'=out.re (lg F M.length nx)∧H'=iB (lg F M.length nx) M' 0 H∧cO=nx+(M'.length-M.length):=by
 intro m ρ a w K Q V hn hρ hx h1 h2
 have hx':∀ x∈c.args.toList,aN m ρ (aB S x) (a.eval x):=fun x hx'=>hx x (by simp only [ho,Op.operands,Call.operands];simp only [Array.mem_append];exact .inr (by simpa using hx'))
 unfold Oper.wp
 rw [rK ho hc he,Oper.upon_enter]
 have hr:=rI (s:=⟨S,H,nx,df⟩) c.args.toList hx'
 have hr':bN m ρ (PV.res (kY F nx) args) (c.args.toList.map a.eval):=ha▸hr
 have:=ES F hS hF hd hH hle m ρ w _ V hn hρ hr'
 have e:(⟨c.args.toList.map a.eval⟩:Array Value)=c.args.map a.eval:=by apply Array.ext';simp
 rw [e] at this
 refine this.mono ?_
 rintro e w' ⟨m',ρ',V',hn',hr',hA,Ip⟩
 cases out with
 | ret p=>obtain ⟨v,rfl,hv⟩:=Ip;exact h1 _ _ _ m' ρ' w' v ⟨rfl,rfl,rfl⟩ V' hn' hr' hA hv
 | m7 p=>obtain ⟨v,rfl,hv⟩:=Ip;exact h2 _ _ _ m' ρ' w' v ⟨rfl,rfl,rfl⟩ V' hn' hr' hA hv
theorem Lv {c:Call} {f t:Nat} {args caps:List PV} {M M':List HO} {out:Out} (F:List Nat) (ho:o.op= .call c) (hc:c.callee= .value (.tmp t)) (ht:S t= .gT f caps) (he:aP P f=true) (hS:Spec P f args (aj M) M.length (lM out (aj M') M'.length))
  (ha:c.args.toList.map (aB S)++caps=PV.res (kY F nx) args) (hF:F.length=M.length) (hd:F.Nodup) (hH:EP (kY F nx) H M 0) (hle:M.length≤M'.length):
  DW P o ⟨S,H,nx,df⟩ fun out' H' cO=>out'=out.re (lg F M.length nx)∧H'=iB (lg F M.length nx) M' 0 H∧cO=nx+(M'.length-M.length):=by
 intro m ρ a w K Q V hn hρ hx h1 h2
 have hx':∀ x∈c.args.toList,aN m ρ (aB S x) (a.eval x):=fun x hx'=>hx x (by simp only [ho,Op.operands,Call.operands];simp only [Array.mem_append];exact .inr (by simpa using hx'))
 have h0:=hx (.tmp t) (by simp [ho,Op.operands,Call.operands,hc])
 have Kk:aN m ρ (.gT f caps) (a.eval (.tmp t)):=ht▸h0
 simp only [aN] at Kk
 obtain ⟨cs,WO,hcs⟩:=Kk
 unfold Oper.wp
 rw [BD ho hc WO he,Oper.upon_enter]
 have hr:=uR (rI (s:=⟨S,H,nx,df⟩) c.args.toList hx') hcs
 have hr':bN m ρ (PV.res (kY F nx) args) (c.args.toList.map a.eval++cs):=ha▸hr
 have:=ES F hS hF hd hH hle m ρ w _ V hn hρ hr'
 have e:(⟨c.args.toList.map a.eval++cs⟩:Array Value)=c.args.map a.eval++⟨cs⟩:=by apply Array.ext';simp
 rw [e] at this
 refine this.mono ?_
 rintro e w' ⟨m',ρ',V',hn',hr',hA,Ip⟩
 cases out with
 | ret p=>obtain ⟨v,rfl,hv⟩:=Ip;exact h1 _ _ _ m' ρ' w' v ⟨rfl,rfl,rfl⟩ V' hn' hr' hA hv
 | m7 p=>obtain ⟨v,rfl,hv⟩:=Ip;exact h2 _ _ _ m' ρ' w' v ⟨rfl,rfl,rfl⟩ V' hn' hr' hA hv
theorem XK.fr {out:Out} {H2:HM} {mG n:Nat} {p:PV} (d:Option Nat) (hd:o.dst=d) (hg:o.guard=none) {f:Nat→Nat} {M':List HO} (h:DW P o ⟨S,H,nx,df⟩ fun out' H' cO=>out'=out.re f∧H'=iB f M' 0 H∧cO=nx+n)
  (ho:out.re f= .ret p) (hH:iB f M' 0 H=H2) (hn:nx+n=mG) (k:XK P ops r ⟨fk S d p,H2,mG,df⟩ Q):XK P ops (o::r) ⟨S,H,nx,df⟩ Q:=by
 subst hd hH hn
 refine fun gP=> .call hg h ?_ ?_
 ·rintro p' H' cO ⟨e,rfl,rfl⟩ hn'
  rw [ho] at e
  cases e
  exact k hn'
 ·rintro p' H' cO ⟨e,rfl,rfl⟩
  rw [ho] at e
  cases e
theorem XK.fp {out:Out} {H2:HM} {mG n:Nat} {p:PV} (hg:o.guard=none) {f:Nat→Nat} {M':List HO} (h:DW P o ⟨S,H,nx,df⟩ fun out' H' cO=>out'=out.re f∧H'=iB f M' 0 H∧cO=nx+n)
  (ho:out.re f= .m7 p) (hH:iB f M' 0 H=H2) (hn:nx+n=mG) (k:Q (.panic p) ⟨S,H2,mG,df⟩):XK P ops (o::r) ⟨S,H,nx,df⟩ Q:=by
 subst hH hn
 refine fun gP=> .call hg h ?_ ?_
 ·rintro p' H' cO ⟨e,rfl,rfl⟩ hn'
  rw [ho] at e
  cases e
 ·rintro p' H' cO ⟨e,rfl,rfl⟩
  rw [ho] at e
  cases e
  exact k
theorem XK.panic {x:Operand} {t:TypeId} {y:D} (hg:o.guard=none) (ho:o.op= .panic x) (hx:aB S x= .d (.iface t y)) (k:Q (.panic (.d (.iface t y))) ⟨S,H,nx,df⟩):XK P ops (o::r) ⟨S,H,nx,df⟩ Q:=by
 refine fun gP=> .call (post:=fun out' H' cO=>out'= .m7 (.d (.iface t y))∧H'=H∧cO=nx) hg ?_ ?_ ?_
 ·intro m ρ a w K Q V hn hρ hxs h1 h2
  have h0:=hxs x (by simp [ho,Op.operands])
  have Kk:aN m ρ (.d (.iface t y)) (a.eval x):=hx▸h0
  have YE:=Kk
  simp only [aN,bg] at Kk
  obtain ⟨u,hv,_⟩:=Kk
  unfold Oper.wp
  have hrun:(execOp a.eval o).run P w= .halt (.panic (.iface t u)) w:=by
   obtain ⟨dst,op,type,pos,after,guard⟩:=o
   simp only at ho
   subst ho
   simp only [execOp,hv]
   rfl
  rw [hrun,Oper.upon_panic]
  exact h2 _ _ _ m ρ w _ ⟨rfl,rfl,rfl⟩ V hn hρ (nN.refl _ _ _ _ _) (hv▸YE)
 ·rintro p' H' cO ⟨e,rfl,rfl⟩ hn';cases e
 ·rintro p' H' cO ⟨e,rfl,rfl⟩;cases e;exact k
variable {eI:List Nat} {k:PV→HM→Nat→List Nat→List Nat→Prop}
theorem AY {t:TypeId} {x:Operand} {y:D} (ho:o.op= .makeInterface t x) (hx:(aB S x).dj=some y) (ht:vq P t=true) (hk:k (.d (.iface t y)) H nx [] []):aT P eI o ⟨S,H,nx,df⟩ k:=by
 unfold aT;rw [ho];simp only [jB,hx];exact ⟨ht,hk⟩
end
def Gw:List PV→Nat→List (Nat×PV)
 | [],_=>[]
 | x::r,i=>(i,x)::Gw r (i+1)
theorem Lw:∀ (l:List PV) (i t:Nat),aG (Gw l i) (i+t)=mT l t
 | [],_,_=>by simp [Gw,aG,mT]
 | x::r,i,0=>by simp [Gw,aG,mT]
 | x::r,i,t+1=>by
  have:=Lw r (i+1) t
  unfold Gw aG
  rw [if_neg (by simp only;omega),show i+(t+1)=i+1+t by omega,this]
  simp [mT]
theorem View.mT {args:List PV} {L:List (Nat×PV)} {M:List HO} {n:Nat} (hb:b≤n) (h:L=Gw args 0):View N b ⟨K.mT args,aj M,n,[]⟩ ⟨aG L,aj M,n,[]⟩:=by
 subst h
 have e1:aG (Gw args 0)=K.mT args:=by funext t;have:=Lw args 0 t;rwa [Nat.zero_add] at this
 rw [e1]
 exact View.refl hb
theorem NA {m:Mem} {ρ:di} {p q:PV} (h:iH p q):∀ (l:List PV) (vs:List Value) (j:Nat),l[j]? =some p→bN m ρ l vs→bN m ρ (l.set j q) vs:=D1 (h m ρ)
theorem View.R1 {s:St} {l:List PV} {p:PV} {x:D} (id j:Nat) (hH:s.H id=some (.var l)) (hj:l[j]? =some p) (hp:p.dj=some x) (hb:b≤s.nx):
  View N b s ⟨s.S,cG s.H id (some (.var (l.set j (.d x)))),s.nx,s.df⟩:=by
 refine View.of hb fun m ρ a w hI=>?_
 have live:∀ k,cG s.H id (some (.var (l.set j (.d x)))) k≠none→s.H k≠none:=by
  intro k
  simp only [cG]
  split
  ·rename_i e;intro _;rw [e,hH];simp
  ·exact fun h=>h
 refine ⟨ρ,⟨hI.size,hI.defers,hI.slots,⟨hI.valid.mem,fun i o _ uk=>?_,fun i j b c c' _ _ hi hj fY jR=>?_⟩,fun i hi=>?_,hI.n5⟩,?_,fun _ _=>rfl⟩
 ·by_cases e2:i=id
  ·subst e2
   simp only [cG,if_true,Option.some.injEq] at uk
   subst uk
   rcases hI.valid.entry i _ trivial hH with ⟨e0,_⟩ | ⟨b,c,vs,tail,t,e1,e2,e3,e5,e4⟩
   ·rw [e0] at hj;cases hj
   exact .inr ⟨b,c,vs,tail,t,e1,e2,NA (iH.dj hp) _ _ _ hj e3,e5,e4⟩
  ·simp only [cG,e2,if_false] at uk
   exact hI.valid.entry i o trivial uk
 ·exact hI.valid.apart i j b c c' trivial trivial (live i hi) (live j hj) fY jR
 ·have e2:i≠id:=by
   intro e;subst e
   have h1:s.nx≤i:=hi
   rw [hI.gP i h1] at hH;cases hH
  simp only [cG,e2,if_false]
  exact hI.gP i hi
 ·rintro b' ⟨i,c,_,hl,fY⟩
  exact ⟨i,c,trivial,live i hl,fY⟩
def Ca (P:Program) (rs:List ResultVar) (N b:Nat) (post:Out→HM→Nat→Prop) (px:PX) (s:St):Prop:=
 ∃ s',View N b s s'∧WQ P rs post px s'∧∀ p,px= .panic p→∃ x,p= .d x
theorem Ca.none {s s':St} {px:PX} {H:HM} {n:Nat} (hp:px= .normal∨px= .ret) (hv:View N b s s') (hd:s'.df=[]) (hH:s'.H=H) (hn:s'.nx=n):Ca P [] N b (lM (.ret (.tuple [])) H n) px s:=by
 refine ⟨s',hv,?_,fun p e=>?_⟩
 ·rcases hp with rfl | rfl
  ·exact ⟨hd,by simp [oI],s'.H,fun _=> .inr rfl,rfl,hH,hn⟩
  ·exact ⟨hd,by simp [oI],s'.H,fun _=> .inr rfl,rfl,hH,hn⟩
 ·rcases hp with rfl | rfl<;>cases e
mutual
def PV.bP (n:Nat):PV→Bool
 | .d _=>true
 | .full _=>true
 | .own id _=>decide (id<n)
 | .aF id _=>decide (id<n)
 | .gD id _ _=>decide (id<n)
 | .room id _=>decide (id<n)
 | .gT _ l=>PV.bz n l
 | .agg l=>PV.bz n l
 | .tuple l=>PV.bz n l
 | .cond _ p=>PV.bP n p
 | .dO=>true
def PV.bz (n:Nat):List PV→Bool
 | []=>true
 | x::r=>PV.bP n x&&PV.bz n r
end
theorem cD (n:Nat):∀ l:List D,PV.bz n (l.map .d)=true
 | []=>rfl
 | x::r=>by simp [PV.bz,PV.bP,cD n r]
mutual
theorem aN.bP {m:Mem} {ρ kO:di} {n:Nat} (h:∀ i,i<n→kO i=ρ i):∀ (p:PV) (v:Value),p.bP n=true→aN m ρ p v→aN m kO p v
 | .d x,v,_,e=>by simpa [aN] using e
 | .full l,v,_,e=>by simpa [aN] using e
 | .own id l,v,b,e=>by
  simp only [PV.bP,decide_eq_true_eq] at b
  simp only [aN] at e ⊢
  rw [h id b];exact e
 | .aF id off,v,b,e=>by
  simp only [PV.bP,decide_eq_true_eq] at b
  simp only [aN] at e ⊢
  rw [h id b];exact e
 | .gD id off n',v,b,e=>by
  simp only [PV.bP,decide_eq_true_eq] at b
  simp only [aN] at e ⊢
  rw [h id b];exact e
 | .room id n',v,b,e=>by
  simp only [PV.bP,decide_eq_true_eq] at b
  simp only [aN] at e ⊢
  rw [h id b];exact e
 | .gT g l,v,b,e=>by
  simp only [PV.bP] at b
  simp only [aN] at e ⊢
  obtain ⟨vs,e1,e2⟩:=e
  exact ⟨vs,e1,bN.bP h l vs b e2⟩
 | .agg l,v,b,e=>by
  simp only [PV.bP] at b
  simp only [aN] at e ⊢
  obtain ⟨vs,e1,e2,e3⟩:=e
  exact ⟨vs,e1,bN.bP h l vs b e2,e3⟩
 | .tuple l,v,b,e=>by
  simp only [PV.bP] at b
  simp only [aN] at e ⊢
  obtain ⟨vs,e1,e2⟩:=e
  exact ⟨vs,e1,bN.bP h l vs b e2⟩
 | .cond g p,v,b,e=>by
  simp only [PV.bP] at b
  simp only [aN] at e ⊢
  exact ⟨fun hg=>aN.bP h p v b (e.1 hg),e.2⟩
 | .dO,v,_,e=>by simp [aN]
theorem bN.bP {m:Mem} {ρ kO:di} {n:Nat} (h:∀ i,i<n→kO i=ρ i):∀ (l:List PV) (vs:List Value),PV.bz n l=true→bN m ρ l vs→bN m kO l vs
 | [],vs,_,e=>by simpa [bN] using e
 | x::r,vs,b,e=>by
  simp only [PV.bz,Bool.and_eq_true] at b
  simp only [bN] at e ⊢
  obtain ⟨v,vr,e1,e2,e3⟩:=e
  exact ⟨v,vr,e1,aN.bP h x v b.1 e2,bN.bP h r vr b.2 e3⟩
end
def HO.bP (n:Nat):HO→Bool
 | .var l=>PV.bz n l
 | .spare _ _=>true
 | .dead=>true
 | .BV _ l=>PV.bz n l
def HO.bz (n:Nat):List HO→Bool
 | []=>true
 | x::r=>HO.bP n x&&HO.bz n r
theorem HO.Gx {n:Nat}:∀ {M:List HO} {i:Nat} {o:HO},HO.bz n M=true→aj M i=some o→o.bP n=true
 | [],_,_,_,h=>by simp [aj] at h
 | x::r,0,o,hb,h=>by
  simp only [HO.bz,Bool.and_eq_true] at hb
  simp only [aj] at h
  have e:=C6 h
  subst e;exact hb.1
 | x::r,i+1,o,hb,h=>by
  simp only [HO.bz,Bool.and_eq_true] at hb
  exact HO.Gx hb.2 h
theorem dX:∀ (M E:List HO) (i:Nat),i<M.length→aj (M++E) i=aj M i
 | [],_,_,h=>by simp at h
 | x::r,E,0,_=>rfl
 | x::r,E,i+1,h=>dX r E i (by simpa using h)
def gh (P:Program) (rs:List ResultVar) (N b n:Nat) (M':List HO) (out:Out) (px:PX) (s:St):Prop:=
 ∃ s',View N b s s'∧s'.df=[]∧n≤s'.nx∧(∀ i,i<n→s'.H i=aj M' i)∧M'.length=n∧HO.bz n M'=true∧
 match px with
 | .normal | .ret=>(oI P rs s').2∧out= .ret (oI P rs s').1∧(oI P rs s').1.bP n=true
 | .panic p=>(∃ x,p= .d x)∧out= .m7 p
 | .exit _=>False
theorem Spec.qZ {f:Nat} {fn:Func} {c:Code} {args:List PV} {M M':List HO} {nx n:Nat} {out:Out} (hf:P.funcs[f]? =some fn) (hb:fn.body=some c) (hN:args.length≤fn.ntmps) (hle:nx≤n)
  (h:QW P fn.ntmps nx c ⟨mT args,aj M,nx,[]⟩ (gh P fn.results.toList fn.ntmps nx n M' out)):Spec P f args (aj M) nx (lM out (aj M') n):=by
 refine fun m ρ w vs V hn hρ hr=>?_
 refine calls_of_wp hf hb (wp_mono (h.2 m ρ _ w (B8 V hn hρ hr hN)) ?_)
 rintro e a w' ⟨px,s,m',ρ',⟨s',hv,hdf,hnx,hH,hlen,YF,hpost⟩,sB,hI,Ug⟩
 obtain ⟨m2,kO,zO,D2⟩:=hv m' ρ' a w' hI
 have hA:=(Ug.trans D2).Ny hρ
 have hd:=zO.defers
 rw [hdf] at hd
 let NB:di:=fun i=>if i<n then kO i else none
 have h3:∀ i,i<n→NB i=kO i:=fun i hi=>by show (if _ then _ else _)=_;rw [if_pos hi]
 have WY:∀ i,n≤i→NB i=none:=fun i hi=>by show (if _ then _ else _)=_;rw [if_neg (by omega)]
 have hlt:∀ i o,aj M' i=some o→i<n:=fun i o ho=>hlen▸AX M' i o ho
 have sub:∀ i,aj M' i≠none→i<n∧s'.H i≠none:=by
  intro i hi
  cases hh:aj M' i with
  | none=>exact absurd hh hi
  | some o=>have h1:=hlt i o hh;exact ⟨h1,by rw [hH i h1,hh];simp⟩
 have V3:ew (fun _=>True) m2 NB w' (aj M'):=by
  refine ⟨zO.valid.mem,fun i o _ ho=>?_,fun i j b' c c' _ _ hi hj fY jR=>?_⟩
  ·have h1:=hlt i o ho
   have hE:=zO.valid.entry i o trivial (by rw [hH i h1,ho])
   have YG:=HO.Gx YF ho
   cases o with
   | var l=>
    simp only [gU] at hE ⊢
    rcases hE with ⟨e0,e⟩ | ⟨b,c,vs,tail,t,e1,e2,e3,e4⟩
    ·exact .inl ⟨e0,by rw [h3 i h1];exact e⟩
    exact .inr ⟨b,c,vs,tail,t,by rw [h3 i h1];exact e1,e2,bN.bP h3 l vs YG e3,e4⟩
   | spare sz k=>
    simp only [gU] at hE ⊢
    rw [h3 i h1];exact hE
   | dead=>exact hE.elim
   | BV sz l=>
    simp only [gU] at hE ⊢
    rcases hE with ⟨e0,e⟩ | ⟨b,c,vs,tail,t,e1,e2,e3,e4⟩
    ·exact .inl ⟨e0,by rw [h3 i h1];exact e⟩
    exact .inr ⟨b,c,vs,tail,t,by rw [h3 i h1];exact e1,e2,bN.bP h3 l vs YG e3,e4⟩
  ·have h1:=sub i hi
   have h2:=sub j hj
   rw [h3 i h1.1] at fY
   rw [h3 j h2.1] at jR
   exact zO.valid.apart i j b' c c' trivial trivial h1.2 h2.2 fY jR
 have WZ:∀ i,n≤i→aj M' i=none:=by
  intro i hi
  cases hh:aj M' i with
  | none=>rfl
  | some o=>have:=hlt i o hh;omega
 have A3:nN nx m ρ w (aj M) n m2 NB w' (aj M'):=by
  refine ⟨hA.ext,fun i x hx=>?_,?_,hle,fun i hi=>?_⟩
  ·rcases Nat.lt_or_ge i nx with h1 | h1
   ·rw [h3 i (by omega)];exact hA.oC i x hx
   ·rw [hρ i h1] at hx;cases hx
  ·rintro b' ⟨i,c,_,hl,fY⟩
   have h1:=sub i hl
   rw [h3 i h1.1] at fY
   exact hA.place b' ⟨i,c,trivial,h1.2,fY⟩
  ·rw [h3 i (by omega)];exact hA.old i hi
 cases px with
 | exit i=>exact hpost.elim
 | normal=>
  obtain ⟨hres,rfl,W0⟩:=hpost
  obtain ⟨v,Rs,iO⟩:=nP (P:=P) zO hres
  simp only [RX] at sB;subst sB
  exact ⟨hd,v,Rs,_,_,_,m2,NB,⟨rfl,rfl,rfl⟩,V3,WZ,WY,A3,v,rfl,aN.bP h3 _ _ W0 iO⟩
 | ret=>
  obtain ⟨hres,rfl,W0⟩:=hpost
  obtain ⟨v,Rs,iO⟩:=nP (P:=P) zO hres
  simp only [RX] at sB;subst sB
  exact ⟨hd,v,Rs,_,_,_,m2,NB,⟨rfl,rfl,rfl⟩,V3,WZ,WY,A3,v,rfl,aN.bP h3 _ _ W0 iO⟩
 | panic p=>
  obtain ⟨v,rfl,Uh⟩:=sB
  obtain ⟨⟨x,rfl⟩,rfl⟩:=hpost
  refine ⟨hd,_,_,_,m2,NB,⟨rfl,rfl,rfl⟩,V3,WZ,WY,A3,v,rfl,?_⟩
  simp only [aN] at Uh ⊢
  exact Uh.mono D2.ext.mem
theorem gh.m7 {rs:List ResultVar} {s s':St} {x:D} {n:Nat} {M':List HO} (hv:View N b s s') (hd:s'.df=[]) (hn:n≤s'.nx) (hH:∀ i,i<n→s'.H i=aj M' i) (hl:M'.length=n) (hb:HO.bz n M'=true):
  gh P rs N b n M' (.m7 (.d x)) (.panic (.d x)) s:=⟨s',hv,hd,hn,hH,hl,hb,⟨x,rfl⟩,rfl⟩
theorem gh.none {s s':St} {px:PX} {n:Nat} {M':List HO} (hp:px= .normal∨px= .ret) (hv:View N b s s') (hd:s'.df=[]) (hn:n≤s'.nx) (hH:∀ i,i<n→s'.H i=aj M' i) (hl:M'.length=n) (hb:HO.bz n M'=true):
  gh P [] N b n M' (.ret (.tuple [])) px s:=by
 refine ⟨s',hv,hd,hn,hH,hl,hb,?_⟩
 rcases hp with rfl | rfl<;>exact ⟨by simp [oI],rfl,rfl⟩
theorem gh.one {s s':St} {r:ResultVar} {p:PV} {px:PX} {n:Nat} {M':List HO} (hp:px= .normal∨px= .ret) (hv:View N b s s') (hd:s'.df=[]) (hn:n≤s'.nx) (hH:∀ i,i<n→s'.H i=aj M' i) (hl:M'.length=n) (hb:HO.bz n M'=true)
  (h:aI P s' r p) (W1:p.bP n=true):gh P [r] N b n M' (.ret p) px s:=by
 refine ⟨s',hv,hd,hn,hH,hl,hb,?_⟩
 obtain ⟨h1,h2⟩:=h
 rcases hp with rfl | rfl<;>exact ⟨h1,congrArg Out.ret h2.symm,by show (og P s' r).1.bP n=true;rw [h2];exact W1⟩
theorem gh.more {s s':St} {r r':ResultVar} {rs:List ResultVar} {ps:List PV} {px:PX} {n:Nat} {M':List HO} (hp:px= .normal∨px= .ret) (hv:View N b s s') (hd:s'.df=[]) (hn:n≤s'.nx) (hH:∀ i,i<n→s'.H i=aj M' i) (hl:M'.length=n) (hb:HO.bz n M'=true)
  (h:uV P s' (r::r'::rs) ps) (W1:PV.bz n ps=true):gh P (r::r'::rs) N b n M' (.ret (.tuple ps)) px s:=by
 refine ⟨s',hv,hd,hn,hH,hl,hb,?_⟩
 have:=uV.spec _ _ h
 have e1:(oI P (r::r'::rs) s').2:=by rw [AV];exact this.2
 have e2:(oI P (r::r'::rs) s').1= .tuple ps:=by rw [AV];show PV.tuple _=_;rw [this.1]
 rcases hp with rfl | rfl<;>exact ⟨e1,congrArg Out.ret e2.symm,by rw [e2];exact W1⟩
end Go.Proofs.YtlfjfoknbjcncaaGreat.K
namespace Go.Proofs.YtlfjfoknbjcncaaGreat.K
open Go Go.RowKit
variable {P:Program} {N b:Nat}
def Da (m:Mem):Option D→FrameMode→Prop
 | none,u=>u= .returning
 | some d,u=>∃ v,bg m d v∧u= .panicking [{v:=v,recovered:=false}]
def x6 (P:Program) (f:Nat) (args:List PV) (M:List HO) (x:Option D) (M':List HO):Prop:=
 ∀ m ρ w vs u,ew (fun _=>True) m ρ w (aj M)→(∀ i,M.length≤i→aj M i=none)→(∀ i,M.length≤i→ρ i=none)→bN m ρ args vs→Da m x u→
  CallsD P f ⟨vs⟩ u w fun e u' w'=>∃ v m' ρ',e= .returned v∧settle u'= .returning∧ew (fun _=>True) m' ρ' w' (aj M')∧(∀ i,M'.length≤i→ρ' i=none)∧nN M.length m ρ w (aj M) M'.length m' ρ' w' (aj M')
def zB:Option D→PV
 | none=> .d (.val .nilIface)
 | some d=> .d d
section
variable {ops:Array Oper} {Q:Exit→Act→List Frame→World→Prop} {i:Nat} {l:List Nat} {a:Act} {cs cs':List Frame} {w:World} {o:Oper} {v:Value}
theorem ET (ho:ops[i]? =some o) (hw:Region.wanted o (yielded ops a.tmps)=true) (hr:(execOp a.eval o).run P w= .ok .recover w) (h:(match recoverD cs with | some x=>x | none=>(.nilIface,cs))=(v,cs'))
  (k:wpOpsS P ops Q l (a.put o.dst v) cs' w):wpOpsS P ops Q (i::l) a cs w:=by
 unfold wpOpsS
 simp only [ho,hw,if_true,hr]
 cases hc:recoverD cs with
 | none=>rw [hc] at h;cases h;exact k
 | some x=>rw [hc] at h;simp only at h;subst h;exact k
theorem Lx (ho:ops[i]? =some o) (hw:Region.wanted o (yielded ops a.tmps)=true) (hr:(execOp a.eval o).run P w= .ok (.value v) w) (k:wpOpsS P ops Q l (a.put o.dst v) cs w):wpOpsS P ops Q (i::l) a cs w:=by
 unfold wpOpsS
 simp only [ho,hw,if_true,hr]
 exact k
end
theorem x6.Ly {fd:Nat} {fn:Func} {id t t2:Nat} {o0 o1:Oper} {rest:Code} {c0:Call} {args:List PV} {M M':List HO} {r:PV} (x:Option D) (hf:P.funcs[fd]? =some fn) (hb:fn.body=some (.seq (.region id #[o0,o1] false) rest))
  (h0:o0.op= .call c0) (hc0:c0.callee= .builtin .recover) (g0:o0.guard=none) (g1:o1.guard=none) (d0:o0.dst=some t) (h1:o1.op= .assign (.tmp t)) (d1:o1.dst=some t2) (ht:t<fn.ntmps) (ht2:t2<fn.ntmps) (hN:args.length≤fn.ntmps)
  (h:QW P fn.ntmps M.length rest ⟨fk (fk (mT args) (some t) (zB x)) (some t2) (zB x),aj M,M.length,[]⟩ (Ca P fn.results.toList fn.ntmps M.length (lM (.ret r) (aj M') M'.length))):x6 P fd args M x M':=by
 intro m ρ w vs u V gP hρ hr hu
 refine callsD_of_wpS hf hb ?_
 intro c₀ cs hm
 have Cb:∀ a:Act,(execOp a.eval o0).run P w= .ok .recover w:=by
  intro a
  obtain ⟨dst,op',type,pos,after,guard⟩:=o0
  simp only at h0
  subst h0
  obtain ⟨callee,W2,argTypes⟩:=c0
  simp only at hc0
  subst hc0
  simp [execOp,resolve,invoke,builtin]
 have W3:∀ a:Act,(execOp a.eval o1).run P w= .ok (.value (a.tmps.getD t undef)) w:=by
  intro a
  obtain ⟨dst,op',type,pos,after,guard⟩:=o1
  simp only at h1
  subst h1
  rfl
 have w0:∀ tm,Region.wanted o0 tm=true:=fun tm=>by unfold Region.wanted;simp only [g0]
 have w1:∀ tm,Region.wanted o1 tm=true:=fun tm=>by unfold Region.wanted;simp only [g1]
 obtain ⟨v,u',R2,hv,BB⟩:∃ v u',(match recoverD (c₀::cs) with | some x=>x | none=>(.nilIface,c₀::cs))=(v,{c₀ with mode:=u'}::cs)∧aN m ρ (zB x) v∧settle u'= .returning:=by
  cases x with
  | none=>
   simp only [Da] at hu
   subst hu
   refine ⟨.nilIface, .returning,?_,by simp [zB,aN,bg],rfl⟩
   have hc:({c₀ with mode:=FrameMode.returning}:Frame)=c₀:=by rw [← hm]
   simp only [recoverD,hm,hc]
  | some d=>
   obtain ⟨v,hv,rfl⟩:=hu
   refine ⟨v, .panicking [{v:=v,recovered:=true}],?_,by simpa [zB,aN] using hv,rfl⟩
   simp only [recoverD,hm]
 refine wpS_seq (wpS_region ?_)
 show wpOpsS P #[o0,o1] _ [0,1] _ _ _
 refine ET (o:=o0) rfl (w0 _) (Cb _) R2 ?_
 refine Lx (o:=o1) rfl (w1 _) (W3 _) ?_
 have hI:=B8 V gP hρ hr hN
 have hsz:({tmps:=(⟨vs⟩:Array Value)++Array.replicate (fn.ntmps-(⟨vs⟩:Array Value).size) undef,defers:=[]}:Act).tmps.size=fn.ntmps:=hI.size
 generalize ({tmps:=(⟨vs⟩:Array Value)++Array.replicate (fn.ntmps-(⟨vs⟩:Array Value).size) undef,defers:=[]}:Act)=a0 at hI hsz
 rw [d0,d1]
 have e1:(a0.put (some t) v).tmps.getD t undef=v:=by
  simp [Act.put,hsz,ht]
 rw [e1]
 have zO:Inv fn.ntmps ⟨fk (fk (mT args) (some t) (zB x)) (some t2) (zB x),aj M,M.length,[]⟩ m ρ ((a0.put (some t) v).put (some t2) v) w:=by
  refine ⟨by simp [Act.put,hsz],by simpa [Act.put] using hI.defers,?_,hI.valid,hI.gP,hI.n5⟩
  exact sQ (N:=fn.ntmps) (a:=a0.put (some t) v) (by simp [Act.put,hsz]) (sQ hsz hI.slots (some t) (fun d hd=>by cases hd;exact ht) hv) (some t2) (fun d hd=>by cases hd;exact ht2) hv
 show Code.wpS P rest _ _ _ _
 refine wpS_of_wp (wp_mono (h.2 m ρ _ w zO) ?_)
 rintro e a' w' ⟨px,s,m',ρ',⟨s',NC,hx,YH⟩,sB,mq,hA⟩
 obtain ⟨m2,kO,Kl,W4⟩:=NC m' ρ' a' w' mq
 have W5:=(hA.trans W4).Ny hρ
 obtain ⟨hdf,hpost⟩:=hx
 have hd:=Kl.defers
 rw [hdf] at hd
 have fin:(oI P fn.results.toList s').2∧(∃ H',(∀ i,H' i=none∨H' i=s'.H i)∧lM (.ret r) (aj M') M'.length (.ret (oI P fn.results.toList s').1) H' s'.nx)→
   a'.defers=[]∧∃ R3,({c₀ with mode:=u'}::cs:List Frame)={c₀ with mode:=R3}::cs∧∃ v,(results fn a'.tmps).run P w'= .ok v w'∧
    ∃ v_1 m' ρ',Ending.returned v= .returned v_1∧settle R3= .returning∧ew (fun _=>True) m' ρ' w' (aj M')∧(∀ i,M'.length≤i→ρ' i=none)∧nN M.length m ρ w (aj M) M'.length m' ρ' w' (aj M'):=by
  rintro ⟨hres,H',hs,Lz,LA,z8⟩
  obtain ⟨vv,R4,iO⟩:=nP (P:=P) Kl hres
  refine ⟨hd,u',rfl,vv,R4,vv,m2,kO,rfl,BB,?_,?_,?_⟩
  ·rw [← LA];exact Kl.valid.sub hs
  ·rw [← z8];exact Kl.n5
  ·rw [← LA, ← z8];exact W5.sub hs
 cases px with
 | normal=>simp only [RX] at sB;subst sB;exact fin hpost
 | ret=>simp only [RX] at sB;subst sB;exact fin hpost
 | exit i=>exact hpost.elim
 | panic p=>
  obtain ⟨H',_,hp,_⟩:=hpost
  cases hp
theorem R5 {H:HM} {nx:Nat} {f:Nat} {args:List PV} {M M':List HO} {x:Option D} (F:List Nat) (hS:x6 P f args M x M')
  (hF:F.length=M.length) (hd:F.Nodup) (hH:EP (kY F nx) H M 0) (hle:M.length≤M'.length):
  ∀ (m:Mem) (ρ:di) (w:World) (vs:List Value) (u:FrameMode),ew (fun _=>True) m ρ w H→(∀ i,nx≤i→H i=none)→(∀ i,nx≤i→ρ i=none)→bN m ρ (PV.res (kY F nx) args) vs→Da m x u→
   CallsD P f ⟨vs⟩ u w fun e u' w'=>∃ v m' ρ',e= .returned v∧settle u'= .returning∧ew (fun _=>True) m' ρ' w' (iB (lg F M.length nx) M' 0 H)∧(∀ i,nx+(M'.length-M.length)≤i→iB (lg F M.length nx) M' 0 H i=none)∧(∀ i,nx+(M'.length-M.length)≤i→ρ' i=none)∧
    nN nx m ρ w H (nx+(M'.length-M.length)) m' ρ' w' (iB (lg F M.length nx) M' 0 H):=by
 intro m ρ w vs u V hn hρ hr hu
 obtain ⟨⟨Vs,Gv,Gl⟩,tr⟩:=I4 (M':=M') F hF hd hH hle V hn hρ
 refine (hS m (fun i=>ρ (kY F nx i)) w vs u Vs Gv Gl (bN.re args vs hr) hu).mono ?_
 rintro e u' w' ⟨v,m',ρ',rfl,BB,V',Ls,hA⟩
 obtain ⟨kO,h1,h2,h3,h4,_⟩:=tr m' ρ' w' V' Ls hA
 exact ⟨v,m',kO,rfl,BB,h1,h2,h3,h4⟩
theorem XK.df {ops:Array Oper} {o:Oper} {r:List Oper} {S:Nat→PV} {H:HM} {nx:Nat} {df:List (Nat×List PV)} {Q:PX→St→Prop} {c:Call} {f:Nat} {L:List PV} (d:Option Nat) (hd:o.dst=d) (hg:o.guard=none) (ho:o.op= .defer c) (hc:c.callee= .value (.func f)) (ha:c.args.toList.map (aB S)=L)
  (h:XK P ops r ⟨fk S d .dO,H,nx,(f,L)::df⟩ Q):XK P ops (o::r) ⟨S,H,nx,df⟩ Q:=by
 subst hd ha
 exact XK.defer hg ho hc h
def vw (P:Program) (rs:List ResultVar) (fd:Nat) (res:D) (px:PX) (s:St):Prop:=
  ∃ id p0,s.df=[(fd,[.aF id 0])]∧s.H id=some (.var [p0])∧∃ x p1,x6 P fd [.aF 0 0] [.var [p0]] x [.var [p1]]∧p0.re (kY [id] s.nx)=p0∧p1.re (lg [id] 1 s.nx)=p1∧
    (match px with
     | .normal | .ret=>x=none
     | .panic p=>∃ d,x=some d∧p= .d d
     | .exit _=>False)∧
    (oI P rs ⟨s.S,cG s.H id (some (.var [p1])),s.nx,[]⟩).2∧(oI P rs ⟨s.S,cG s.H id (some (.var [p1])),s.nx,[]⟩).1.dj=some res
end Go.Proofs.YtlfjfoknbjcncaaGreat.K
namespace Go.Proofs.YtlfjfoknbjcncaaGreat.K
open Go Go.RowKit
variable {P:Program} {α:Type} {n:Nat} {en:α→D} {A R R':List D} {m j:Nat}
theorem x7 {ag:Bool} {w:Nat} {d:D} (m j:Nat) (h:A.length=m) (H:c8 ag w (R.drop j) d):c8 ag w ((A++R).drop (m+j)) d:=by
 subst h
 rw [List.drop_append,List.drop_eq_nil_of_le (Nat.le_add_right _ _),List.nil_append,Nat.add_sub_cancel_left]
 exact H
theorem Gy (h:A.length=m):c8 true m (A++R) (.agg A):=by
 subst h
 exact ⟨by simp,by rw [List.take_left]⟩
theorem qa (h:A.length=m):c8 true m A (.agg A):=by
 subst h
 exact ⟨Nat.le_refl _,by rw [List.take_length]⟩
theorem I5 {a:aE n α} (m j:Nat) (h:A.length=m) (H:Pre (R.drop j) en a):Pre ((A++R).drop (m+j)) en a:=by
 subst h
 rw [List.drop_append,List.drop_eq_nil_of_le (Nat.le_add_right _ _),List.nil_append,Nat.add_sub_cancel_left]
 exact H
theorem ND {a:aE n α}:Pre (a.1.map en++R) en a:=⟨R,rfl⟩
theorem P4 {c:List PV} (m j:Nat) (h:A.length=m) (H:l6 (R.map PV.d) j c=R'.map PV.d):l6 ((A++R).map PV.d) (m+j) c=(A++R').map PV.d:=by
 subst h
 unfold l6 at H ⊢
 rw [List.map_append,List.take_append,List.drop_append,List.length_map,List.take_of_length_le (by simp),List.drop_eq_nil_of_le (by simp;omega),List.nil_append,Nat.add_sub_cancel_left,show A.length+j+c.length-A.length=j+c.length by omega,List.append_assoc,H, ← List.map_append]
theorem NF {c:List D} (h:A.length=m) (hc:c.length=m):l6 ((A++R).map PV.d) 0 (c.map PV.d)=(c++R).map PV.d:=by
 subst h
 unfold l6
 rw [List.take_zero,List.nil_append,List.map_append,Nat.zero_add,List.length_map,hc,List.drop_append,List.drop_eq_nil_of_le (by simp),List.nil_append,List.length_map,Nat.sub_self,List.drop_zero,List.map_append]
theorem P5 (h:∀ x∈A,x.flat=true) (k:∀ x∈R,x.flat=true):∀ x∈A++R,x.flat=true:=by
 intro x hx
 rcases List.mem_append.1 hx with hx | hx
 ·exact h x hx
 ·exact k x hx
theorem Cc {d:D} (h:d.flat=true) (k:∀ x∈R,x.flat=true):∀ x∈d::R,x.flat=true:=by
 intro x hx
 rcases List.mem_cons.1 hx with rfl | hx
 ·exact h
 ·exact k x hx
theorem P6:∀ x∈([]:List D),x.flat=true:=by simp
theorem dF {place:Nat→Option (Nat×Nat)} {cells:List PV}:(k8 place cells []).2∧(k8 place cells []).1=cells:=⟨trivial,rfl⟩
theorem cw {place:Nat→Option (Nat×Nat)} {cells cells' out:List PV} {i off size:Nat} {p:PV} {r:List (Nat×PV)} (hp:place i=some (off,size)) (hs:p.cz=true) (hl:p.hY.length=size) (hf:off+size≤cells.length)
  (Ry:l6 cells off p.hY=cells') (H:(k8 place cells' r).2∧(k8 place cells' r).1=out):(k8 place cells ((i,p)::r)).2∧(k8 place cells ((i,p)::r)).1=out:=by
 unfold k8
 simp only [hp]
 rw [Ry]
 exact ⟨⟨⟨hs,hl,hf⟩,H.1⟩,H.2⟩
theorem dG {z:List Value} {pl:List (Nat×Nat)⊕Nat} {parts:List (Nat×PV)} {out:List PV} (hz:z.all Value.oneCell'=true) (H:(k8 (placeOf pl) (z.map nM) parts).2∧(k8 (placeOf pl) (z.map nM) parts).1=out):
  (k9 (some (z,pl)) parts).2∧(k9 (some (z,pl)) parts).1= .agg out:=⟨⟨hz,H.1⟩,congrArg PV.agg H.2⟩
theorem eT {o:Oper} {S:Nat→PV} {H:HM} {nx:Nat} {df:List (Nat×List PV)} {eI:List Nat} {k:PV→HM→Nat→List Nat→List Nat→Prop} {t:TypeId} {parts:Array (Nat×Operand)} {v:PV} {b:List Value×(List (Nat×Nat)⊕Nat)} (ho:o.op= .build t parts) (hb:p8 P t=some b)
  (h:(k9 (some b) (ot S parts.toList)).2∧(k9 (some b) (ot S parts.toList)).1=v) (hk:k v H nx [] []):aT P eI o ⟨S,H,nx,df⟩ k:=vb ho (by rw [hb];exact h.1) (by rw [hb];exact h.2) hk
section
variable {ops:Array Oper} {o:Oper} {r:List Oper} {S:Nat→PV} {H:HM} {nx:Nat} {df:List (Nat×List PV)} {Q:PX→St→Prop}
theorem XK.pr {v:PV} (d:Option Nat) (hd:o.dst=d) (hg:o.guard=none) (h:bn P o S v) (k:XK P ops r ⟨fk S d v,H,nx,df⟩ Q):XK P ops (o::r) ⟨S,H,nx,df⟩ Q:=by
 subst hd
 exact fun hn=> .step (.run hg (lJ (s:=⟨S,H,nx,df⟩) hn h.op)) (k hn)
theorem Gz {t u:TypeId} {ms:Array (String×TypeId)} {x:Operand} (ho:o.op= .binOp .eql t x (.const .nilIface) u) (ht:P.underlying t=some (.interface ms)) (hx:aB S x= .d (.val .nilIface)):bn P o S (.d (.val (.bool true))):=by
 refine bn.still fun m ρ a w _ hxs=>?_
 have h1:=hxs x (by simp [ho,Op.operands])
 rw [hx] at h1
 simp only [aN,bg] at h1
 obtain ⟨dst,op',type,pos,after,guard⟩:=o
 simp only at ho
 subst ho
 refine ⟨.bool true,?_,by simp [aN,bg]⟩
 have e:(Op.equal t .nilIface .nilIface).run P w= .ok true w:=by
  have:∀ n,(Op.equalIn (n+1) t .nilIface .nilIface).run P w= .ok true w:=fun n=>by simp [Op.equalIn,run_underlying ht]
  exact this 9999
 have hc:a.eval (.const .nilIface)= .nilIface:=rfl
 simp [execOp,h1,hc,eqGuard,binOp,e]
def I6:TypeDesc→Bool
 | .interface _=>false
 | _=>true
theorem NG {xT t:TypeId} {d:TypeDesc} {x:Operand} {y:D} (ho:o.op= .typeAssert x xT t true) (ht:P.underlying t=some d) (hd:I6 d=true) (hx:aB S x= .d (.iface t y)):bn P o S (.d (.tuple [y, .val (.bool true)])):=by
 refine bn.still fun m ρ a w _ hxs=>?_
 have h1:=hxs x (by simp [ho,Op.operands])
 rw [hx] at h1
 simp only [aN,bg] at h1
 obtain ⟨u,hu,hr⟩:=h1
 obtain ⟨dst,op',type,pos,after,guard⟩:=o
 simp only at ho
 subst ho
 refine ⟨.tuple #[u, .bool true],?_,?_⟩
 ·simp only [execOp,hu,Instr.typeAssert]
  cases d<;>simp_all [run_underlying ht,I6]
 ·simp only [aN,bg]
  exact ⟨[u, .bool true],rfl,by simp only [cr,bg];exact ⟨u,_,rfl,hr,_,_,rfl,rfl,rfl⟩⟩
theorem LB {xT t:TypeId} {x:Operand} {y:D} (hi:vq P t=true) (ho:o.op= .typeAssert x xT t true) (hx:aB S x= .d (.iface t y)):bn P o S (.d (.tuple [y, .val (.bool true)])):=by
 unfold vq at hi
 cases hd:P.underlying t with
 | none=>rw [hd] at hi;cases hi
 | some d=>
  rw [hd] at hi
  refine NG ho hd ?_ hx
  cases d<;>first | rfl | cases hi
variable {eI:List Nat} {k:PV→HM→Nat→List Nat→List Nat→Prop}
theorem P7 {t u:TypeId} {ms:Array (String×TypeId)} {x y:Operand} {t':TypeId} {z:D} (ho:o.op= .binOp .eql t x y u) (ht:P.underlying t=some (.interface ms)) (hx:aB S x= .d (.iface t' z)) (hy:aB S y= .d (.val .nilIface)) (hk:k (.d (.val (.bool false))) H nx [] []):aT P eI o ⟨S,H,nx,df⟩ k:=by
 unfold aT;rw [ho]
 simp only [isEq,BF,hx,hy,Bool.and_false,Bool.false_eq_true,if_false,wO,zy,ht]
 exact ⟨trivial,hk⟩
end
section
variable {ops:Array Oper} {o:Oper} {r:List Oper} {S:Nat→PV} {H:HM} {nx:Nat} {df:List (Nat×List PV)}
theorem R6 {c x y:Operand} {g gc gx gy b u v:Bool} (hn:∀ i,nx≤i→H i=none) (hg:tq ops o S=some g) (ho:o.op= .pick c x y) (hc:bU (aB S c)=(gc, .d (.val (.bool b)))) (hx:bU (aB S x)=(gx, .d (.val (.bool u)))) (hy:bU (aB S y)=(gy, .d (.val (.bool v))))
  (h0:g=true→gc=true) (h1:g=true→b=true→gx=true) (h2:g=true→b=false→gy=true):pq P ops o ⟨S,H,nx,df⟩ (.cond g (.d (.val (.bool (bif b then u else v))))) H ⟨[],[],nx,nx⟩:=by
 refine .gd hg (by simp) ?_
 rintro rfl
 refine ⟨iU S,fun z _ m ρ w hr=>by rw [Ld];exact RJ hr,?_⟩
 have key:∀ (z:Operand) (gz q:Bool),bU (aB S z)=(gz, .d (.val (.bool q)))→(gz=true→aB (iU S) z= .d (.val (.bool q)))∧(bU (aB (iU S) z)).2= .d (.val (.bool q)):=by
  intro z gz q hz
  rw [Ld]
  cases hp:aB S z with
  | cond b' p'=>
   rw [hp] at hz
   simp only [bU,Prod.mk.injEq] at hz
   obtain ⟨rfl,rfl⟩:=hz
   cases b' with
   | true=>exact ⟨fun _=>rfl,rfl⟩
   | false=>exact ⟨(fun h=>nomatch h),rfl⟩
  | _=>rw [hp] at hz;simp only [bU,Prod.mk.injEq] at hz;obtain ⟨rfl,hz⟩:=hz;first | (cases hz;done) | (rw [← hz];exact ⟨fun _=>rfl,rfl⟩)
 have kc:=(key c gc b hc).1 (h0 rfl)
 have hpk:yE (aB (iU S) c) (aB (iU S) x) (aB (iU S) y)=(.d (.val (.bool (bif b then u else v))),(b=true→(bU (aB (iU S) x)).1=true)∧(b=false→(bU (aB (iU S) y)).1=true)):=by
  unfold yE
  rw [kc,(key x gx u hx).2,(key y gy v hy).2]
 have hs:bn P o (iU S) (yE (aB (iU S) c) (aB (iU S) x) (aB (iU S) y)).1:=by
  refine EH ho ?_
  rw [hpk]
  refine ⟨fun hb=>?_,fun hb=>?_⟩
  ·rw [(key x gx u hx).1 (h1 rfl hb)];rfl
  ·rw [(key y gy v hy).1 (h2 rfl hb)];rfl
 rw [hpk] at hs
 exact lJ (s:=⟨iU S,H,nx,df⟩) hn hs.op
variable {c x y:Operand} {g gc gx gy b u v:Bool}
theorem XK.gp {Q:PX→St→Prop} (d:Option Nat) (hd:o.dst=d) (hg:tq ops o S=some g) (ho:o.op= .pick c x y) (hc:bU (aB S c)=(gc, .d (.val (.bool b)))) (hx:bU (aB S x)=(gx, .d (.val (.bool u)))) (hy:bU (aB S y)=(gy, .d (.val (.bool v))))
  (h0:g=true→gc=true) (h1:g=true→b=true→gx=true) (h2:g=true→b=false→gy=true) (w:Bool) (hw:(bif b then u else v)=w) (k:XK P ops r ⟨fk S d (.cond g (.d (.val (.bool w)))),H,nx,df⟩ Q):XK P ops (o::r) ⟨S,H,nx,df⟩ Q:=by
 subst hd hw;exact fun hn=> .step (R6 hn hg ho hc hx hy h0 h1 h2) (k hn)
theorem R7 (b u:Bool):(bif b then u else false)=(b&&u):=by cases b<;>rfl
end
section
variable {C R':Type} {step:C→Option (C⊕R')}
theorem D8:∀ (n k:Nat) (c:C) (r:R'),run step n c=some r→run step (n+k) c=some r
 | 0,_,_,_,h=>by cases h
 | n+1,k,c,r,h=>by
  rw [show n+1+k=(n+k)+1 by omega]
  simp only [run] at h ⊢
  cases hs:step c with
  | none=>rw [hs] at h;cases h
  | some x=>
   rw [hs] at h
   cases x with
   | inl c'=>exact D8 n k c' r h
   | inr r'=>exact h
theorem Comes.unique {c:C} {r r2:R'} (h:Comes step c r) (k:Comes step c r2):r=r2:=by
 obtain ⟨n,h⟩:=h
 obtain ⟨m,k⟩:=k
 have h1:=D8 n m c r h
 have h2:=D8 m n c r2 k
 rw [Nat.add_comm m n,h1] at h2
 exact Option.some.inj h2
open Classical in
noncomputable def g9 (step:C→Option (C⊕R')) (c:C):Option R':=if h:∃ r,Comes step c r then some (Classical.choose h) else none
theorem cL {c:C} {r:R'} (h:g9 step c=some r):Comes step c r:=by
 unfold g9 at h
 split at h
 ·rename_i hx
  cases h
  exact Classical.choose_spec hx
 ·cases h
theorem cS {c:C} {r:R'} (h:Comes step c r):g9 step c=some r:=by
 unfold g9
 rw [dif_pos ⟨r,h⟩]
 exact congrArg some (Comes.unique (Classical.choose_spec ⟨r,h⟩) h)
end
end Go.Proofs.YtlfjfoknbjcncaaGreat.K
namespace Go.Proofs.YtlfjfoknbjcncaaGreat.K
open Go Go.RowKit
open Classical in
noncomputable def wX {α:Type} (f:Nat→Option α):Option α:=if h:∃ r,∃ n,∀ m,n≤m→f m=some r then some (Classical.choose h) else none
theorem oe {α:Type} {f:Nat→Option α} {r:α} (h:wX f=some r):∃ n,f n=some r:=by
 unfold wX at h
 split at h
 ·rename_i hx
  cases h
  obtain ⟨n,hn⟩:=Classical.choose_spec hx
  exact ⟨n,hn n (Nat.le_refl n)⟩
 ·cases h
theorem ni {α:Type} {f:Nat→Option α} {r:α} (n:Nat) (h:∀ m,n≤m→f m=some r):wX f=some r:=by
 unfold wX
 have hx:∃ r,∃ n,∀ m,n≤m→f m=some r:=⟨r,n,h⟩
 rw [dif_pos hx]
 obtain ⟨k,hk⟩:=Classical.choose_spec hx
 have h1:=hk (max n k) (Nat.le_max_right n k)
 have h2:=h (max n k) (Nat.le_max_left n k)
 rw [h2] at h1
 exact h1.symm
def NH (a b:Rec):Bool:=b.T.any (fun x=>a.W.any (· ==x)||(Nat.ble a.lo x&&Nat.blt x a.hi))||a.T.any (fun x=>b.W.any (· ==x))
def W6 (M:List Nat) (L:List Rec):Bool:=(List.range L.length).all fun j=>(List.range j).all fun i=>
 match L[i]?,L[j]? with
 | some a,some b=> !(NH a b)||(M.getD j 0).testBit i
 | _,_=>true
theorem fT.comp {M:List Nat} {L:List Rec} (h:W6 M L=true):fT M L:=by
 intro i j a b hij ha hb hx
 have hj:j<L.length:=(List.getElem?_eq_some_iff.1 hb).1
 have key:=List.all_eq_true.1 (List.all_eq_true.1 h j (List.mem_range.2 hj)) i (List.mem_range.2 hij)
 rw [ha,hb] at key
 simp only [Bool.or_eq_true,Bool.not_eq_true'] at key
 rcases key with k | k
 ·exfalso
  have:NH a b=true:=by
   unfold NH
   rw [Bool.or_eq_true,List.any_eq_true,List.any_eq_true]
   rcases hx with ⟨x,hx,Iq⟩ | ⟨x,hx,Iq⟩
   ·refine .inl ⟨x,hx,?_⟩
    rw [Bool.or_eq_true,List.any_eq_true,Bool.and_eq_true]
    rcases Iq with Iq | ⟨h1,h2⟩
    ·exact .inl ⟨x,Iq,by simp⟩
    ·exact .inr ⟨Nat.ble_eq_true_of_le h1,by simpa [Nat.blt_eq] using h2⟩
   ·refine .inr ⟨x,hx,?_⟩
    rw [List.any_eq_true]
    exact ⟨x,Iq,by simp⟩
  rw [this] at k;cases k
 ·exact k
section
variable {P:Program}
theorem vw.more {fd:Nat} {res:D} {px:PX} {s:St} {r r':ResultVar} {rs:List ResultVar} (ps:List PV) (id:Nat) (p0 p1:PV) (x:Option D) (h1:s.df=[(fd,[.aF id 0])]) (h2:s.H id=some (.var [p0])) (h3:x6 P fd [.aF 0 0] [.var [p0]] x [.var [p1]])
  (h4:p0.re (kY [id] s.nx)=p0) (h5:p1.re (lg [id] 1 s.nx)=p1) (h6:match px with | .normal | .ret=>x=none | .panic p=>∃ d,x=some d∧p= .d d | .exit _=>False)
  (h:uV P ⟨s.S,cG s.H id (some (.var [p1])),s.nx,[]⟩ (r::r'::rs) ps) (ht:(PV.tuple ps).dj=some res):vw P (r::r'::rs) fd res px s:=by
 have h7:=Ends.more (px:= .ret) (.inr rfl) rfl h ht rfl
 exact ⟨id,p0,h1,h2,x,p1,h3,h4,h5,h6,h7.2.2.1,h7.2.2.2⟩
end
end Go.Proofs.YtlfjfoknbjcncaaGreat.K
namespace Go.Proofs.YtlfjfoknbjcncaaGreat.K
open Go Go.RowKit
variable {P:Program}
theorem D9 {w:World} (t u ty e:TypeId) (d:TypeDesc) (i:TypeInfo) (ht:P.underlying t=some (.slice e)) (hu:P.underlying u=some d) (hd:mC d=true) (hi:P.info? e=some i)
  (base:Option Addr) (n:Nat) (y:Value) (hy:(Builtin.lenOf y).run P w= .ok 0 w) (hn:(Builtin.firstCells i.size 0 y).run P w= .ok #[] w):
  (Builtin.append_ #[t,u] ty #[.slice base n n,y]).run P w= .ok (.slice base n n) w:=by
 rcases tu hd with ⟨e2,rfl⟩ | rfl
 all_goals cases base<;>simp [Builtin.append_,run_underlying ht,run_underlying hu,sizeOf,typeInfo,hi,hy,hn,storeCells]
theorem Km {o:Oper} {S:Nat→PV} {t u:TypeId} {x y:Operand} {l l2:List D} (ho:o.op= .call {callee:= .builtin .append,args:= #[x,y],argTypes:= #[t,u]}) {sz je:Nat} (hrow:oH P t=some (sz,je)) {d:TypeDesc} (hu:P.underlying u=some d) (hd:mC d=true)
  (hx:aB S x= .full l) (hy:(aB S y).more=some l2) (c1:∀ z∈l,z.cells.length=sz) (c2:∀ z∈l2,z.cells.length=sz) (hb:(l.length+l2.length)*je≤140737488355328) (hm:l.length+l2.length≤maxLen):
  bn P o S (.d (.slice (l++l2))):=by
 intro m ρ a w hM hxs
 have h1:=hxs x (by simp [ho,Op.operands,Call.operands])
 have h2:=hxs y (by simp [ho,Op.operands,Call.operands])
 rw [hx] at h1
 obtain ⟨e,i,z,z0,hi,hz,hzs,h0,hsz,hby⟩:=sW hrow
 obtain ⟨g1,news,g2,g3,g4,g5⟩:=xZ (P:=P) hM hy h2 c2
 obtain ⟨q1,olds,q2,q3,q4,q5⟩:=xZ (P:=P) hM (p:= .full l) rfl h1 c1
 simp only [aN] at h1
 obtain ⟨ad,ev,iO⟩:=h1
 subst hsz
 subst hby
 by_cases hk:l2=[]
 ·subst hk
  have hrun:=D9 (P:=P) t u o.type e d i z0 hu hd hi ad l.length (a.eval y) (by simpa using g1) (by
   have:=g5 w rfl
   have J9:news=[]:=List.eq_nil_of_length_eq_zero (by simpa using g2)
   subst J9
   simpa using this)
  refine ⟨_,m,w,iA ho (by rw [ev];exact hrun),hM,Ext.refl _ _ _,?_⟩
  simp only [aN,bg,List.append_nil]
  exact ⟨ad,l.length,rfl,Nat.le_refl _,iO⟩
 ·have hpos:0<l2.length:=List.length_pos_iff.2 hk
  have hgrow:l.length<l.length+l2.length:=by omega
  have hrun:=oq (P:=P) w t u o.type e d i z z0 hu hd hi hz ad l.length l.length l2.length (a.eval y) olds news g1 (by
   have:=q5 w.drew rfl
   rw [ev] at this
   exact this) (g5 w.drew rfl) hgrow (by simp only [maxLen] at hm;omega) (growslice_fits hgrow hb)
  have hge:=grownCap_ge w (l.length+l2.length) l.length e
  have Il:=grownCap_le_maxLen w (l.length+l2.length) l.length e hm
  have hlen:(olds++news).length=(l.length+l2.length)*i.size:=by rw [List.length_append,q2,g2,Nat.add_mul]
  have hD:=B7 (s:=⟨S,fun _=>none,0,[]⟩) (m:=m) (ρ:=fun _=>none) (w:=w) [] ⟨hM,(fun k ob hk' hH=>nomatch hH),(fun k j b c c' hk'=>nomatch hk')⟩ (fun _ _ _=>rfl) (vals:=olds++news) (rest:=(Builtin.zeroCells z.cells (grownCap w (l.length+l2.length) l.length e-(l.length+l2.length))).toList) (sz:=i.size) (n:=l.length+l2.length) (cap:=grownCap w (l.length+l2.length) l.length e)
   (fun v hv=>(List.mem_append.1 hv).elim (q4 v) (g4 v)) hlen (by
    have Rz:(Builtin.zeroCells z.cells (grownCap w (l.length+l2.length) l.length e-(l.length+l2.length))).toList.length=(grownCap w (l.length+l2.length) l.length e-(l.length+l2.length))*i.size:=by
     rw [Array.length_toList,size_zeroCells,hzs]
    rw [hlen,Rz, ← Nat.add_mul]
    congr 1
    omega) hge Il e (fun _=>none) (fun i=> .inr rfl)
  obtain ⟨d1,d2,d3,d4,d5⟩:=hD
  refine ⟨_,_,_,iA ho (by rw [ev];exact hrun),d4.mem,⟨d1.1,d1.2,fun b hb hF=>d1.3 b hb (fun ⟨k,c,hk',_⟩=>nomatch hk'),d1.4,d1.5,d1.6,fun b o' v h=>(d1.7 b o' v h).imp id fun h=>h.elim (fun ⟨k,c,hk',_⟩=>nomatch hk') .inr⟩,?_⟩
  simp only [aN,bg]
  refine ⟨_,_,by rw [List.length_append],by rw [List.length_append];exact hge, .inr ⟨_,_,rfl,?_⟩⟩
  exact kq ((yK q3 g3).mono (Mem.tI (tJ hM))) (fun j v hj=>by simp [Mem.with,hj])
theorem Ui {o:Oper} {S:Nat→PV} {α:Type} {en:α→D} {c:α→List D} {n je:Nat} {t u:TypeId} {d:TypeDesc} {x y:Operand} {l l2:List α} (ho:o.op= .call {callee:= .builtin .append,args:= #[x,y],argTypes:= #[t,u]}) (ht:oH P t=some (n,je)) (hu:P.underlying u=some d) (hd:mC d=true) (hl:sC en c n)
  (hx:aB S x= .full (l.map en)) (hy:(aB S y).more=some (l2.map en)) (h:(l.length+l2.length)*je≤140737488355328) (hb:0<je):bn P o S (.d (.slice ((l++l2).map en))):=by
 have:=Km ho ht hu hd hx hy (hl.all l) (hl.all l2) (by simpa using h) (by
  have:(l.length+l2.length)*1≤(l.length+l2.length)*je:=Nat.mul_le_mul_left _ hb
  rw [wS,List.length_map,List.length_map];omega)
 rwa [← List.map_append] at this
end Go.Proofs.YtlfjfoknbjcncaaGreat.K
namespace Go.Proofs.YtlfjfoknbjcncaaGreat.K
open Go Go.RowKit
set_option linter.unusedVariables false
variable {P:Program}
section
variable {ops:Array Oper} {o:Oper} {r:List Oper} {S:Nat→PV} {H:HM} {nx:Nat} {df:List (Nat×List PV)}
theorem XK.s2r {Q:PX→St→Prop} {t u e:TypeId} {x:Operand} {l:List UInt8} (d:Option Nat) (hd:o.dst=d) (hg:o.guard=none) (ho:o.op= .convert t u x) (hs:P.underlying t=some .string) (hu:P.underlying u=some (.slice e)) (he:P.underlying e=some (.int .u8))
  (hx:aB S x= .d (.val (sV l))) (hl:l.length≤9223372036854775807) (h:XK P ops r ⟨fk S d (.own nx (l.map U)),cG H nx (some (.spare 1 l.length)),nx+1,df⟩ Q):XK P ops (o::r) ⟨S,H,nx,df⟩ Q:=by
 subst hd
 exact XK.T8 (s:=⟨S,H,nx,df⟩) hg ho hs hu he hx hl h
end
end Go.Proofs.YtlfjfoknbjcncaaGreat.K
namespace Go.Proofs.YtlfjfoknbjcncaaGreat.K
open Go Go.RowKit
set_option linter.unusedVariables false
variable {P:Program}
theorem eZ (f:Nat→Nat):∀ (a b:List PV),PV.res f (a++b)=PV.res f a++PV.res f b
 | [],_=>rfl
 | x::r,b=>by simp only [List.cons_append,PV.res,eZ f r b]
theorem mh {a b:List PV} {x y:List D} (ha:PV.ej a=some x) (hb:PV.ej b=some y):PV.ej (a++b)=some (x++y):=by
 induction a generalizing x with
 | nil=>simp only [PV.ej,Option.some.injEq] at ha;subst ha;exact hb
 | cons p r ih=>
  simp only [PV.ej] at ha
  cases hp:p.dj with
  | none=>rw [hp] at ha;cases ha
  | some q=>
   rw [hp] at ha
   cases hr:PV.ej r with
   | none=>rw [hr] at ha;cases ha
   | some z=>
    rw [hr] at ha
    simp only [Option.map_some,Option.some.injEq] at ha
    subst ha
    simp only [List.cons_append,PV.ej,hp,ih hr,Option.map_some]
theorem iJ:∀ (a b:List PV),PV.ej (a++b)=(PV.ej a).bind fun x=>(PV.ej b).map fun y=>x++y
 | [],b=>by cases h:PV.ej b<;>simp [PV.ej,h]
 | p::r,b=>by
  simp only [List.cons_append,PV.ej,iJ r b]
  cases p.dj with
  | none=>rfl
  | some q=>cases PV.ej r with
   | none=>rfl
   | some z=>cases PV.ej b<;>rfl
theorem oK {l:List PV} {x:List D} (h:PV.ej l=some x):PV.dj (.agg l)=some (.agg x):=by simp only [PV.dj,h,Option.map_some]
theorem aD {A R:List PV} {a b n:Nat} (h:A.length=a) (k:R.length=b) (e:a+b=n):(A++R).length=n:=by rw [List.length_append,h,k,e]
theorem bW {l:List PV} {off n m:Nat} (h:l.length=m) (k:off+n≤m):off+n≤l.length:=by rw [h];exact k
theorem Uj {ag:Bool} {n:Nat} {A R:List PV} {v:PV} (m j:Nat) (h:A.length=m) (H:C7 ag n j R v):C7 ag n (m+j) (A++R) v:=by
 subst h
 obtain ⟨⟨h1,h2⟩,h3⟩:=H
 refine ⟨⟨by rw [List.length_append];omega,h2⟩,?_⟩
 unfold nO at h3 ⊢
 cases ag with
 | true=>
  simp only [if_true] at h3 ⊢
  rw [List.drop_append,List.drop_eq_nil_of_le (Nat.le_add_right _ _),List.nil_append,Nat.add_sub_cancel_left]
  exact h3
 | false=>
  simp only [Bool.false_eq_true,if_false] at h3 ⊢
  rw [List.getD_eq_getElem?_getD,List.getElem?_append_right (Nat.le_add_right _ _),Nat.add_sub_cancel_left, ← List.getD_eq_getElem?_getD]
  exact h3
theorem I7 {ag:Bool} {n j:Nat} {A R:List PV} {v:PV} (H:C7 ag n j A v):C7 ag n j (A++R) v:=by
 obtain ⟨⟨h1,h2⟩,h3⟩:=H
 refine ⟨⟨by rw [List.length_append];omega,h2⟩,?_⟩
 unfold nO at h3 ⊢
 cases ag with
 | true=>
  simp only [if_true] at h3 ⊢
  rw [List.drop_append_of_le_length (by omega),List.take_append_of_le_length (by rw [List.length_drop];omega)]
  exact h3
 | false=>
  simp only [Bool.false_eq_true,if_false] at h3 ⊢
  rw [List.getD_eq_getElem?_getD,List.getElem?_append_left (by omega), ← List.getD_eq_getElem?_getD]
  exact h3
theorem fP {n:Nat} {l:List PV} (h:l.length=n) (hp:0<n):C7 true n 0 l (.agg l):=by
 refine ⟨⟨by omega,hp⟩,?_⟩
 simp only [nO,if_true,List.drop_zero]
 rw [List.take_of_length_le (by omega)]
theorem qo {A R R' c:List PV} (m j:Nat) (h:A.length=m) (H:l6 R j c=R'):l6 (A++R) (m+j) c=A++R':=by
 subst h
 unfold l6 at H ⊢
 rw [List.take_append,List.drop_append,List.take_of_length_le (Nat.le_add_right _ _),List.drop_eq_nil_of_le (by omega),List.nil_append,Nat.add_sub_cancel_left,show A.length+j+c.length-A.length=j+c.length by omega,List.append_assoc,H]
theorem fy {A R A' c:List PV} (j:Nat) (h:j+c.length≤A.length) (H:l6 A j c=A'):l6 (A++R) j c=A'++R:=by
 unfold l6 at H ⊢
 rw [List.take_append_of_le_length (by omega),List.drop_append_of_le_length h, ← H,List.append_assoc,List.append_assoc]
theorem GA {A R c:List PV} {m:Nat} (h:A.length=m) (hc:c.length=m):l6 (A++R) 0 c=c++R:=by
 unfold l6
 rw [List.take_zero,List.nil_append,Nat.zero_add,hc, ← h,List.drop_left' rfl]
theorem I8 {A R:List PV} {p:PV} {j:Nat} (H:A[j]? =some p):(A++R)[j]? =some p:=by
 rw [List.getElem?_append_left (List.getElem?_eq_some_iff.1 H).1];exact H
theorem I9 {A R A':List PV} {p:PV} {j:Nat} (h:j<A.length) (H:A.set j p=A'):(A++R).set j p=A'++R:=by
 rw [List.set_append_left _ _ h,H]
variable {N b:Nat}
theorem View.R8 {s:St} {l l':List PV} {p:PV} {x:D} (id j:Nat) (hH:s.H id=some (.var l)) (hj:l[j]? =some p) (hp:p.dj=some x) (hl:l.set j (.d x)=l') (hb:b≤s.nx):
  View N b s ⟨s.S,cG s.H id (some (.var l')),s.nx,s.df⟩:=by subst hl;exact View.R1 id j hH hj hp hb
end Go.Proofs.YtlfjfoknbjcncaaGreat.K
