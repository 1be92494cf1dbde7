/- The references of layers 02, 06 and 08: paths, what is laid of nodes, and the lists of which trees are built. -/
import Derived.Test.YtlfjfoknbjcncaaGreatHG8
import Derived.Test.YtlfjfoknbjcncaaGreatHG3
namespace Go.Proofs.YtlfjfoknbjcncaaGreat.K
open Go
set_option linter.unusedVariables false
set_option linter.unusedSimpArgs false
theorem DM {s:List UInt8} (h:s.length<56):(cn (iM s)).length≤s.length+1:=by
 rw [AH]
 split
 ·omega
 ·rw [List.length_append,Ba,if_pos h];omega
theorem V5 (l:Bool) {k:Nat} (h:k<256):(hd l k).length≤2:=by
 have:=th 1 k (by omega)
 rw [Ba];split<;>omega
theorem Pw (l:Bool) {k:Nat} (h:k<65536):(hd l k).length≤3:=by
 have:=th 2 k (by omega)
 rw [Ba];split<;>omega
theorem My {s:List UInt8} (h:s.length<256):(cn (iM s)).length≤s.length+2:=by
 have:=V5 false h
 rw [AH]
 split
 ·omega
 ·rw [List.length_append];omega
def lX (s:List UInt8):List UInt8:=if 32≤s.length then Fg s else s
theorem Mz (s:List UInt8):(lX s).length≤32:=by
 unfold lX;split
 ·rw [Bh];omega
 ·omega
theorem KF {s:List UInt8} (h:s.length≤1000000):o5 s=some (lX s):=by
 unfold o5 lX
 by_cases h1:32≤s.length
 ·rw [decide_eq_true (by omega),cond_true,V4 s h,if_pos h1];rfl
 ·rw [decide_eq_false (by omega),cond_false,if_neg h1]
def HT (k:List UInt8):List UInt8:=if k=[]∨k.length=32 then cn (iM k) else k
theorem Bi {k:List UInt8} (h:k.length≤32):(HT k).length≤33:=by
 unfold HT;split
 ·have:=DM (s:=k) (by omega);omega
 ·omega
theorem JL {k:List UInt8} (h:k.length≤32):kB k=some (HT k):=by
 unfold kB HT
 by_cases h1:k=[]
 ·subst h1;rw [if_pos (.inl rfl),sn (by simp)];rfl
 ·by_cases h2:k.length=32
  ·rw [if_pos (.inr h2),decide_eq_true (by omega),Bool.or_true,cond_true,sn (by omega)];rfl
  ·rw [if_neg (by simp [h1,h2]),decide_eq_false (by omega),Bool.or_false,show (k==[])=false by simpa using h1,cond_false]
theorem DN {α β:Type} (f:α→List β) (b:Nat):∀ l:List α,(∀ x∈l,(f x).length≤b)→(l.flatMap f).length≤l.length*b
 | [],_=>by simp
 | x::r,h=>by
  have h1:=DN f b r fun y hy=>h y (List.mem_cons_of_mem _ hy)
  have h2:=h x (List.mem_cons_self ..)
  rw [List.flatMap_cons,List.length_append,List.length_cons,Nat.succ_mul];omega
def tj (n:Node):List UInt8:=
 if n.bf=1 then cn (iM (eB n.av true))++cn (iM n.az)
 else if n.bf=2 then cn (iM (eB n.av false))++HT (idx n.aR.1 0)
 else n.aR.1.flatMap HT++[128]
def uP (n:Node):List UInt8:=hd true (tj n).length++tj n
theorem Bj {p:List UInt8} (h:CF p=true) (b:Bool):(eB p b).length≤33:=by
 have:=zh p b;have:=(u9 h).2;omega
theorem JM (n:Node):n.aR.1.length=16:=n.aR.2
theorem JN {n:Node} (hp:CF n.av=true) (hv:n.az.length≤200) (hk:∀ k∈n.aR.1,k.length≤32):
  (n.bf=1→(tj n).length≤36+n.az.length)∧(n.bf=2→(tj n).length≤67)∧(tj n).length≤529:=by
 have AG:=JM n
 unfold tj
 by_cases h1:n.bf=1
 ·rw [if_pos h1,List.length_append]
  have:=Bj hp true
  have:=DM (s:=eB n.av true) (by omega)
  have:=My (s:=n.az) (by omega)
  omega
 ·by_cases h2:n.bf=2
  ·rw [if_neg h1,if_pos h2,List.length_append]
   have:=Bj hp false
   have:=DM (s:=eB n.av false) (by omega)
   have:=Bi (hk _ (e9 n.aR.1 (i:=0) (by omega)))
   rw [show ((0:Nat):Int)=0 from rfl] at this
   omega
  ·rw [if_neg h1,if_neg h2,List.length_append]
   have:=DN HT 33 n.aR.1 fun k hk'=>Bi (hk k hk')
   rw [AG] at this
   simp only [List.length_singleton]
   omega
theorem TD {n:Node} (hp:CF n.av=true) (hv:n.az.length≤200) (hk:∀ k∈n.aR.1,k.length≤32):
  (n.bf=1→(uP n).length≤39+n.az.length)∧(n.bf=2→(uP n).length≤70)∧(uP n).length≤532∧1≤(uP n).length:=by
 obtain ⟨h1,h2,h3⟩:=JN hp hv hk
 have h4:=Pw true (k:=(tj n).length) (by omega)
 have h5:1≤(hd true (tj n).length).length:=List.length_pos_iff.2 (HA _ _)
 unfold uP
 rw [List.length_append]
 exact ⟨fun h=>by have:=h1 h;omega,fun h=>by have:=h2 h;omega,by omega,by omega⟩
theorem QT (n:Node) (hkd:n.bf=1∨n.bf=2∨n.bf=3) (hp:CF n.av=true) (hv:n.az.length≤200) (hk:∀ k∈n.aR.1,k.length≤32):
  pK n=some (uP n):=by
 have AG:=JM n
 obtain ⟨_,_,hb⟩:=JN hp hv hk
 have hJ:Comes (cN n) (.J3 (tj n)) (uP n):=by
  refine Comes.stop ?_
  have:=Pw true (k:=(tj n).length) (by omega)
  simp only [cN]
  rw [A9 _ true (by omega),Option.bind_some,ah (by omega)]
  rfl
 refine cS ?_
 rcases hkd with h | h | h
 ·refine Comes.next ?_ hJ
  have e1:=Bj hp true
  have e2:=DM (s:=eB n.av true) (by omega)
  have e3:=My (s:=n.az) (by omega)
  simp only [cN]
  rw [decide_eq_true h,cond_true,Bc hp,Option.bind_some,sn (by omega),Option.bind_some,sn (by omega),Option.bind_some,ah (by omega),Option.bind_some,decide_eq_false (by omega),cond_false,Option.bind_some,decide_eq_false (by omega),cond_false]
  unfold tj
  rw [if_pos h]
 ·refine Comes.next ?_ hJ
  have e1:=Bj hp false
  have e2:=DM (s:=eB n.av false) (by omega)
  have e3:=hk _ (e9 n.aR.1 (i:=0) (by omega))
  rw [show ((0:Nat):Int)=0 from rfl] at e3
  have e4:=Bi e3
  simp only [cN]
  rw [decide_eq_false (by omega),cond_false,Option.bind_some,decide_eq_true h,cond_true,Bc hp,Option.bind_some,sn (by omega),Option.bind_some,JL e3,Option.bind_some,ah (by omega),Option.bind_some,decide_eq_false (by omega),cond_false]
  unfold tj
  rw [if_neg (by omega),if_pos h]
 ·have hL:Comes (cN n) (.L4 ((n.aR.1.take 0).flatMap HT) ((0:Nat):Int)) (uP n):=by
   refine Comes.upto (fun i=>zd.L4 ((n.aR.1.take i).flatMap HT) (i:Int)) 16 (fun i hi=>?_) (Comes.next ?_ hJ)
   ·have e3:=hk _ (e9 n.aR.1 (i:=i) (by omega))
    have e4:=Bi e3
    have e5:=DN HT 33 (n.aR.1.take i) fun k hk'=>Bi (hk k (List.mem_of_mem_take hk'))
    rw [List.length_take] at e5
    have e6:min i n.aR.1.length*33≤16*33:=Nat.mul_le_mul_right _ (by omega)
    simp only [cN]
    rw [decide_eq_true (by omega),cond_true,ah (by omega),JL e3,Option.bind_some,ah (by omega),ah (by unfold bw;omega),mm _ (by omega),List.flatMap_append,List.flatMap_singleton]
    rfl
   ·have e5:=DN HT 33 (n.aR.1.take 16) fun k hk'=>Bi (hk k (List.mem_of_mem_take hk'))
    rw [List.length_take] at e5
    simp only [cN]
    rw [decide_eq_false (by omega),cond_false,ah (by simp only [List.length_singleton];omega),List.take_of_length_le (by omega)]
    unfold tj
    rw [if_neg (by omega),if_neg (by omega)]
  refine Comes.next ?_ hL
  simp only [cN]
  rw [decide_eq_false (by omega),cond_false,Option.bind_some,decide_eq_false (by omega),cond_false,Option.bind_some,decide_eq_true h,cond_true]
  rfl
theorem KG (a b:List UInt8) (ha:a.length≤1000000):ur a b=some ((common a b:Nat):Int):=by
 have:∀ k i:Nat,k+i=a.length→Comes (fR a b) (.L1 (i:Int)) ((i+common (a.drop i) (b.drop i):Nat):Int):=by
  intro k
  induction k with
  | zero=>
   intro i hi
   refine Comes.stop ?_
   simp only [fR]
   rw [decide_eq_false (by omega),cond_false,xk (by omega)]
   rw [show i+0=a.length by omega]
  | succ k ih=>
   intro i hi
   by_cases hb:i<b.length
   ·by_cases he:(a.getD i 0).toNat=(b.getD i 0).toNat
    ·have:=ih (i+1) (by omega)
     refine Comes.next (c':= .L1 ((i+1:Nat):Int)) ?_ (by rw [zf (by omega) hb,if_pos he,show i+(common (a.drop (i+1)) (b.drop (i+1))+1)=i+1+common (a.drop (i+1)) (b.drop (i+1)) by omega];exact this)
     simp only [fR]
     rw [decide_eq_true (by omega),cond_true,ah (by omega),ah (by omega),decide_eq_false (by omega),Bool.false_or]
     rw [show idx a (i:Int)=a.getD i 0 from gl a i,show idx b (i:Int)=b.getD i 0 from gl b i,he,decide_eq_true rfl,Bool.not_true,cond_false,ah (by unfold bw;omega)]
     rfl
    ·refine Comes.stop ?_
     rw [zf (by omega) hb,if_neg he]
     simp only [fR]
     rw [decide_eq_true (by omega),cond_true,ah (by omega),ah (by omega)]
     rw [show idx a (i:Int)=a.getD i 0 from gl a i,show idx b (i:Int)=b.getD i 0 from gl b i,show decide (((a.getD i 0).toNat:Int)=((b.getD i 0).toNat:Int))=false from decide_eq_false (by omega),Bool.not_false,Bool.or_true,cond_true]
     rfl
   ·refine Comes.stop ?_
    rw [xk (by omega)]
    simp only [fR]
    rw [decide_eq_true (by omega),cond_true,decide_eq_true (p:=(b.length:Int)≤(i:Int)) (by omega),ah (by intro h;cases h),ah (by intro h;cases h),Bool.true_or,cond_true]
    rfl
 have:=this a.length 0 rfl
 rw [Nat.zero_add,List.drop_zero,List.drop_zero] at this
 exact cS (Comes.next (by simp only [fR];rfl) this)
theorem AI:∀ (m:Nat) (a b:List UInt8),m≤common a b↔m≤a.length∧m≤b.length∧a.take m=b.take m
 | 0,a,b=>by simp
 | m+1,[],b=>by simp [common]
 | m+1,x::a,[]=>by simp [common]
 | m+1,x::a,y::b=>by
  have ih:=AI m a b
  rw [common]
  by_cases h:x=y
  ·rw [if_pos h]
   simp only [List.length_cons,List.take_succ_cons,h,List.cons.injEq,true_and,Nat.add_le_add_iff_right]
   exact ih
  ·rw [if_neg h]
   simp [h]
theorem V6 (a b:Nat):r7 (a:Int) (b:Int)=some ((min a b:Nat):Int):=by
 unfold r7
 by_cases h:a<b
 ·rw [decide_eq_true (by omega),cond_true,Nat.min_eq_left (by omega)]
 ·rw [decide_eq_false (by omega),cond_false,Nat.min_eq_right (by omega)]
noncomputable def p0 (l:List In):List UInt8:=(idx l (0:Int)).av
noncomputable def BU (l:List In):Nat→Nat
 | 0=>(p0 l).length
 | i+1=>min (BU l i) (common (p0 l) (idx l ((i+1:Nat):Int)).av)
noncomputable def lH (l:List In):Nat:=BU l (l.length-1)
theorem MA (l:List In):∀ i:Nat,BU l i≤(p0 l).length∧∀ j:Nat,1≤j→j≤i→BU l i≤common (p0 l) (idx l (j:Int)).av
 | 0=>⟨Nat.le_refl _,fun j h1 h2=>by omega⟩
 | i+1=>by
  obtain ⟨h1,h2⟩:=MA l i
  refine ⟨by rw [BU];omega,fun j Yw hj2=>?_⟩
  rw [BU]
  by_cases h:j=i+1
  ·subst h;omega
  ·have:=h2 j Yw (by omega);omega
theorem JO (l:List In) (m:Nat) (h0:m≤(p0 l).length):∀ i:Nat,(∀ j:Nat,1≤j→j≤i→m≤common (p0 l) (idx l (j:Int)).av)→m≤BU l i
 | 0,_=>h0
 | i+1,h=>by
  have:=JO l m h0 i fun j h1 h2=>h j h1 (by omega)
  have:=h (i+1) (by omega) (by omega)
  rw [BU];omega
theorem MB {α:Type} [Inhabited α] {l:List α} {x:α} (h:x∈l):∃ i:Nat,i<l.length∧idx l (i:Int)=x:=by
 obtain ⟨i,hi,rfl⟩:=List.mem_iff_getElem.1 h
 exact ⟨i,hi,lW l hi⟩
theorem qV {l:List In} {x:In} (hx:x∈l):lH l≤x.av.length∧x.av.take (lH l)=(p0 l).take (lH l):=by
 obtain ⟨i,hi,rfl⟩:=MB hx
 obtain ⟨h1,h2⟩:=MA l (l.length-1)
 cases i with
 | zero=>exact ⟨h1,rfl⟩
 | succ i=>
  have:=(AI _ _ _).1 (h2 (i+1) (by omega) (by omega))
  exact ⟨this.2.1,this.2.2.symm⟩
theorem JP {l:List In} {m:Nat} (hl:l≠[]) (h:∀ x∈l,m≤x.av.length∧x.av.take m=(p0 l).take m):m≤lH l:=by
 have hp:0<l.length:=List.length_pos_iff.2 hl
 have h0:idx l (0:Int)∈l:=e9 l (i:=0) hp
 refine JO l m (h _ h0).1 _ fun j h1 h2=>(AI _ _ _).2 ?_
 have hj:idx l (j:Int)∈l:=e9 l (by omega)
 exact ⟨(h _ h0).1,(h _ hj).1,(h _ hj).2.symm⟩
theorem TE (l:List In) (hl:l≠[]) (hp:∀ x∈l,x.av.length≤1000) (hn:l.length≤1000):ux l=some ((lH l:Nat):Int):=by
 have hpos:0<l.length:=List.length_pos_iff.2 hl
 refine cS (Comes.next (c':= .L1 ((BU l 0:Nat):Int) (((0:Nat)+1:Int))) ?_ ?_)
 ·simp only [jo]
  rw [ah (by omega)]
  rfl
 ·refine Comes.upto (fun i=>uw.L1 ((BU l i:Nat):Int) ((i:Int)+1)) (l.length-1) (fun i hi=>?_) (Comes.stop ?_)
  ·have:=hp _ (e9 l (i:=0) hpos)
   simp only [jo]
   rw [decide_eq_true (by omega),cond_true,ah (by omega),ah (by omega),show ((i:Int)+1)=((i+1:Nat):Int) by omega,KG _ _ (by exact Nat.le_trans this (by omega)),Option.bind_some,V6,Option.bind_some,ah (by unfold bw;omega)]
   rfl
  ·simp only [jo]
   rw [decide_eq_false (by omega),cond_false]
   rfl
def rest (l:List In) (n:Nat):List In:=l.map fun x=>⟨x.av.drop n,x.az⟩
def qW (l:List In) (c:Nat):List In:=l.filter fun x=>decide ((x.av.getD 0 0).toNat=c)
theorem JQ (l:List In) (n:Nat):(rest l n).length=l.length:=by simp [rest]
theorem HU (l:List In) (c:Nat):(qW l c).length≤l.length:=List.length_filter_le _ _
theorem MC (l:List In) (n:Nat) (h:∀ x∈l,n≤x.av.length) (hn:l.length≤1000):tC l (n:Int)=some (rest l n):=by
 refine cS (Comes.next (c':= .L1 (rest (l.take 0) n) ((0:Nat):Int)) (by simp only [kj];rfl) ?_)
 refine Comes.upto (fun i=>xR.L1 (rest (l.take i) n) (i:Int)) l.length (fun i hi=>?_) (Comes.stop ?_)
 ·have e:=JQ (l.take i) n
  rw [List.length_take] at e
  have h1:=h _ (e9 l hi)
  simp only [kj]
  rw [decide_eq_true (by omega),cond_true,ah (by omega),ah (by omega),ah (by omega),ah (by rw [e];simp only [List.length_singleton];omega),ah (by unfold bw;omega),mm l hi,nB]
  unfold rest
  rw [List.map_append]
  rfl
 ·simp only [kj]
  rw [decide_eq_false (by omega),cond_false,List.take_length]
theorem CL {α:Type} [Inhabited α] (p:α→Bool) (l:List α) {i:Nat} (hi:i<l.length):(l.take (i+1)).filter p=(l.take i).filter p++(if p (idx l (i:Int))=true then [idx l (i:Int)] else []):=by
 rw [mm l hi,List.filter_append]
 congr 1
 cases h:p (idx l (i:Int))<;>simp [h]
theorem QU (l:List In) (c:Nat) (h:∀ x∈l,0<x.av.length) (hn:l.length≤1000):wk l (c:Int)=some (qW l c):=by
 refine cS (Comes.next (c':= .L1 (qW (l.take 0) c) ((0:Nat):Int)) (by simp only [jM];rfl) ?_)
 refine Comes.upto (fun i=>r9.L1 (qW (l.take i) c) (i:Int)) l.length (fun i hi=>?_) (Comes.stop ?_)
 ·have e:=HU (l.take i) c
  rw [List.length_take] at e
  have h1:=h _ (e9 l hi)
  have e2:=CL (fun x:In=>decide ((x.av.getD 0 0).toNat=c)) l hi
  have e3:(idx ((idx l (i:Int)).av) (0:Int)).toNat=((idx l (i:Int)).av.getD 0 0).toNat:=rfl
  simp only [jM]
  rw [decide_eq_true (by omega),cond_true,ah (by omega),ah (by omega),e3]
  show _=some (Sum.inl (r9.L1 ((l.take (i+1)).filter _) _))
  rw [e2]
  by_cases hc:((idx l (i:Int)).av.getD 0 0).toNat=c
  ·rw [decide_eq_true (by omega),cond_true,ah (by omega),ah (by simp only [List.length_singleton];omega),Option.bind_some,ah (by unfold bw;omega),if_pos (by simpa using hc)]
   rfl
  ·rw [decide_eq_false (by omega),cond_false,Option.bind_some,ah (by unfold bw;omega),if_neg (by simpa using hc),List.append_nil]
   rfl
 ·simp only [jM]
  rw [decide_eq_false (by omega),cond_false,List.take_length]
end Go.Proofs.YtlfjfoknbjcncaaGreat.K
namespace Go.Proofs.YtlfjfoknbjcncaaGreat.K
open Go
set_option linter.unusedVariables false
set_option linter.unusedSimpArgs false
structure WF (v d:Nat) (l:List In):Prop where
 len:∀ x∈l,x.av.length=d
 KH:∀ x∈l,right x.av=true
 val:∀ x∈l,x.az.length≤v
 nd:l.Pairwise fun x y=>x.av≠y.av
 cnt:l.length≤64
 dep:d≤64
 top:v≤200
theorem pg {p:List UInt8}:right p=true↔∀ b∈p,b.toNat<16:=by
 simp only [right,Bool.not_eq_true',List.any_eq_false,decide_eq_true_eq]
 constructor
 ·intro h b hb;have:=h b hb;omega
 ·intro h b hb;have:=h b hb;omega
theorem MD {p:List UInt8} (h:right p=true) (n:Nat):right (p.take n)=true:=pg.2 fun b hb=>pg.1 h b (List.mem_of_mem_take hb)
theorem WF.rest {v d:Nat} {l:List In} (h:WF v d l) (n:Nat) (hc:∀ x∈l,∀ y∈l,x.av.take n=y.av.take n):WF v (d-n) (rest l n) where
 len x hx:=by
  obtain ⟨y,hy,rfl⟩:=List.mem_map.1 hx
  have:=h.len y hy
  simp only [List.length_drop];omega
 KH x hx:=by
  obtain ⟨y,hy,rfl⟩:=List.mem_map.1 hx
  exact Mr (h.KH y hy) n
 val x hx:=by
  obtain ⟨y,hy,rfl⟩:=List.mem_map.1 hx
  exact h.val y hy
 nd:=by
  unfold K.rest
  rw [List.pairwise_map]
  refine List.Pairwise.imp_of_mem ?_ h.nd
  intro x y hx hy hne he
  refine hne ?_
  rw [← List.take_append_drop n x.av,hc x hx y hy]
  rw [show x.av.drop n=y.av.drop n from he,List.take_append_drop]
 cnt:=by rw [JQ];exact h.cnt
 dep:=by have:=h.dep;omega
 top:=h.top
theorem WF.qW {v d:Nat} {l:List In} (h:WF v d l) (c:Nat):WF v d (qW l c) where
 len x hx:=h.len x ((List.mem_filter.1 hx).1)
 KH x hx:=h.KH x ((List.mem_filter.1 hx).1)
 val x hx:=h.val x ((List.mem_filter.1 hx).1)
 nd:=h.nd.sublist List.filter_sublist
 cnt:=by have:=HU l c;have:=h.cnt;omega
 dep:=h.dep
 top:=h.top
theorem TF {p q:List UInt8} (hp:0<p.length) (hq:0<q.length) (h:(p.getD 0 0).toNat=(q.getD 0 0).toNat):p.take 1=q.take 1:=by
 cases p with
 | nil=>simp at hp
 | cons a p=>cases q with
  | nil=>simp at hq
  | cons b q=>
   have:a=b:=UInt8.toNat_inj.1 h
   simp [this]
theorem WF.HV {v d:Nat} {l:List In} (h:WF v d l) (hd:0<d) (c:Nat):WF v (d-1) (K.rest (K.qW l c) 1):=by
 refine (h.qW c).rest 1 fun x hx y hy=>TF (by rw [(h.qW c).len x hx];exact hd) (by rw [(h.qW c).len y hy];exact hd) ?_
 have h1:=(List.mem_filter.1 hx).2
 have h2:=(List.mem_filter.1 hy).2
 simp only [decide_eq_true_eq] at h1 h2
 rw [h1,h2]
theorem WF.ext {v d:Nat} {l:List In} (h:WF v d l):WF v (d-lH l) (K.rest l (lH l)):=
 h.rest _ fun x hx y hy=>by rw [(qV hx).2,(qV hy).2]
theorem WF.FP {v d:Nat} {l:List In} (h:WF v d l) (h2:2≤l.length):lH l<d:=by
 cases hl:l with
 | nil=>rw [hl] at h2;simp at h2
 | cons x r=>cases hr:r with
  | nil=>rw [hl,hr] at h2;simp at h2
  | cons y q=>
   have hx:x∈l:=by rw [hl];exact List.mem_cons_self ..
   have hy:y∈l:=by rw [hl,hr];simp
   have e1:=qV hx
   have e2:=qV hy
   have n1:=h.len x hx
   have n2:=h.len y hy
   rw [← hr, ← hl]
   refine Nat.lt_of_not_le fun hd=>?_
   have hne:x.av≠y.av:=by
    have:=h.nd
    rw [hl,hr] at this
    exact (List.pairwise_cons.1 this).1 y (List.mem_cons_self ..)
   refine hne ?_
   have:=e1.2.trans e2.2.symm
   rwa [List.take_of_length_le (by omega),List.take_of_length_le (by omega)] at this
noncomputable def iz (l:List In):List UInt8:=(pM l).getD []
noncomputable def wF (l:List In):aE 16 (List UInt8):=⟨(List.range 16).map fun c=>lX (iz (rest (qW l c) 1)),by simp⟩
noncomputable def eV (l:List In):Node:=
 if l.length=1 then ⟨1,p0 l,(idx l (0:Int)).az,aE.rep 16 []⟩
 else if 0<lH l then ⟨2,(p0 l).take (lH l),[],(aE.rep 16 []).put 0 (lX (iz (rest l (lH l))))⟩
 else ⟨3,[],[],wF l⟩
noncomputable def sw (l:List In):List UInt8:=if l=[] then [] else uP (eV l)
theorem Px (k:List UInt8) (h:k∈(aE.rep 16 ([]:List UInt8)).1):k.length≤32:=by
 rw [(List.mem_replicate.1 h).2];simp
theorem vi {v d:Nat} {l:List In} (h:WF v d l) (hl:l≠[]):((eV l).bf=1∨(eV l).bf=2∨(eV l).bf=3)∧CF (eV l).av=true∧(eV l).az.length≤v∧∀ k∈(eV l).aR.1,k.length≤32:=by
 have h0:idx l (0:Int)∈l:=e9 l (i:=0) (List.length_pos_iff.2 hl)
 have hr:=h.KH _ h0
 have hd:=h.len _ h0
 have:=h.dep
 unfold eV
 split
 ·exact ⟨.inl rfl,Mo hr (by show (p0 l).length≤64;unfold p0;omega),h.val _ h0,Px⟩
 ·split
  ·refine ⟨.inr (.inl rfl),Mo (MD hr _) ?_,Nat.zero_le _,fun k hk=>?_⟩
   ·show ((p0 l).take (lH l)).length≤64
    rw [List.length_take];unfold p0;omega
   ·rcases List.mem_or_eq_of_mem_set hk with h1 | h1
    ·exact Px k h1
    ·rw [h1];exact Mz _
  ·refine ⟨.inr (.inr rfl),rfl,Nat.zero_le _,fun k hk=>?_⟩
   have hk:k∈(List.range 16).map fun c=>lX (iz (rest (qW l c) 1)):=hk
   obtain ⟨c,_,rfl⟩:=List.mem_map.1 hk
   exact Mz _
theorem Wx {v d:Nat} {l:List In} (h:WF v d l) (hl:l≠[]):pK (eV l)=some (uP (eV l)):=by
 obtain ⟨h1,h2,h3,h4⟩:=vi h hl
 have:=h.top
 exact QT _ h1 h2 (by omega) h4
theorem Wy {v d:Nat} {l:List In} (h:WF v d l) (hl:l≠[]):1≤(uP (eV l)).length∧(uP (eV l)).length≤532+v∧(l.length=1→(uP (eV l)).length≤39+v)∧(l.length≠1→0<lH l→(uP (eV l)).length≤70)∧(l.length≠1→(uP (eV l)).length≤532):=by
 obtain ⟨h1,h2,h3,h4⟩:=vi h hl
 have ht:=h.top
 obtain ⟨e1,e2,e3,e4⟩:=TD h2 (by omega) h4
 refine ⟨e4,by omega,fun h=>?_,fun h h'=>?_,fun h=>e3⟩
 ·have:(eV l).bf=1:=by unfold eV;rw [if_pos h]
  have:=e1 this;omega
 ·have:(eV l).bf=2:=by unfold eV;rw [if_neg h,if_pos h']
  exact e2 this
noncomputable def wG (f:Nat→List UInt8) (c:Nat):aE 16 (List UInt8):=⟨(List.range 16).map fun i=>if i<c then f i else [],by simp⟩
theorem FQ (f:Nat→List UInt8) (c:Nat):(wG f c).1=(List.range 16).map fun i=>if i<c then f i else []:=rfl
theorem Py (f:Nat→List UInt8):wG f 0=aE.rep 16 []:=by
 apply Subtype.ext
 rw [FQ]
 simp [aE.rep,List.map_const']
theorem JR (f:Nat→List UInt8) {c:Nat} (h:c<16):(wG f c).put (c:Int) (f c)=wG f (c+1):=by
 apply Subtype.ext
 show (wG f c).1.set (c:Int).toNat _=_
 rw [FQ,FQ]
 apply List.ext_getElem
 ·simp
 ·intro i h1 h2
  rw [List.getElem_set,List.getElem_map,List.getElem_map,List.getElem_range]
  by_cases hc:i=c
  ·subst hc;simp
  ·rw [if_neg (by omega)]
   by_cases h3:i<c
   ·rw [if_pos h3,if_pos (by omega)]
   ·rw [if_neg h3,if_neg (by omega)]
theorem ME (f:Nat→List UInt8):(wG f 16).1=(List.range 16).map f:=by
 rw [FQ]
 apply List.map_congr_left
 intro i hi
 rw [if_pos (by simpa using hi)]
def Kn (self:List In→Option (List UInt8)) (v d:Nat):Prop:=∀ d' l',d'<d→WF v d' l'→self l'=some (iz l')∧(iz l').length≤800
theorem OX (self:List In→Option (List UInt8)) {v d:Nat} {l:List In} (h:WF v d l) (hl:l≠[]) (hs:Kn self v d):sg self l=some (eV l,true):=by
 have hpos:0<l.length:=List.length_pos_iff.2 hl
 have ZD:=h.cnt
 have Wz:=h.dep
 refine cS ?_
 by_cases h1:l.length=1
 ·refine Comes.stop ?_
  simp only [gk]
  rw [decide_eq_false (by omega),cond_false,decide_eq_true (by omega),cond_true,ah (by omega),ah (by omega)]
  unfold eV
  rw [if_pos h1]
  rfl
 ·have hlt:=h.FP (by omega)
  have hC:=TE l hl (fun x hx=>by rw [h.len x hx];omega) (by omega)
  by_cases h2:0<lH l
  ·refine Comes.stop ?_
   obtain ⟨X1,hk2⟩:=hs _ _ (show d-lH l<d by omega) h.ext
   have hp:=h.len _ (e9 l (i:=0) hpos)
   rw [show ((0:Nat):Int)=0 from rfl] at hp
   simp only [gk]
   rw [decide_eq_false (by omega),cond_false,decide_eq_false (by omega),cond_false,hC,Option.bind_some,decide_eq_true (by omega),cond_true,ah (by omega),ah (by rw [hp];omega)]
   rw [MC l _ (fun x hx=>(qV hx).1) (by omega),Option.bind_some,X1,Option.bind_some,KF (by omega),Option.bind_some,Dz]
   unfold eV
   rw [if_neg h1,if_pos h2]
   rfl
  ·have hL:Comes (gk self l) (.L1 ((0:Nat):Int) (wG (fun c=>lX (iz (rest (qW l c) 1))) 0)) (eV l,true):=by
    refine Comes.upto (fun i=>xS.L1 (i:Int) (wG (fun c=>lX (iz (rest (qW l c) 1))) i)) 16 (fun i hi=>?_) (Comes.stop ?_)
    ·obtain ⟨X1,hk2⟩:=hs _ _ (show d-1<d by omega) (h.HV (by omega) i)
     have hb:=HU l i
     simp only [gk]
     rw [decide_eq_true (by omega),cond_true,QU l i (fun x hx=>by rw [h.len x hx];omega) (by omega),Option.bind_some]
     rw [show (1:Int)=((1:Nat):Int) from rfl,MC (qW l i) 1 (fun x hx=>by rw [(h.qW i).len x hx];omega) (by omega),Option.bind_some,X1,Option.bind_some,KF (by omega),Option.bind_some,ah (by omega),ah (by unfold bw;omega)]
     rw [JR (fun c=>lX (iz (rest (qW l c) 1))) hi]
     rfl
    ·simp only [gk]
     rw [decide_eq_false (by omega),cond_false]
     unfold eV
     rw [if_neg h1,if_neg h2]
     have:wG (fun c=>lX (iz (rest (qW l c) 1))) 16=wF l:=Subtype.ext (ME _)
     rw [this]
   rw [Py] at hL
   refine Comes.next ?_ hL
   simp only [gk]
   rw [decide_eq_false (by omega),cond_false,decide_eq_false (by omega),cond_false,hC,Option.bind_some,decide_eq_false (by omega),cond_false]
   rfl
theorem QV (self:List In→Option (List UInt8)):∃ x,sg self []=some (x,false):=⟨_,cS (Comes.stop (by simp only [gk];rfl))⟩
theorem MF (v:Nat):∀ n d l,d<n→WF v d l→(∀ m,d<m→kL m l=some (iz l))∧iz l=sw l∧(iz l).length≤800
 | 0,d,l,h,_=>by omega
 | n+1,d,l,hd,h=>by
  have ih:=MF v n
  have key:∀ m,d<m→kL m l=some (sw l):=by
   intro m hm
   obtain ⟨m,rfl⟩:∃ k,m=k+1:=⟨m-1,by omega⟩
   show qj (kL m) l=_
   unfold qj sw
   by_cases hl:l=[]
   ·subst hl
    obtain ⟨x,hx⟩:=QV (kL m)
    rw [hx,if_pos rfl];rfl
   ·rw [OX _ h hl fun d' l' hd' hw=>⟨(ih d' l' (by omega) hw).1 m (by omega),(ih d' l' (by omega) hw).2.2⟩,if_neg hl,Option.bind_some]
    show (pK (eV l)).bind _=_
    rw [Wx h hl];rfl
  have e:iz l=sw l:=by
   unfold iz
   rw [show pM l=some (sw l) from ni (d+1) fun m hm=>key m (by omega)]
   rfl
  refine ⟨fun m hm=>by rw [e];exact key m hm,e,?_⟩
  rw [e]
  unfold sw
  split
  ·simp
  ·rename_i hl
   have:=(Wy h hl).2.1
   have:=h.top
   omega
theorem Pz {v d:Nat} {l:List In} (h:WF v d l):pM l=some (sw l):=by
 obtain ⟨h1,h2,_⟩:=MF v (d+1) d l (by omega) h
 rw [← h2];exact ni (d+1) fun m hm=>h1 m (by omega)
end Go.Proofs.YtlfjfoknbjcncaaGreat.K
namespace Go.Proofs.YtlfjfoknbjcncaaGreat.K
open Go
set_option linter.unusedVariables false
set_option linter.unusedSimpArgs false
theorem EA (p:List UInt8) (h:p.length≤1000000):cW p=some p:=by
 unfold cW
 rw [ah (by simp only [List.length_nil];omega)];rfl
theorem pn (a b:List UInt8) (ha:a.length≤1000000):tw a b=some ((common a b:Nat):Int):=by
 have:∀ k i:Nat,k+i=a.length→Comes (gM a b) (.L1 (i:Int)) ((i+common (a.drop i) (b.drop i):Nat):Int):=by
  intro k
  have hm:∀ i:Nat,decide ((i:Int)<eY (a.length:Int) (b.length:Int))=decide (i<a.length∧i<b.length):=by
   intro i
   unfold eY
   rw [decide_eq_decide]
   split<;>omega
  induction k with
  | zero=>
   intro i hi
   refine Comes.stop ?_
   simp only [gM,hm]
   rw [decide_eq_false (p:=i<a.length∧i<b.length) (by omega),ah (by intro h;cases h),ah (by intro h;cases h),Bool.false_and,cond_false,xk (by omega)]
   rfl
  | succ k ih=>
   intro i hi
   by_cases hb:i<b.length
   ·by_cases he:(a.getD i 0).toNat=(b.getD i 0).toNat
    ·have:=ih (i+1) (by omega)
     refine Comes.next (c':= .L1 ((i+1:Nat):Int)) ?_ (by rw [zf (by omega) hb,if_pos he,show i+(common (a.drop (i+1)) (b.drop (i+1))+1)=i+1+common (a.drop (i+1)) (b.drop (i+1)) by omega];exact this)
     simp only [gM,hm]
     rw [ah (by intro _;omega),ah (by intro _;omega),decide_eq_true (p:=i<a.length∧i<b.length) (by omega),Bool.true_and]
     rw [show idx a (i:Int)=a.getD i 0 from gl a i,show idx b (i:Int)=b.getD i 0 from gl b i,he,decide_eq_true rfl,cond_true,ah (by unfold bw;omega)]
     rfl
    ·refine Comes.stop ?_
     rw [zf (by omega) hb,if_neg he]
     simp only [gM,hm]
     rw [ah (by intro _;omega),ah (by intro _;omega)]
     rw [show idx a (i:Int)=a.getD i 0 from gl a i,show idx b (i:Int)=b.getD i 0 from gl b i,show decide (((a.getD i 0).toNat:Int)=((b.getD i 0).toNat:Int))=false from decide_eq_false (by omega),Bool.and_false,cond_false]
     rfl
   ·refine Comes.stop ?_
    rw [xk (by omega)]
    simp only [gM,hm]
    rw [decide_eq_false (p:=i<a.length∧i<b.length) (by omega),ah (by intro h;cases h),ah (by intro h;cases h),Bool.false_and,cond_false]
    rfl
 have:=this a.length 0 rfl
 rw [Nat.zero_add,List.drop_zero,List.drop_zero] at this
 exact cS (Comes.next (by simp only [gM];rfl) this)
theorem Bk (k:aE 32 UInt8):rj k=some (dD k.1):=by
 have hk:k.1.length=32:=k.2
 refine cS (Comes.next (c':= .L1 (dD (k.1.take 0)) ((0:Nat):Int)) (by simp only [lO];rfl) ?_)
 refine Comes.upto (fun i=>Ae.L1 (dD (k.1.take i)) (i:Int)) 32 (fun i hi=>?_) (Comes.stop ?_)
 ·simp only [lO]
  have hl:(dD (k.1.take i)).length≤64:=by rw [qR,List.length_take];omega
  rw [decide_eq_true (by omega),cond_true,ah (by omega),ah (by simp only [List.length_cons,List.length_nil];omega),ah (by unfold bw;omega)]
  rw [Fb (by omega),show idx k.1 (i:Int)=k.1.getD i 0 from gl k.1 i,Tb,Po]
  rfl
 ·simp only [lO]
  rw [decide_eq_false (by omega),cond_false,List.take_of_length_le (by omega)]
theorem QX (s:List UInt8) (hs:s.length≤1000000):vT s=some (lX s):=by
 unfold vT lX
 by_cases h:s.length<32
 ·rw [decide_eq_true (by omega),cond_true,if_neg (by omega)]
 ·obtain ⟨r,e1,e2⟩:=VY s hs
  rw [decide_eq_false (by omega),cond_false,if_pos (by omega),e2, ← e1];rfl
theorem V7 (a b:List UInt8) (ha:a.length≤1000000):mg a b=some (a==b):=by
 by_cases hl:a.length=b.length
 ·refine cS (Comes.next (c':= .L1 ((0:Nat):Int)) (by simp only [cR];rw [decide_eq_true (by omega)];rfl) ?_)
  have:=Comes.all (step:=cR a b) (fun i=> .L1 (i:Int)) (fun i=>idx a (i:Int)==idx b (i:Int)) a.length false true (by
   intro i hi hq
   rw [beq_iff_eq] at hq
   simp only [cR]
   rw [decide_eq_true (by omega),cond_true,ah (by omega),ah (by omega),hq,decide_eq_true rfl,Bool.not_true,cond_false,ah (by unfold bw;omega)]
   rfl) (by
   intro i hi hq
   rw [beq_eq_false_iff_ne] at hq
   simp only [cR]
   rw [decide_eq_true (by omega),cond_true,ah (by omega),ah (by omega),decide_eq_false (p:=((idx a (i:Int)).toNat:Int)=((idx b (i:Int)).toNat:Int)) (fun h=>hq (UInt8.toNat_inj.1 (by omega)))]
   rfl) (by
   refine Comes.stop ?_
   simp only [cR]
   rw [decide_eq_false (by omega)];rfl)
  have he:((List.range a.length).all fun i=>idx a (i:Int)==idx b (i:Int))=(a==b):=by
   rw [Bool.eq_iff_iff,List.all_eq_true,beq_iff_eq]
   constructor
   ·intro hh
    refine List.ext_getElem hl fun i h1 h2=>?_
    have:=hh i (by simpa using h1)
    rw [beq_iff_eq,lW a h1,lW b h2] at this
    exact this
   ·intro e i _
    rw [e,beq_iff_eq]
  rw [he] at this
  cases hb:(a==b) with
  | true=>rw [hb] at this;exact this
  | false=>rw [hb] at this;exact this
 ·have:(a==b)=false:=by rw [beq_eq_false_iff_ne];intro e;rw [e] at hl;exact hl rfl
  rw [this]
  refine cS (Comes.stop ?_)
  simp only [cR]
  rw [decide_eq_false (by omega)];rfl
theorem zl:∀ a b:List UInt8,common a b≤a.length∧common a b≤b.length
 | [],b=>by simp [common]
 | x::a,[]=>by simp [common]
 | x::a,y::b=>by
  have:=zl a b
  rw [common]
  split
  ·simp only [List.length_cons];omega
  ·simp
theorem xV:∀ p q:List UInt8,common p q<p.length→common p q<q.length→∃ a x p' y q',p=a++x::p'∧q=a++y::q'∧x≠y∧a.length=common p q
 | [],q,h,_=>by simp at h
 | x::p,[],_,h=>by simp at h
 | x::p,y::q,h1,h2=>by
  rw [common] at h1 h2 ⊢
  by_cases h:x=y
  ·rw [if_pos h] at h1 h2 ⊢
   simp only [List.length_cons] at h1 h2
   obtain ⟨a,x',p',y',q',e1,e2,e3,e4⟩:=xV p q (by omega) (by omega)
   exact ⟨x::a,x',p',y',q',by rw [e1];rfl,by rw [e2,h];rfl,e3,by simp [e4]⟩
  ·rw [if_neg h]
   exact ⟨[],x,p,y,q,rfl,rfl,h,rfl⟩
theorem xq:∀ p q:List UInt8,p.length≤common p q→∃ r,q=p++r
 | [],q,_=>⟨q,rfl⟩
 | x::p,[],h=>by simp [common] at h
 | x::p,y::q,h=>by
  rw [common] at h
  by_cases he:x=y
  ·rw [if_pos he] at h
   simp only [List.length_cons] at h
   obtain ⟨r,e⟩:=xq p q (by omega)
   exact ⟨r,by rw [e,he];rfl⟩
  ·rw [if_neg he] at h;simp at h
theorem zm:∀ p r:List UInt8,common p (p++r)=p.length
 | [],r=>by cases r<;>rfl
 | x::p,r=>by rw [List.cons_append,common,if_pos rfl,zm p r];rfl
theorem zn {a b:List UInt8}:right (a++b)=true↔right a=true∧right b=true:=by
 rw [pg,pg,pg]
 simp only [List.mem_append]
 exact ⟨fun h=>⟨fun b hb=>h b (.inl hb),fun b hb=>h b (.inr hb)⟩,fun h b hb=>hb.elim (h.1 b) (h.2 b)⟩
theorem DO {x:UInt8} {a:List UInt8}:right (x::a)=true↔x.toNat<16∧right a=true:=by
 rw [show x::a=[x]++a from rfl,zn,pg]
 simp
def PQ (d:Nat) (q:List UInt8):Prop:=q.length=d∧right q=true
def nb (c:UInt8):Fin 16:=⟨c.toNat%16,Nat.mod_lt _ (by omega)⟩
theorem xW {c:UInt8} (h:c.toNat<16):nb c=⟨c.toNat,h⟩:=Fin.ext (Nat.mod_eq_of_lt h)
def wH (f:Fin 16→aa) (c:Fin 16) (x:aa):Fin 16→aa:=fun i=>if i=c then x else f i
def one (x:aa):Fin 16→aa:=fun i=>if i=0 then x else .nil
def jq (p v:List UInt8):aa:= .node 1 p v (fun _=> .nil) []
def lY (p:List UInt8) (x:aa):aa:= .node 2 p [] (one x) []
def gq (f:Fin 16→aa):aa:= .node 3 [] [] f []
def uj (p:List UInt8) (x:aa):aa:=if p=[] then x else lY p x
def look:aa→List UInt8→Option (List UInt8)
 | .nil,_=>none
 | .node k p v f _,q=>if k=1 then (if q=p then some v else none) else if k=2 then (if q.take p.length=p then look (f 0) (q.drop p.length) else none) else
  match q with
  | []=>none
  | c::s=>look (f (nb c)) s
theorem nC (q:List UInt8):look .nil q=none:=by rw [look]
theorem jr (p v q:List UInt8):look (jq p v) q=if q=p then some v else none:=by
 unfold jq;rw [look.eq_def];exact if_pos rfl
theorem jO (p:List UInt8) (x:aa) (q:List UInt8):look (lY p x) q=if q.take p.length=p then look x (q.drop p.length) else none:=by
 unfold lY;rw [look.eq_def];rfl
theorem oc (f:Fin 16→aa) (c:UInt8) (s:List UInt8):look (gq f) (c::s)=look (f (nb c)) s:=by
 unfold gq;rw [look,if_neg (by decide),if_neg (by decide)]
theorem Bl (p:List UInt8) (x:aa) (q:List UInt8):look (uj p x) q=if q.take p.length=p then look x (q.drop p.length) else none:=by
 unfold uj
 by_cases h:p=[]
 ·subst h;simp
 ·rw [if_neg h,jO]
theorem OY (p:List UInt8) (x:aa) (q:List UInt8):look (uj p x) (p++q)=look x q:=by
 rw [Bl,List.take_left,if_pos rfl,List.drop_left]
inductive TW:Nat→aa→Prop
 | leaf {d:Nat} {p v:List UInt8}:PQ d p→TW d (jq p v)
 | ext {d e:Nat} {p:List UInt8} {f:Fin 16→aa}:e=p.length+d→p≠[]→right p=true→TW d (gq f)→TW e (lY p (gq f))
 | br {d e:Nat} {f:Fin 16→aa}:e=d+1→(∀ c,f c≠ .nil→TW d (f c))→(∃ a b,a≠b∧f a≠ .nil∧f b≠ .nil)→TW e (gq f)
def TN (d:Nat) (t:aa):Prop:=t= .nil∨TW d t
def TG (t:aa):Prop:=∃ f,t=gq f
theorem TW.ne {d:Nat} {t:aa} (h:TW d t):t≠ .nil:=by
 cases h<;>exact fun e=>by cases e
theorem TW.isNil {d:Nat} {t:aa} (h:TW d t):t.isNil=false:=by
 cases h<;>rfl
theorem HW {d e:Nat} {p:List UInt8} {f:Fin 16→aa} (he:e=p.length+d) (hp:right p=true) (h:TW d (gq f)):TW e (uj p (gq f)):=by
 unfold uj
 by_cases h0:p=[]
 ·subst h0;rw [if_pos rfl,he];simpa using h
 ·rw [if_neg h0];exact .ext he h0 hp h
theorem vj (f:Fin 16→aa) (c:Nat) (h:c<16):idx (List.ofFn f) (c:Int)=f ⟨c,h⟩:=by
 rw [lW _ (by simpa using h),List.getElem_ofFn]
def zS (f:Fin 16→aa):aE 16 aa:=⟨List.ofFn f,by simp⟩
theorem yD (f:Fin 16→aa) (c:Nat) (h:c<16) (x:aa):(zS f).put (c:Int) x=zS (wH f ⟨c,h⟩ x):=by
 apply Subtype.ext
 show (List.ofFn f).set c x=List.ofFn (wH f ⟨c,h⟩ x)
 apply List.ext_getElem
 ·simp
 ·intro i h1 h2
  rw [List.getElem_set,List.getElem_ofFn,List.getElem_ofFn]
  unfold wH
  by_cases hc:c=i
  ·subst hc;rw [if_pos rfl,if_pos rfl]
  ·rw [if_neg hc,if_neg (fun e=>hc (by rw [Fin.mk.injEq] at e;exact e.symm))]
theorem DP (k:Int) (p v r:List UInt8) (f:Fin 16→aa):aa.of ⟨k,p,v,zS f,r⟩= .node k p v f r:=by
 unfold aa.of
 congr 1
 funext i
 show (List.ofFn f).getD i.1 .nil=f i
 rw [List.getD_eq_getElem?_getD,List.getElem?_eq_getElem (by simp),List.getElem_ofFn]
 rfl
theorem HX:(aE.rep 16 aa.nil)=zS fun _=> .nil:=Subtype.ext rfl
theorem TH (x:aa) (h):(⟨[x, .nil, .nil, .nil, .nil, .nil, .nil, .nil, .nil, .nil, .nil, .nil, .nil, .nil, .nil, .nil],h⟩:aE 16 aa)=zS (one x):=Subtype.ext rfl
theorem AJ (p v:List UInt8) (h:p.length≤1000000):lA p v=some (jq p v):=by
 unfold lA
 rw [EA p h,Option.bind_some,HX,DP];rfl
theorem DQ (p:List UInt8) (x:aa) (h:p.length≤1000000):lC p x=some (uj p x):=by
 unfold lC uj
 by_cases h0:p=[]
 ·subst h0;rfl
 ·have:p.length≠0:=fun e=>h0 (List.eq_nil_of_length_eq_zero e)
  rw [decide_eq_false (by omega),cond_false,EA p h,Option.bind_some,if_neg h0]
  rw [TH,DP];rfl
theorem MG {p q a p' q':List UInt8} {x y:UInt8} {v:List UInt8} {p0 K:aa} (ep:p0.at.bE=p) (h1:p=a++x::p') (h2:q=a++y::q') (hx:x.toNat<16) (hy:y.toNat<16) (hp:p.length≤100) (hq:q.length≤100) (hn:p0.isNil=false)
  (hK:(p0.at.aZ=1∧K=jq p' p0.at.dK)∨(p0.at.aZ=2∧K=uj p' (idx p0.at.bZ.1 (0:Int)))):
  mN p0 q v (a.length:Int)=some (uj a (gq (wH (wH (fun _=> .nil) ⟨y.toNat,hy⟩ (jq q' v)) ⟨x.toNat,hx⟩ K))):=by
 have l1:p.length=a.length+(p'.length+1):=by rw [h1];simp
 have l2:q.length=a.length+(q'.length+1):=by rw [h2];simp
 have d1:p.drop (a.length+1)=p':=by rw [h1, ← List.drop_drop,List.drop_left];rfl
 have d2:q.drop (a.length+1)=q':=by rw [h2, ← List.drop_drop,List.drop_left];rfl
 have t2:q.take a.length=a:=by rw [h2,List.take_left]
 have i1:idx p (a.length:Int)=x:=by rw [gl,h1];simp
 have i2:idx q (a.length:Int)=y:=by rw [gl,h2];simp
 have e1:((a.length:Int)+1)=((a.length+1:Nat):Int):=by omega
 unfold mN
 rw [ep,ah (by omega),e1,ah (by unfold bw;omega),ah (by omega),nB,d2,AJ _ _ (by omega),Option.bind_some,i2,ah (by omega),ah hn,ah (by omega),ah hn]
 have last:∀ F:Fin 16→aa,(gO (0≤(0:Int)∧(0:Int)≤(a.length:Int)∧(a.length:Int)≤(q.length:Int)) ((lC (sub q (0:Int) (a.length:Int)) (aa.of (⟨3,([]:(List UInt8)),([]:List UInt8),zS F,([]:List UInt8)⟩:part))).bind fun (ym:aa)=>some ym))=some (uj a (gq F)):=by
  intro F
  rw [ah (by omega),Dz,t2,DP,DQ _ _ (by omega)];rfl
 rcases hK with ⟨k1,rfl⟩ | ⟨k1,rfl⟩
 ·rw [k1,decide_eq_true rfl,cond_true,ah hn,ah (by unfold bw;omega),ah (by omega),ah hn,nB,d1,AJ _ _ (by omega),Option.bind_some,i1,ah (by omega),Option.bind_some,HX,yD _ _ hy,yD _ _ hx]
  exact last _
 ·rw [k1,decide_eq_false (by decide),cond_false,ah hn,ah (by unfold bw;omega),ah (by omega),ah hn,nB,d1,DQ _ _ (by omega),Option.bind_some,i1,ah (by omega),Option.bind_some,HX,yD _ _ hy,yD _ _ hx]
  exact last _
end Go.Proofs.YtlfjfoknbjcncaaGreat.K
namespace Go.Proofs.YtlfjfoknbjcncaaGreat.K
open Go
set_option linter.unusedVariables false
set_option linter.unusedSimpArgs false
theorem PQ.cons {d:Nat} {c:UInt8} {s:List UInt8}:PQ (d+1) (c::s)↔c.toNat<16∧PQ d s:=by
 unfold PQ
 rw [DO,List.length_cons]
 exact ⟨fun ⟨h1,h2,h3⟩=>⟨h2,by omega,h3⟩,fun ⟨h1,h2,h3⟩=>⟨by omega,h1,h3⟩⟩
theorem PQ.app {d:Nat} {a s:List UInt8}:PQ (a.length+d) (a++s)↔right a=true∧PQ d s:=by
 unfold PQ
 rw [zn,List.length_append]
 exact ⟨fun ⟨h1,h2,h3⟩=>⟨h2,by omega,h3⟩,fun ⟨h1,h2,h3⟩=>⟨by omega,h1,h3⟩⟩
theorem PQ.xu {d:Nat} {s:List UInt8} (h:PQ (d+1) s):∃ c r,s=c::r∧c.toNat<16∧PQ d r:=by
 cases s with
 | nil=>exact absurd h.1 (by simp)
 | cons c r=>exact ⟨c,r,rfl,PQ.cons.1 h⟩
theorem pO {a s:List UInt8} (h:s.take a.length=a):∃ r,s=a++r:=⟨s.drop a.length,by
 have:=List.take_append_drop a.length s
 rw [h] at this;exact this.symm⟩
theorem HY {t K:aa} {a q':List UInt8} {x y:UInt8} {v:List UInt8} {d:Nat} (hx:x.toNat<16) (hy:y.toNat<16) (hne:x≠y) (hd:PQ d (a++y::q'))
  (hK:∀ s,PQ (d-a.length-1) s→look K s=look t (a++x::s)) (h0:∀ s,PQ d s→(∀ r,s≠a++x::r)→look t s=none) (s:List UInt8) (hs:PQ d s):
  look (uj a (gq (wH (wH (fun _=> .nil) ⟨y.toNat,hy⟩ (jq q' v)) ⟨x.toNat,hx⟩ K))) s=if s=a++y::q' then some v else look t s:=by
 by_cases hp:s.take a.length=a
 ·obtain ⟨r,rfl⟩:=pO hp
  have hl:=hd.1
  have Rw:=hs.1
  rw [List.length_append,List.length_cons] at hl
  rw [List.length_append] at Rw
  have MH:=hs
  rw [show d=a.length+(q'.length+1) by omega,PQ.app] at MH
  obtain ⟨c,r,rfl,hc,hr⟩:=MH.2.xu
  rw [OY,oc,xW hc]
  unfold wH
  by_cases h1:c=x
  ·subst h1
   rw [if_pos rfl,if_neg (fun e=>hne (by have:=List.append_cancel_left e;injection this)),hK r (by rw [show d-a.length-1=q'.length by omega];exact hr)]
  ·rw [if_neg (fun e=>h1 (by rw [Fin.mk.injEq,UInt8.toNat_inj] at e;exact e))]
   have hz:look t (a++c::r)=none:=h0 _ hs fun r' e=>h1 (by have:=List.append_cancel_left e;injection this)
   by_cases h2:c=y
   ·subst h2
    rw [if_pos rfl,jr,hz]
    by_cases h3:r=q'
    ·rw [if_pos h3,if_pos (by rw [h3])]
    ·rw [if_neg h3,if_neg (fun e=>h3 (by have:=List.append_cancel_left e;injection this))]
   ·rw [if_neg (fun e=>h2 (by rw [Fin.mk.injEq,UInt8.toNat_inj] at e;exact e)),nC,hz,if_neg (fun e=>h2 (by have:=List.append_cancel_left e;injection this))]
 ·rw [Bl,if_neg hp,if_neg (fun e=>hp (by rw [e,List.take_left])),h0 s hs fun r e=>hp (by rw [e,List.take_left])]
theorem MI {a q' v:List UInt8} {x y:UInt8} {d:Nat} {K:aa} (hx:x.toNat<16) (hy:y.toNat<16) (hne:x≠y) (hd:PQ d (a++y::q')) (hK:TW (d-a.length-1) K):
  TW d (uj a (gq (wH (wH (fun _=> .nil) ⟨y.toNat,hy⟩ (jq q' v)) ⟨x.toNat,hx⟩ K))):=by
 have hl:=hd.1
 rw [List.length_append,List.length_cons] at hl
 have Qe:=hd
 rw [show d=a.length+(q'.length+1) by omega,PQ.app,PQ.cons] at Qe
 have hxy:(⟨y.toNat,hy⟩:Fin 16)≠⟨x.toNat,hx⟩:=fun e=>hne (by rw [Fin.mk.injEq,UInt8.toNat_inj] at e;exact e.symm)
 refine HW (d:=q'.length+1) (by omega) Qe.1 (.br rfl (fun c hc=>?_) ⟨⟨y.toNat,hy⟩,⟨x.toNat,hx⟩,hxy,?_,?_⟩)
 ·unfold wH at hc ⊢
  by_cases h1:c=⟨x.toNat,hx⟩
  ·rw [if_pos h1];rw [show q'.length=d-a.length-1 by omega];exact hK
  ·rw [if_neg h1] at hc ⊢
   by_cases h2:c=⟨y.toNat,hy⟩
   ·rw [if_pos h2];exact .leaf Qe.2.2
   ·rw [if_neg h2] at hc;exact absurd rfl hc
 ·unfold wH
  rw [if_neg hxy,if_pos rfl];exact fun e=>by cases e
 ·unfold wH
  rw [if_pos rfl];exact hK.ne
theorem MJ (v:List UInt8):∀ (n d:Nat) (t:aa) (q:List UInt8),d<n→TN d t→PQ d q→d≤64→∃ t',(∀ m,d<m→jk m t q v=some t')∧TW d t'∧(TG t→TG t')∧∀ s,PQ d s→look t' s=if s=q then some v else look t s
 | 0,d,t,q,h,_,_,_=>by omega
 | n+1,d,t,q,hd,ht,hq,FD=>by
  have ih:=MJ v n
  have X2:=hq.1
  have up:∀ t',(∀ m,d≤m→gn (jk m) t q v=some t')→∀ m,d<m→jk m t q v=some t':=by
   intro t' h m hm
   obtain ⟨m,rfl⟩:∃ k,m=k+1:=⟨m-1,by omega⟩
   exact h m (by omega)
  rcases ht with rfl | ht
  ·refine ⟨jq q v,up _ fun m hm=>?_, .leaf hq,fun ⟨f,e⟩=>(by cases e),fun s _=>by rw [jr,nC]⟩
   unfold gn
   rw [show aa.nil.isNil=true from rfl,cond_true,AJ _ _ (by omega)];rfl
  ·cases ht with
   | @leaf _ p v0 hp=>
    have Kx:=hp.1
    have KY:=zl p q
    by_cases hc:common p q<p.length
    ·obtain ⟨a,x,p',y,q',e1,e2,e3,e4⟩:=xV p q hc (by omega)
     have LA:=hp
     have zT:=hq
     rw [e1] at LA
     rw [e2] at zT
     have l1:p.length=a.length+(p'.length+1):=by rw [e1];simp
     have l2:q.length=a.length+(q'.length+1):=by rw [e2];simp
     have z8:=LA
     have KI:=zT
     rw [show d=a.length+(p'.length+1) by omega,PQ.app,PQ.cons] at z8
     rw [show d=a.length+(q'.length+1) by omega,PQ.app,PQ.cons] at KI
     refine ⟨_,up _ fun m hm=>?_,MI (K:=jq p' v0) (v:=v) z8.2.1 KI.2.1 e3 zT (.leaf (by rw [show d-a.length-1=p'.length by omega];exact z8.2.2)),fun ⟨f,e⟩=>(by cases e),fun s hs=>?_⟩
     ·unfold gn
      have hf:=MG (p:=p) (q:=q) (v:=v) (p0:=jq p v0) (K:=jq p' v0) rfl e1 e2 z8.2.1 KI.2.1 (by omega) (by omega) rfl (.inl ⟨rfl,rfl⟩)
      rw [show (jq p v0).isNil=false from rfl,cond_false,ah rfl,show (jq p v0).at.bE=p from rfl,pn _ _ (by omega),Option.bind_some,ah rfl,show (jq p v0).at.aZ=1 from rfl,decide_eq_false (by decide),cond_false,ah rfl,decide_eq_true (by omega),cond_true, ← e4,hf]
      rfl
     ·rw [HY (t:=jq p v0) z8.2.1 KI.2.1 e3 zT (fun r hr=>?_) (fun r hr hn=>?_) s hs,e2]
      ·rw [jr,jr,e1]
       by_cases h:r=p'
       ·rw [if_pos h,if_pos (by rw [h])]
       ·rw [if_neg h,if_neg (fun e=>h (by have:=List.append_cancel_left e;injection this))]
      ·rw [jr,if_neg (fun e=>hn p' (by rw [e,e1]))]
    ·obtain ⟨r,e⟩:=xq p q (by omega)
     have er:r=[]:=List.eq_nil_of_length_eq_zero (by have:=congrArg List.length e;rw [List.length_append] at this;omega)
     rw [er,List.append_nil] at e
     subst e
     refine ⟨jq q v,up _ fun m hm=>?_, .leaf hq,fun ⟨f,e⟩=>(by cases e),fun s _=>?_⟩
     ·unfold gn
      rw [show (jq q v0).isNil=false from rfl,cond_false,ah rfl,show (jq q v0).at.bE=q from rfl,pn _ _ (by omega),Option.bind_some,ah rfl,show (jq q v0).at.aZ=1 from rfl,decide_eq_false (by decide),cond_false,ah rfl,decide_eq_false (by omega),cond_false,ah rfl,decide_eq_true rfl,cond_true,AJ _ _ (by omega)]
      rfl
     ·rw [jr,jr]
      by_cases h:s=q
      ·rw [if_pos h,if_pos h]
      ·rw [if_neg h,if_neg h];exact (if_neg h).symm
   | @ext d' _ p f he tK EB hb=>
    have KY:=zl p q
    have Lz:0<p.length:=List.length_pos_iff.2 tK
    by_cases hc:common p q<p.length
    ·obtain ⟨a,x,p',y,q',e1,e2,e3,e4⟩:=xV p q hc (by omega)
     have zT:=hq
     rw [e2] at zT
     have l1:p.length=a.length+(p'.length+1):=by rw [e1];simp
     have l2:q.length=a.length+(q'.length+1):=by rw [e2];simp
     have z8:=EB
     have KI:=zT
     rw [e1,zn,DO] at z8
     rw [show d=a.length+(q'.length+1) by omega,PQ.app,PQ.cons] at KI
     refine ⟨_,up _ fun m hm=>?_,MI (K:=uj p' (gq f)) (v:=v) z8.2.1 KI.2.1 e3 zT (HW (by omega) z8.2.2 hb),fun ⟨f,e⟩=>(by cases e),fun s hs=>?_⟩
     ·unfold gn
      have hf:=MG (p:=p) (q:=q) (v:=v) (p0:=lY p (gq f)) (K:=uj p' (gq f)) rfl e1 e2 z8.2.1 KI.2.1 (by omega) (by omega) rfl (.inr ⟨rfl,rfl⟩)
      rw [show (lY p (gq f)).isNil=false from rfl,cond_false,ah rfl,show (lY p (gq f)).at.bE=p from rfl,pn _ _ (by omega),Option.bind_some,ah rfl,show (lY p (gq f)).at.aZ=2 from rfl,decide_eq_false (by decide),cond_false,ah rfl,decide_eq_true (by omega),cond_true, ← e4,hf]
      rfl
     ·rw [HY (t:=lY p (gq f)) z8.2.1 KI.2.1 e3 zT (fun r hr=>?_) (fun r hr hn=>?_) s hs,e2]
      ·rw [Bl,jO,e1]
       have ea:(a++x::r).take (a++x::p').length=a++x::r.take p'.length:=by
        rw [List.length_append,List.length_cons,List.take_append,List.take_of_length_le (by omega),show a.length+(p'.length+1)-a.length=p'.length+1 by omega,List.take_succ_cons]
       have eb:(a++x::r).drop (a++x::p').length=r.drop p'.length:=by
        rw [List.length_append,List.length_cons,List.drop_append,List.drop_eq_nil_of_le (by omega),List.nil_append,show a.length+(p'.length+1)-a.length=p'.length+1 by omega,List.drop_succ_cons]
       rw [ea,eb]
       by_cases h:r.take p'.length=p'
       ·rw [if_pos h,if_pos (by rw [h])]
       ·rw [if_neg h,if_neg (fun e=>h (by have:=List.append_cancel_left e;injection this))]
      ·rw [jO,if_neg (fun e=>?_)]
       obtain ⟨z,ez⟩:=pO e
       exact hn (p'++z) (by rw [ez,e1];simp)
    ·obtain ⟨r,rfl⟩:=xq p q (by omega)
     have zT:=hq
     rw [he,PQ.app] at zT
     obtain ⟨x,g1,g2,g3,g4⟩:=ih d' (gq f) r (by omega) (.inr hb) zT.2 (by omega)
     obtain ⟨f',rfl⟩:=g3 ⟨f,rfl⟩
     refine ⟨lY p (gq f'),up _ fun m hm=>?_, .ext he tK EB g2,fun ⟨f,e⟩=>(by cases e),fun s hs=>?_⟩
     ·unfold gn
      rw [show (lY p (gq f)).isNil=false from rfl,cond_false,ah rfl,show (lY p (gq f)).at.bE=p from rfl,pn _ _ (by omega),Option.bind_some,ah rfl,show (lY p (gq f)).at.aZ=2 from rfl,decide_eq_false (by decide),cond_false,ah rfl,decide_eq_false (by omega),cond_false,ah rfl,decide_eq_false (by decide),cond_false,ah rfl,decide_eq_true rfl,cond_true,ah rfl,ah rfl,zm,ah (by rw [List.length_append];omega),nB,List.drop_left]
      rw [show idx (lY p (gq f)).at.bZ.1 (0:Int)=gq f from rfl,g1 m (by omega),Option.bind_some,DQ _ _ (by omega),Option.bind_some]
      unfold uj
      rw [if_neg tK]
     ·rw [jO,jO]
      by_cases h:s.take p.length=p
      ·obtain ⟨z,rfl⟩:=pO h
       have MH:=hs
       rw [he,PQ.app] at MH
       rw [if_pos h,if_pos h,List.drop_left,g4 z MH.2]
       by_cases hz:z=r
       ·rw [if_pos hz,if_pos (by rw [hz])]
       ·rw [if_neg hz,if_neg (fun e=>hz (List.append_cancel_left e))]
      ·rw [if_neg h,if_neg h,if_neg (fun e=>h (by rw [e,List.take_left]))]
   | @br d' _ f he hk h2=>
    subst he
    obtain ⟨c,r,rfl,hc,hr⟩:=hq.xu
    obtain ⟨x,g1,g2,g3,g4⟩:=ih d' (f ⟨c.toNat,hc⟩) r (by omega) (by
     by_cases h:f ⟨c.toNat,hc⟩= .nil
     ·exact .inl h
     ·exact .inr (hk _ h)) hr (by omega)
    refine ⟨gq (wH f ⟨c.toNat,hc⟩ x),up _ fun m hm=>?_, .br rfl (fun i hi=>?_) ?_,fun _=>⟨_,rfl⟩,fun s hs=>?_⟩
    ·unfold gn
     have ha:((gq f).at.bZ)=zS f:=rfl
     have hcn:common [] (c::r)=0:=rfl
     have hi:idx (c::r) (0:Int)=c:=rfl
     rw [show (gq f).isNil=false from rfl,cond_false,ah rfl,show (gq f).at.bE=[] from rfl,pn _ _ (by simp),Option.bind_some,ah rfl,show (gq f).at.aZ=3 from rfl,decide_eq_false (by decide),cond_false,ah rfl,hcn,decide_eq_false (by decide),cond_false,ah rfl,decide_eq_false (by decide),cond_false,ah rfl,decide_eq_false (by decide),cond_false,ah rfl]
     rw [List.length_cons,ah (by omega),ah (by omega),ah rfl,hi,ah (by omega),ah (by omega)]
     rw [show (sub (c::r) (1:Int) ((r.length+1:Nat):Int))=r from nB (c::r) 1,ha,show (zS f).1=List.ofFn f from rfl,vj f _ hc,g1 m (by omega),Option.bind_some,ah (by omega),yD f _ hc,DP]
     rfl
    ·unfold wH at hi ⊢
     by_cases h:i=⟨c.toNat,hc⟩
     ·rw [if_pos h];exact g2
     ·rw [if_neg h] at hi ⊢;exact hk i hi
    ·obtain ⟨a,b,hab,ha,hb⟩:=h2
     refine ⟨a,b,hab,?_,?_⟩
     ·unfold wH
      split
      ·exact g2.ne
      ·exact ha
     ·unfold wH
      split
      ·exact g2.ne
      ·exact hb
    ·obtain ⟨c',r',rfl,TI,hr'⟩:=hs.xu
     rw [oc,oc,xW TI]
     unfold wH
     by_cases h:c'=c
     ·subst h
      rw [if_pos rfl,g4 r' hr']
      by_cases h3:r'=r
      ·rw [if_pos h3,if_pos (by rw [h3])]
      ·rw [if_neg h3,if_neg (fun e=>h3 (by injection e))]
     ·rw [if_neg (fun e=>h (by rw [Fin.mk.injEq,UInt8.toNat_inj] at e;exact e)),if_neg (fun e=>h (by injection e))]
theorem JS {d:Nat} {t:aa} {q:List UInt8} (v:List UInt8) (ht:TN d t) (hq:PQ d q) (FD:d≤64):∃ t',pJ t q v=some t'∧TW d t'∧∀ s,PQ d s→look t' s=if s=q then some v else look t s:=by
 obtain ⟨t',h1,h2,_,h3⟩:=MJ v (d+1) d t q (by omega) ht hq FD
 exact ⟨t',ni (d+1) fun m hm=>h1 m (by omega),h2,h3⟩
end Go.Proofs.YtlfjfoknbjcncaaGreat.K
namespace Go.Proofs.YtlfjfoknbjcncaaGreat.K
open Go
set_option linter.unusedVariables false
set_option linter.unusedSimpArgs false
theorem MK:∀ (n d:Nat) (t:aa) (q:List UInt8),d<n→TN d t→PQ d q→d≤64→∃ v b,(∀ m,d<m→jl m t q=some (v,b))∧look t q=if b=true then some v else none
 | 0,d,t,q,h,_,_,_=>by omega
 | n+1,d,t,q,hd,ht,hq,FD=>by
  have ih:=MK n
  have X2:=hq.1
  have up:∀ r,(∀ m,d≤m→gY (jl m) t q=some r)→∀ m,d<m→jl m t q=some r:=by
   intro r h m hm
   obtain ⟨m,rfl⟩:∃ k,m=k+1:=⟨m-1,by omega⟩
   exact h m (by omega)
  rcases ht with rfl | ht
  ·refine ⟨[],false,up _ fun m hm=>?_,by rw [nC];rfl⟩
   unfold gY
   rw [show aa.nil.isNil=true from rfl,cond_true]
  ·cases ht with
   | @leaf _ p v0 hp=>
    have Kx:=hp.1
    refine ⟨v0,p==q,up _ fun m hm=>?_,?_⟩
    ·unfold gY
     rw [show (jq p v0).isNil=false from rfl,cond_false,ah rfl,show (jq p v0).at.aZ=1 from rfl,decide_eq_false (by decide),cond_false,decide_eq_true rfl,cond_true,ah rfl,ah rfl,show (jq p v0).at.bE=p from rfl,V7 _ _ (by omega)]
     rfl
    ·rw [jr]
     by_cases h:q=p
     ·rw [if_pos h,if_pos (by rw [h];exact beq_self_eq_true p)]
     ·rw [if_neg h,if_neg (fun e=>h (beq_iff_eq.1 e).symm)]
   | @ext d' _ p f he tK EB hb=>
    have KY:=zl p q
    have Lz:0<p.length:=List.length_pos_iff.2 tK
    by_cases hc:common p q<p.length
    ·refine ⟨[],false,up _ fun m hm=>?_,?_⟩
     ·unfold gY
      rw [show (lY p (gq f)).isNil=false from rfl,cond_false,ah rfl,show (lY p (gq f)).at.aZ=2 from rfl,decide_eq_false (by decide),cond_false,decide_eq_false (by decide),cond_false,decide_eq_true rfl,cond_true,ah rfl,ah rfl,show (lY p (gq f)).at.bE=p from rfl,pn _ _ (by omega),Option.bind_some,decide_eq_true (by omega),cond_true]
     ·rw [jO,if_neg (fun e=>?_)]
      ·rfl
      ·obtain ⟨z,ez⟩:=pO e
       rw [ez,zm] at hc;omega
    ·obtain ⟨r,rfl⟩:=xq p q (by omega)
     have zT:=hq
     rw [he,PQ.app] at zT
     obtain ⟨v,b,g1,g2⟩:=ih d' (gq f) r (by omega) (.inr hb) zT.2 (by omega)
     refine ⟨v,b,up _ fun m hm=>?_,?_⟩
     ·unfold gY
      rw [show (lY p (gq f)).isNil=false from rfl,cond_false,ah rfl,show (lY p (gq f)).at.aZ=2 from rfl,decide_eq_false (by decide),cond_false,decide_eq_false (by decide),cond_false,decide_eq_true rfl,cond_true,ah rfl,ah rfl,show (lY p (gq f)).at.bE=p from rfl,pn _ _ (by omega),Option.bind_some,decide_eq_false (by omega),cond_false,ah rfl,ah (by rw [List.length_append];omega),nB,List.drop_left]
      rw [show idx (lY p (gq f)).at.bZ.1 (0:Int)=gq f from rfl,g1 m (by omega)]
      rfl
     ·rw [jO,List.take_left,if_pos rfl,List.drop_left,g2]
   | @br d' _ f he hk h2=>
    subst he
    obtain ⟨c,r,rfl,hc,hr⟩:=hq.xu
    obtain ⟨v,b,g1,g2⟩:=ih d' (f ⟨c.toNat,hc⟩) r (by omega) (by
     by_cases h:f ⟨c.toNat,hc⟩= .nil
     ·exact .inl h
     ·exact .inr (hk _ h)) hr (by omega)
    refine ⟨v,b,up _ fun m hm=>?_,by rw [oc,xW hc,g2]⟩
    unfold gY
    have hi:idx (c::r) (0:Int)=c:=rfl
    rw [show (gq f).isNil=false from rfl,cond_false,ah rfl,show (gq f).at.aZ=3 from rfl,decide_eq_false (by decide),cond_false,decide_eq_false (by decide),cond_false,decide_eq_false (by decide),cond_false]
    rw [List.length_cons,ah (by omega),ah rfl,hi,ah (by omega),ah (by omega)]
    rw [show (sub (c::r) (1:Int) ((r.length+1:Nat):Int))=r from nB (c::r) 1,show (gq f).at.bZ.1=List.ofFn f from rfl,vj f _ hc,g1 m (by omega)]
    rfl
theorem QY {d:Nat} {t:aa} {q:List UInt8} (ht:TN d t) (hq:PQ d q) (FD:d≤64):∃ v b,s9 t q=some (v,b)∧look t q=if b=true then some v else none:=by
 obtain ⟨v,b,h1,h2⟩:=MK (d+1) d t q (by omega) ht hq FD
 exact ⟨v,b,ni (d+1) fun m hm=>h1 m (by omega),h2⟩
theorem QZ {p x s:List UInt8} (h:¬ s.take p.length=p):¬ s.take (p++x).length=p++x:=by
 intro e
 obtain ⟨z,rfl⟩:=pO e
 exact h (by rw [List.append_assoc,List.take_left])
theorem JT {d e:Nat} {p:List UInt8} {x:aa} (hx:TW d x) (tK:p≠[]) (hp:right p=true) (he:e=p.length+d) (FD:e≤64):
  ∃ t',lE p x=some t'∧TW e t'∧∀ s,look t' s=if s.take p.length=p then look x (s.drop p.length) else none:=by
 cases hx with
 | @leaf _ q v hq=>
  have X2:=hq.1
  refine ⟨jq (p++q) v,?_, .leaf (by rw [he,PQ.app];exact ⟨hp,hq⟩),fun s=>?_⟩
  ·unfold lE
   rw [show (jq q v).isNil=false from rfl,ah rfl,show (jq q v).at.aZ=1 from rfl,decide_eq_false (by decide),cond_false,decide_eq_true rfl,cond_true,ah rfl,show (jq q v).at.bE=q from rfl,vh _ _ (by omega) (by omega),Option.bind_some,ah rfl,AJ _ _ (by rw [List.length_append];omega)]
   rfl
  ·rw [jr]
   by_cases h:s.take p.length=p
   ·obtain ⟨z,rfl⟩:=pO h
    rw [if_pos h,List.drop_left,jr]
    by_cases hz:z=q
    ·rw [if_pos hz,if_pos (by rw [hz])]
    ·rw [if_neg hz,if_neg (fun e=>hz (List.append_cancel_left e))]
   ·rw [if_neg h,if_neg (fun e=>h (by rw [e,List.take_left]))]
 | @ext d' _ q f hd hq0 hqr hb=>
  have hpq:p++q≠[]:=fun e=>tK (List.append_eq_nil_iff.1 e).1
  refine ⟨lY (p++q) (gq f),?_, .ext (by rw [List.length_append];omega) hpq (zn.2 ⟨hp,hqr⟩) hb,fun s=>?_⟩
  ·unfold lE
   rw [show (lY q (gq f)).isNil=false from rfl,ah rfl,show (lY q (gq f)).at.aZ=2 from rfl,decide_eq_false (by decide),cond_false,decide_eq_false (by decide),cond_false,decide_eq_true rfl,cond_true,ah rfl,show (lY q (gq f)).at.bE=q from rfl,vh _ _ (by omega) (by omega),Option.bind_some,ah rfl,DQ _ _ (by rw [List.length_append];omega),Option.bind_some]
   unfold uj
   rw [if_neg hpq];rfl
  ·rw [jO]
   by_cases h:s.take p.length=p
   ·obtain ⟨z,rfl⟩:=pO h
    rw [if_pos h,List.drop_left,jO,List.length_append,List.take_append,List.take_of_length_le (by omega),show p.length+q.length-p.length=q.length by omega, ← List.drop_drop,List.drop_left]
    by_cases hz:z.take q.length=q
    ·rw [if_pos hz,if_pos (by rw [hz])]
    ·rw [if_neg hz,if_neg (fun e=>hz (List.append_cancel_left e))]
   ·rw [if_neg h,if_neg (QZ h)]
 | @br d' _ f hd hk h2=>
  refine ⟨uj p (gq f),?_,HW he hp (.br hd hk h2),fun s=>by rw [Bl]⟩
  unfold lE
  rw [show (gq f).isNil=false from rfl,ah rfl,show (gq f).at.aZ=3 from rfl,decide_eq_false (by decide),cond_false,decide_eq_false (by decide),cond_false,decide_eq_false (by decide),cond_false,DQ _ _ (by omega)]
  rfl
def sx (f:Fin 16→aa):Nat→Nat×Nat
 | 0=>(0,0)
 | i+1=>if h:i<16 then (if (f ⟨i,h⟩).isNil=true then sx f i else ((sx f i).1+1,i)) else sx f i
theorem zo {t:aa}:t.isNil=true↔t= .nil:=by
 cases t
 ·exact ⟨fun _=>rfl,fun _=>rfl⟩
 ·exact ⟨fun h=>(by cases h),fun h=>(by cases h)⟩
theorem KJ (f:Fin 16→aa):∀ i,i≤16→(sx f i).1≤i∧(sx f i).2≤15∧((sx f i).1=0→∀ j:Fin 16,j.1<i→f j= .nil)∧((sx f i).1≠0→∃ h:(sx f i).2<16,(sx f i).2<i∧f ⟨(sx f i).2,h⟩≠ .nil∧((sx f i).1=1→∀ j:Fin 16,j.1<i→j.1≠(sx f i).2→f j= .nil)∧(1<(sx f i).1→∃ a b,a≠b∧f a≠ .nil∧f b≠ .nil))
 | 0,_=>⟨Nat.le_refl _,Nat.zero_le _,fun _ j hj=>by omega,fun h=>absurd rfl h⟩
 | i+1,hi=>by
  obtain ⟨i1,i2,i3,i4⟩:=KJ f i (by omega)
  rw [sx,dif_pos (show i<16 by omega)]
  by_cases hn:(f ⟨i,by omega⟩).isNil=true
  ·rw [if_pos hn]
   rw [zo] at hn
   refine ⟨by omega,i2,fun h j hj=>?_,fun h=>?_⟩
   ·by_cases e:j.1=i
    ·have:j=⟨i,by omega⟩:=Fin.ext e
     rw [this];exact hn
    ·exact i3 h j (by omega)
   ·obtain ⟨h1,h2,h3,h4,h5⟩:=i4 h
    refine ⟨h1,by omega,h3,fun h j hj hne=>?_,h5⟩
    by_cases e:j.1=i
    ·have:j=⟨i,by omega⟩:=Fin.ext e
     rw [this];exact hn
    ·exact h4 h j (by omega) hne
  ·rw [if_neg hn]
   rw [zo] at hn
   refine ⟨by omega,by show i≤15;omega,fun h=>absurd h (Nat.succ_ne_zero _),fun _=>⟨by show i<16;omega,Nat.lt_succ_self i,hn,fun h j hj hne=>?_,fun h=>?_⟩⟩
   ·have h:(sx f i).1+1=1:=h
    have hne:j.1≠i:=hne
    exact i3 (by omega) j (by omega)
   ·have h:1<(sx f i).1+1:=h
    obtain ⟨h1,h2,h3,_⟩:=i4 (by omega)
    exact ⟨⟨_,h1⟩,⟨i,by omega⟩,fun e=>by rw [Fin.mk.injEq] at e;omega,h3,hn⟩
theorem CM {n:Nat} (h:n<256):(gf (n:Int)).toNat=n:=by
 rw [wv,UInt8.toNat_ofNat'];omega
theorem O0 {d:Nat} {f:Fin 16→aa} (hk:∀ c,f c≠ .nil→TW d (f c)) (h1:∃ c,f c≠ .nil) (FD:d+1≤64):
  ∃ t',r4 (zS f)=some t'∧TW (d+1) t'∧∀ s,PQ (d+1) s→look t' s=look (gq f) s:=by
 have run:∀ r,gZ (zS f) (.L1 (zS f) ((sx f 16).1:Int) ((sx f 16).2:Int) ((16:Nat):Int))=some (.inr r)→r4 (zS f)=some r:=by
  intro r hr
  refine cS (Comes.next (c':= .L1 (zS f) ((sx f 0).1:Int) ((sx f 0).2:Int) ((0:Nat):Int)) (by simp only [gZ];rfl) ?_)
  refine Comes.upto (fun i=>vZ.L1 (zS f) ((sx f i).1:Int) ((sx f i).2:Int) (i:Int)) 16 (fun i hi=>?_) (Comes.stop hr)
  have hl:=KJ f i (by omega)
  simp only [gZ]
  rw [decide_eq_true (by omega),cond_true,ah (by omega),show (zS f).1=List.ofFn f from rfl,vj f i hi,sx,dif_pos hi]
  by_cases hn:(f ⟨i,hi⟩).isNil=true
  ·rw [hn,Bool.not_true,cond_false,ah (by unfold bw;omega),if_pos rfl];rfl
  ·rw [if_neg hn]
   rw [Bool.not_eq_true] at hn
   rw [hn,Bool.not_false,cond_true,ah (by unfold bw;omega),ah (by unfold bw;omega)];rfl
 obtain ⟨_,l2,l3,l4⟩:=KJ f 16 (Nat.le_refl _)
 have h0:(sx f 16).1≠0:=fun h=>by
  obtain ⟨c,hc⟩:=h1
  exact hc (l3 h c c.2)
 obtain ⟨k1,k2,k3,k4,k5⟩:=l4 h0
 by_cases hm:1<(sx f 16).1
 ·refine ⟨gq f,run _ ?_, .br rfl hk (k5 hm),fun _ _=>rfl⟩
  simp only [gZ]
  rw [decide_eq_false (by omega),cond_false,decide_eq_true (by omega),cond_true,DP];rfl
 ·obtain ⟨t',g1,g2,g3⟩:=JT (p:=[gf ((sx f 16).2:Int)]) (hk _ k3) (by simp) (by rw [pg];intro b hb;rw [List.mem_singleton.1 hb,CM (by omega)];exact k1) (by rw [List.length_singleton];omega) FD
  refine ⟨t',run _ ?_,g2,fun s hs=>?_⟩
  ·simp only [gZ]
   rw [decide_eq_false (by omega),cond_false,decide_eq_false (by omega),cond_false,ah (by omega),show (zS f).1=List.ofFn f from rfl,vj f _ k1,g1]
   rfl
  ·obtain ⟨c,r,rfl,hc,hr⟩:=hs.xu
   rw [g3,oc,xW hc]
   by_cases h:c.toNat=(sx f 16).2
   ·have e:c=gf ((sx f 16).2:Int):=UInt8.toNat_inj.1 (by rw [CM (by omega)];exact h)
    rw [if_pos (by rw [← e];rfl)]
    show look (f ⟨_,k1⟩) r=_
    congr 2
    exact Fin.ext h.symm
   ·rw [if_neg (fun e=>h (by
     have e:[c]=[gf ((sx f 16).2:Int)]:=e
     injection e with e
     rw [e,CM (by omega)]))]
    rw [k4 (Nat.le_antisymm (Nat.le_of_not_lt hm) (Nat.pos_of_ne_zero h0)) ⟨c.toNat,hc⟩ hc h,nC]
theorem TN.HV {d:Nat} {f:Fin 16→aa} (hk:∀ c,f c≠ .nil→TW d (f c)) (c:Fin 16):TN d (f c):=by
 by_cases h:f c= .nil
 ·exact .inl h
 ·exact .inr (hk _ h)
theorem ML:∀ (n d:Nat) (t:aa) (q:List UInt8),d<n→TW d t→PQ d q→d≤64→look t q≠none→∃ t',(∀ m,d<m→jm m t q=some t')∧TN d t'∧(TG t→t'≠ .nil)∧∀ s,PQ d s→look t' s=if s=q then none else look t s
 | 0,d,t,q,h,_,_,_,_=>by omega
 | n+1,d,t,q,hd,ht,hq,FD,hl=>by
  have ih:=ML n
  have X2:=hq.1
  have up:∀ r,(∀ m,d≤m→jK (jm m) t q=some r)→∀ m,d<m→jm m t q=some r:=by
   intro r h m hm
   obtain ⟨m,rfl⟩:∃ k,m=k+1:=⟨m-1,by omega⟩
   exact h m (by omega)
  cases ht with
  | @leaf _ p v0 hp=>
   rw [jr] at hl
   have e:q=p:=by
    by_cases h:q=p
    ·exact h
    ·rw [if_neg h] at hl;exact absurd rfl hl
   subst e
   refine ⟨.nil,up _ fun m hm=>?_, .inl rfl,fun ⟨f,e⟩=>(by cases e),fun s _=>?_⟩
   ·unfold jK
    rw [show (jq q v0).isNil=false from rfl,ah rfl,show (jq q v0).at.aZ=1 from rfl,decide_eq_true rfl,cond_true]
   ·rw [nC,jr]
    by_cases h:s=q
    ·rw [if_pos h]
    ·rw [if_neg h,if_neg h]
  | @ext d' _ p f he tK EB hb=>
   have Lz:0<p.length:=List.length_pos_iff.2 tK
   rw [jO] at hl
   have hpq:q.take p.length=p:=by
    by_cases h:q.take p.length=p
    ·exact h
    ·rw [if_neg h] at hl;exact absurd rfl hl
   obtain ⟨r,rfl⟩:=pO hpq
   rw [if_pos hpq,List.drop_left] at hl
   have zT:=hq
   rw [he,PQ.app] at zT
   obtain ⟨x,g1,g2,g3,g4⟩:=ih d' (gq f) r (by omega) hb zT.2 (by omega) hl
   have hx:TW d' x:=g2.resolve_left (g3 ⟨f,rfl⟩)
   obtain ⟨t',k1,k2,k3⟩:=JT hx tK EB he FD
   refine ⟨t',up _ fun m hm=>?_, .inr k2,fun _=>k2.ne,fun s hs=>?_⟩
   ·unfold jK
    rw [show (lY p (gq f)).isNil=false from rfl,ah rfl,show (lY p (gq f)).at.aZ=2 from rfl,decide_eq_false (by decide),cond_false,decide_eq_true rfl,cond_true,ah rfl,ah rfl,ah rfl,show (lY p (gq f)).at.bE=p from rfl,ah (by rw [List.length_append];omega),nB,List.drop_left]
    rw [show idx (lY p (gq f)).at.bZ.1 (0:Int)=gq f from rfl,g1 m (by omega),Option.bind_some,k1]
    rfl
   ·rw [k3,jO]
    by_cases h:s.take p.length=p
    ·obtain ⟨z,rfl⟩:=pO h
     have MH:=hs
     rw [he,PQ.app] at MH
     rw [if_pos h,if_pos h,List.drop_left,g4 z MH.2]
     by_cases hz:z=r
     ·rw [if_pos hz,if_pos (by rw [hz])]
     ·rw [if_neg hz,if_neg (fun e=>hz (List.append_cancel_left e))]
    ·rw [if_neg h,if_neg h,ite_self]
  | @br d' _ f he hk h2=>
   subst he
   obtain ⟨c,r,rfl,hc,hr⟩:=hq.xu
   rw [oc,xW hc] at hl
   have J9:f ⟨c.toNat,hc⟩≠ .nil:=fun e=>by rw [e,nC] at hl;exact hl rfl
   obtain ⟨x,g1,g2,g3,g4⟩:=ih d' (f ⟨c.toNat,hc⟩) r (by omega) (hk _ J9) hr (by omega) hl
   obtain ⟨t',k1,k2,k3⟩:=O0 (d:=d') (f:=wH f ⟨c.toNat,hc⟩ x) (fun i hi=>by
    unfold wH at hi ⊢
    by_cases h:i=⟨c.toNat,hc⟩
    ·rw [if_pos h] at hi ⊢;exact g2.resolve_left hi
    ·rw [if_neg h] at hi ⊢;exact hk i hi) (by
    obtain ⟨a,b,hab,ha,hb⟩:=h2
    by_cases h:a=⟨c.toNat,hc⟩
    ·exact ⟨b,by unfold wH;rw [if_neg (fun e=>hab (by rw [h,e]))];exact hb⟩
    ·exact ⟨a,by unfold wH;rw [if_neg h];exact ha⟩) (by omega)
   refine ⟨t',up _ fun m hm=>?_, .inr k2,fun _=>k2.ne,fun s hs=>?_⟩
   ·unfold jK
    have hi:idx (c::r) (0:Int)=c:=rfl
    rw [show (gq f).isNil=false from rfl,ah rfl,show (gq f).at.aZ=3 from rfl,decide_eq_false (by decide),cond_false,decide_eq_false (by decide),cond_false,ah rfl]
    rw [List.length_cons,ah (by omega),ah (by omega),ah rfl,hi,ah (by omega),ah (by omega)]
    rw [show (sub (c::r) (1:Int) ((r.length+1:Nat):Int))=r from nB (c::r) 1,show (gq f).at.bZ=zS f from rfl,show (zS f).1=List.ofFn f from rfl,vj f _ hc,g1 m (by omega),Option.bind_some,ah (by omega),yD f _ hc,k1]
    rfl
   ·rw [k3 s hs]
    obtain ⟨c',r',rfl,TI,hr'⟩:=hs.xu
    rw [oc,oc,xW TI]
    unfold wH
    by_cases h:c'=c
    ·subst h
     rw [if_pos rfl,g4 r' hr']
     by_cases h3:r'=r
     ·rw [if_pos h3,if_pos (by rw [h3])]
     ·rw [if_neg h3,if_neg (fun e=>h3 (by injection e))]
    ·rw [if_neg (fun e=>h (by rw [Fin.mk.injEq,UInt8.toNat_inj] at e;exact e)),if_neg (fun e=>h (by injection e))]
theorem Q0 {d:Nat} {t:aa} {q:List UInt8} (ht:TW d t) (hq:PQ d q) (FD:d≤64) (hl:look t q≠none):∃ t',ta t q=some t'∧TN d t'∧∀ s,PQ d s→look t' s=if s=q then none else look t s:=by
 obtain ⟨t',h1,h2,_,h3⟩:=ML (d+1) d t q (by omega) ht hq FD hl
 exact ⟨t',ni (d+1) fun m hm=>h1 m (by omega),h2,h3⟩
end Go.Proofs.YtlfjfoknbjcncaaGreat.K
namespace Go.Proofs.YtlfjfoknbjcncaaGreat.K
open Go
set_option linter.unusedVariables false
set_option linter.unusedSimpArgs false
theorem O1 {v d:Nat} {l:List In} (h:WF v d l) (h2:2≤l.length) (h0:lH l=0):∃ a b:Nat,a<b∧b<16∧qW l a≠[]∧qW l b≠[]:=by
 have hd:0<d:=by have:=h.FP h2;omega
 have hl:l≠[]:=by intro e;rw [e] at h2;simp at h2
 have hm:idx l (0:Int)∈l:=e9 l (i:=0) (by omega)
 have hex:∃ y∈l,(y.av.getD 0 0).toNat≠((idx l (0:Int)).av.getD 0 0).toNat:=by
  by_cases hc:∃ y∈l,(y.av.getD 0 0).toNat≠((idx l (0:Int)).av.getD 0 0).toNat
  ·exact hc
  ·exfalso
   have:1≤lH l:=JP hl fun x hx=>⟨by rw [h.len x hx];exact hd,TF (by rw [h.len x hx];exact hd) (by unfold p0;rw [h.len _ hm];exact hd) (by
    by_cases e:(x.av.getD 0 0).toNat=((idx l (0:Int)).av.getD 0 0).toNat
    ·exact e
    ·exact absurd ⟨x,hx,e⟩ hc)⟩
   omega
 obtain ⟨y,hy,hne⟩:=hex
 have b1:=yx (h.KH _ hm) 0
 have b2:=yx (h.KH _ hy) 0
 have n1:qW l ((idx l (0:Int)).av.getD 0 0).toNat≠[]:=List.ne_nil_of_mem (List.mem_filter.2 ⟨hm,by simp⟩)
 have n2:qW l (y.av.getD 0 0).toNat≠[]:=List.ne_nil_of_mem (List.mem_filter.2 ⟨hy,by simp⟩)
 by_cases hlt:(y.av.getD 0 0).toNat<((idx l (0:Int)).av.getD 0 0).toNat
 ·exact ⟨_,_,hlt,b1,n2,n1⟩
 ·exact ⟨_,_,by omega,b2,n1,n2⟩
end Go.Proofs.YtlfjfoknbjcncaaGreat.K
namespace Go.Proofs.YtlfjfoknbjcncaaGreat.K
open Go
set_option linter.unusedVariables false
set_option linter.unusedSimpArgs false
structure WG (v d:Nat) (l:List In):Prop where
 wf:WF v d l
 ne:∀ x∈l,x.az≠[]
theorem WG.HV {v d:Nat} {l:List In} (h:WG v d l) (hd:0<d) (c:Nat):WG v (d-1) (rest (qW l c) 1) where
 wf:=h.wf.HV hd c
 ne x hx:=by
  obtain ⟨y,hy,rfl⟩:=List.mem_map.1 hx
  exact h.ne y (List.mem_filter.1 hy).1
theorem WG.ext {v d:Nat} {l:List In} (h:WG v d l):WG v (d-lH l) (rest l (lH l)) where
 wf:=h.wf.ext
 ne x hx:=by
  obtain ⟨y,hy,rfl⟩:=List.mem_map.1 hx
  exact h.ne y hy
theorem AK {v d:Nat} {l:List In} (h:WF v d l):iz l=sw l:=by
 unfold iz
 rw [Pz h];rfl
theorem EC:iz []=[]:=by
 rw [AK (v:=0) (d:=0) ⟨by simp,by simp,by simp, .nil,Nat.zero_le _,Nat.zero_le _,Nat.zero_le _⟩];rfl
theorem Q1:lX []=[]:=rfl
theorem vk {v d:Nat} {l:List In} (h:WF v d l) (hl:l≠[]):1≤(iz l).length∧(iz l).length≤532+v:=by
 have h2:=Wy h hl
 rw [AK h];unfold sw
 rw [if_neg hl];exact ⟨h2.1,h2.2.1⟩
theorem MM {v d:Nat} {l:List In} (h:WF v d l):(iz l).length≤532+v:=by
 by_cases hl:l=[]
 ·rw [hl,EC];simp
 ·exact (vk h hl).2
theorem HZ {s:List UInt8} (h:1≤s.length):lX s≠[]:=by
 intro e
 have e2:=congrArg List.length e
 unfold lX at e2
 split at e2
 ·rw [Bh] at e2;simp at e2
 ·simp at e2;rw [e2] at h;simp at h
theorem DR {l:List In} {n:Nat}:rest l n=[]↔l=[]:=by
 unfold rest;exact List.map_eq_nil_iff
theorem MN {v d:Nat} {l:List In} (h:WG v d l) (hl:l≠[]):∀ k∈(eV l).aR.1,k=[]∨∃ d' l',d'<d∧WG v d' l'∧k=lX (iz l'):=by
 intro k hk
 unfold eV at hk
 by_cases h1:l.length=1
 ·rw [if_pos h1] at hk
  exact .inl (List.eq_of_mem_replicate hk)
 ·rw [if_neg h1] at hk
  have hpos:0<l.length:=List.length_pos_iff.2 hl
  have hlt:=h.wf.FP (by omega)
  by_cases h2:0<lH l
  ·rw [if_pos h2] at hk
   rcases List.mem_or_eq_of_mem_set hk with hk | hk
   ·exact .inl (List.eq_of_mem_replicate hk)
   ·exact .inr ⟨_,_,by omega,h.ext,hk⟩
  ·rw [if_neg h2] at hk
   have hk:k∈(List.range 16).map fun c=>lX (iz (rest (qW l c) 1)):=hk
   obtain ⟨c,_,rfl⟩:=List.mem_map.1 hk
   exact .inr ⟨_,_,by omega,h.HV (by omega) c,rfl⟩
theorem MO {α:Type} (p:α→Bool) (l:List α) (i j:Nat) (hij:i<j) (hj:j<l.length) (h1:p (l[i]'(by omega))=true) (h2:p l[j]=true):2≤(l.filter p).length:=by
 rw [← List.take_append_drop j l,List.filter_append,List.length_append]
 have a:1≤((l.take j).filter p).length:=List.length_pos_iff.2 (List.ne_nil_of_mem (List.mem_filter.2 ⟨List.mem_take_iff_getElem.2 ⟨i,by omega,rfl⟩,h1⟩))
 have b:1≤((l.drop j).filter p).length:=List.length_pos_iff.2 (List.ne_nil_of_mem (List.mem_filter.2 ⟨by rw [List.drop_eq_getElem_cons hj];exact List.mem_cons_self ..,h2⟩))
 omega
theorem KK {v d:Nat} {l:List In} (h:WG v d l) (hl:l≠[]):oB (eV l)=true:=by
 have hpos:0<l.length:=List.length_pos_iff.2 hl
 have h0:=e9 l (i:=0) hpos
 unfold eV
 by_cases h1:l.length=1
 ·rw [if_pos h1]
  have hv:=h.wf.val _ h0
  have hn:=h.ne _ h0
  have ht:=h.wf.top
  have:yy ⟨1,p0 l,(idx l (0:Int)).az,aE.rep 16 []⟩=0:=rfl
  unfold oB
  rw [this]
  show (((!((idx l (0:Int)).az==[]))&&decide (((idx l (0:Int)).az.length:Int)≤65552))&&true)=true
  have hv:(idx l (0:Int)).az.length≤v:=hv
  rw [decide_eq_true (by omega)]
  have hn:(idx l (0:Int)).az≠[]:=hn
  simpa using hn
 ·rw [if_neg h1]
  have hlt:=h.wf.FP (by omega)
  by_cases h2:0<lH l
  ·rw [if_pos h2]
   have he:=h.ext
   have hk:=HZ (vk he.wf (fun e=>hl (DR.1 e))).1
   have hp:=h.wf.len _ h0
   generalize lX (iz (rest l (lH l)))=k at hk ⊢
   have kc:yy ⟨2,(p0 l).take (lH l),[],(aE.rep 16 []).put 0 k⟩=1:=by
    unfold yy
    have:(((aE.rep 16 ([]:List UInt8)).put 0 k).1)=k::List.replicate 15 []:=rfl
    rw [this,List.filter_cons,if_pos (by simpa [wC] using hk)];rfl
   have hi:idx (((aE.rep 16 ([]:List UInt8)).put 0 k).1) (0:Int)=k:=rfl
   have Kx:((p0 l).take (lH l)).length=lH l:=by
    have:(p0 l).length=d:=hp
    rw [List.length_take];omega
   unfold oB
   rw [kc]
   show (((true&&decide ((0:Int)<(((p0 l).take (lH l)).length:Int)))&&true)&&(!(idx (((aE.rep 16 ([]:List UInt8)).put 0 k).1) (0:Int)==[])))=true
   rw [hi,Kx,decide_eq_true (p:=(0:Int)<(lH l:Int)) (by omega)]
   simpa using hk
  ·rw [if_neg h2]
   obtain ⟨a,b,hab,hb,na,nb⟩:=O1 h.wf (by omega) (by omega)
   have kc:2≤yy ⟨3,[],[],wF l⟩:=by
    unfold yy
    refine MO wC _ a b hab (by rw [(wF l).2];exact hb) ?_ ?_
    ·have:(wF l).1[a]'(by rw [(wF l).2];omega)=lX (iz (rest (qW l a) 1)):=by unfold wF;simp
     rw [this]
     simpa [wC] using HZ (vk (h.HV (by omega) a).wf (fun e=>na (DR.1 e))).1
    ·have:(wF l).1[b]'(by rw [(wF l).2];omega)=lX (iz (rest (qW l b) 1)):=by unfold wF;simp
     rw [this]
     simpa [wC] using HZ (vk (h.HV (by omega) b).wf (fun e=>nb (DR.1 e))).1
   unfold oB
   show ((true&&true)&&decide ((1:Int)<(yy ⟨3,[],[],wF l⟩:Int)))=true
   rw [decide_eq_true (p:=(1:Int)<_) (by omega)]
   rfl
def yes (_:List UInt8):Bool:=true
theorem zq {v d:Nat} {l:List In} (h:WG v d l) (hl:l≠[]):xp yes (eV l)=true:=by
 unfold xp
 rw [KK h hl,(vi h.wf hl).2.1]
 simp [yes]
theorem H6 {v d:Nat} {l:List In} (h:WG v d l) (hl:l≠[]) (hg:∀ k∈(eV l).aR.1,good k):uP (eV l)=cn (iN (eV l)):=by
 have h1:=QA yes (eV l) (zq h hl) hg (by have:=(vi h.wf hl).2.2.1;have:=h.wf.top;omega)
 rw [Wx h.wf hl] at h1
 exact Option.some.inj h1
theorem JU (v:Nat):∀ (n d:Nat) (l:List In),d<n→WG v d l→good (lX (iz l))∧∀ m,d+1<m→dY m (lX (iz l))=some true
 | 0,d,l,h,_=>by omega
 | n+1,d,l,hd,h=>by
  have ih:=JU v n
  have up:∀ s,(s=[]∨s.length=32)→∀ m,d+1<m→dY m s=some true:=by
   intro s hs m hm
   obtain ⟨m,rfl⟩:∃ k,m=k+1:=⟨m-1,by omega⟩
   show eP (dY m) s=_
   unfold eP
   rw [Kz hs,cond_true]
  by_cases hl:l=[]
  ·subst hl
   rw [EC,Q1]
   exact ⟨.inl rfl,up _ (.inl rfl)⟩
  ·have hk:∀ k∈(eV l).aR.1,good k∧∀ m,d+1≤m→dY m k=some true:=by
    intro k hk
    rcases MN h hl k hk with rfl | ⟨d',l',h1,h2,rfl⟩
    ·refine ⟨.inl rfl,fun m hm=>?_⟩
     obtain ⟨m,rfl⟩:∃ k,m=k+1:=⟨m-1,by omega⟩
     show eP (dY m) []=_
     unfold eP
     rw [Kz (.inl rfl),cond_true]
    ·obtain ⟨g1,g2⟩:=ih d' l' (by omega) h2
     exact ⟨g1,fun m hm=>g2 m (by omega)⟩
   have hg:∀ k∈(eV l).aR.1,good k:=fun k hk'=>(hk k hk').1
   have e:iz l=cn (iN (eV l)):=by
    rw [AK h.wf];unfold sw
    rw [if_neg hl];exact H6 h hl hg
   have hlen:=vk h.wf hl
   have WA:=h.wf.top
   unfold lX
   by_cases XR:32≤(iz l).length
   ·rw [if_pos XR]
    exact ⟨.inr (.inl (Bh _)),up _ (.inr (Bh _))⟩
   ·rw [if_neg XR]
    obtain ⟨o1,o2,o3,o4⟩:=vi h.wf hl
    obtain ⟨r1,r2,r3⟩:=Ex (eV l) hg (u9 o2).2 (by omega)
    refine ⟨.inr (.inr ⟨by omega,_,r1,e.symm,r3⟩),fun m hm=>?_⟩
    obtain ⟨m,rfl⟩:∃ k,m=k+1:=⟨m-1,by omega⟩
    have hn:=IB (zq h hl) hg
    show eP (dY m) (iz l)=_
    have hG:rW (dY m) (iz l)=some (eV l,0):=by
     have:=Tm (x:=iN (eV l)) (s:=iz l) (self:=dY m) (R:=yes) r1 e.symm (by omega) (by
      rw [hn];exact fun k hk'=>(hk k hk').2 m (by omega)) (by rw [hn];exact fun k hk' _=>hg k hk') (by rw [e];exact DF r1 (by omega) (by omega))
     rw [this,if_pos (HP.2 ⟨by rw [hn];exact zq h hl,by rw [hn];exact e.symm⟩),hn]
    exact QB _ (fun h0=>by rcases h0 with h0 | h0;(rw [h0] at hlen;simp at hlen);omega) hG (by rw [decide_eq_true (by omega)];rfl)
end Go.Proofs.YtlfjfoknbjcncaaGreat.K
namespace Go.Proofs.YtlfjfoknbjcncaaGreat.K
open Go
set_option linter.unusedVariables false
set_option linter.unusedSimpArgs false
theorem H7 {v d:Nat} {l:List In} (h:WG v d l) (hl:l≠[]):∀ k∈(eV l).aR.1,mL k=some true∧good k:=by
 intro k hk
 rcases MN h hl k hk with rfl | ⟨d',l',h1,h2,rfl⟩
 ·exact ⟨ni 1 fun m hm=>by
   obtain ⟨m,rfl⟩:∃ k,m=k+1:=⟨m-1,by omega⟩
   show eP (dY m) []=_
   unfold eP
   rw [Kz (.inl rfl),cond_true], .inl rfl⟩
 ·obtain ⟨g1,g2⟩:=JU v (d'+1) d' l' (by omega) h2
  exact ⟨ni (d'+2) fun m hm=>g2 m (by omega),g1⟩
theorem TJ {v d:Nat} {l:List In} (h:WG v d l) (hl:l≠[]):Ap (eV l)=some (iz l,0):=by
 obtain ⟨o1,o2,o3,o4⟩:=vi h.wf hl
 have WA:=h.wf.top
 have hp:=(u9 o2).2
 have:=Mt mL yes (eV l) (fun k hk=>(H7 h hl k hk).1) (fun k hk _=>(H7 h hl k hk).2) (by omega) (by omega)
 rw [if_pos (zq h hl), ← H6 h hl (fun k hk=>(H7 h hl k hk).2)] at this
 rw [AK h.wf];unfold sw
 rw [if_neg hl];exact this
def nD (d:Nat) (t:aa) (l:List In):Prop:=∀ s w,PQ d s→(look t s=some w↔(⟨s,w⟩:In)∈l)
theorem In.eta (x:In):x=⟨x.av,x.az⟩:=by cases x;rfl
theorem TW.has {d:Nat} {t:aa} (h:TW d t):∃ s w,PQ d s∧look t s=some w:=by
 induction h with
 | @leaf d p v hp=>exact ⟨p,v,hp,by rw [jr,if_pos rfl]⟩
 | @ext d e p f he tK EB _ ih=>
  obtain ⟨s,w,h1,h2⟩:=ih
  exact ⟨p++s,w,by rw [he,PQ.app];exact ⟨EB,h1⟩,by rw [jO,List.take_left,if_pos rfl,List.drop_left,h2]⟩
 | @br d e f he hk h2 ih=>
  obtain ⟨a,b,hab,ha,hb⟩:=h2
  obtain ⟨s,w,h1,h3⟩:=ih a ha
  have TK:(UInt8.ofNat a.1).toNat=a.1:=by rw [UInt8.toNat_ofNat'];have:=a.2;omega
  refine ⟨UInt8.ofNat a.1::s,w,by rw [he,PQ.cons,TK];exact ⟨a.2,h1⟩,?_⟩
  rw [oc,xW (by rw [TK];exact a.2)]
  simp only [TK]
  exact h3
theorem WF.PQ {v d:Nat} {l:List In} (h:WF v d l) {x:In} (hx:x∈l):K.PQ d x.av:=⟨h.len x hx,h.KH x hx⟩
theorem nD.mem {v d:Nat} {t:aa} {l:List In} (h:nD d t l) (hw:WF v d l) {x:In} (hx:x∈l):look t x.av=some x.az:=
 (h x.av x.az (hw.PQ hx)).2 (by rw [← In.eta];exact hx)
theorem JV {v d:Nat} {l:List In} (hw:WF v d l) (h:nD d .nil l):l=[]:=by
 rw [List.eq_nil_iff_forall_not_mem]
 intro x hx
 have:=h.mem hw hx
 rw [nC] at this;cases this
theorem H8 {v d:Nat} {l:List In} {p w:List UInt8} (hw:WF v d l) (hp:PQ d p) (h:nD d (jq p w) l):l=[⟨p,w⟩]:=by
 have hall:∀ x∈l,x=⟨p,w⟩:=by
  intro x hx
  have:=h.mem hw hx
  rw [jr] at this
  by_cases e:x.av=p
  ·rw [if_pos e] at this
   rw [In.eta x,e]
   exact congrArg _ (Option.some.inj this).symm
  ·rw [if_neg e] at this;cases this
 have hin:(⟨p,w⟩:In)∈l:=(h p w hp).1 (by rw [jr,if_pos rfl])
 cases l with
 | nil=>cases hin
 | cons x r=>
  rw [hall x (List.mem_cons_self ..)]
  cases r with
  | nil=>rfl
  | cons y r=>
   exfalso
   have:=(List.pairwise_cons.1 hw.nd).1 y (List.mem_cons_self ..)
   rw [hall x (List.mem_cons_self ..),hall y (List.mem_cons_of_mem _ (List.mem_cons_self ..))] at this
   exact this rfl
theorem Q2 {v d:Nat} {l:List In} {a b:In} (ha:a∈l) (hb:b∈l) (hne:a≠b):2≤l.length:=by
 cases l with
 | nil=>cases ha
 | cons x r=>cases r with
  | nil=>
   rw [List.mem_singleton] at ha hb
   exact absurd (ha.trans hb.symm) hne
  | cons y q=>simp
theorem PA {d:Nat} {f:Fin 16→aa} (h:TW d (gq f)):∃ a b s r w z,(a:UInt8)≠b∧PQ d (a::s)∧PQ d (b::r)∧look (gq f) (a::s)=some w∧look (gq f) (b::r)=some z:=by
 generalize e:gq f=t at h
 cases h with
 | leaf _=>cases e
 | ext _ _ _ _=>cases e
 | @br d' _ g he hk h2=>
  have hg:f=g:=by unfold gq at e;injection e
  subst hg
  obtain ⟨a,b,hab,ha,hb⟩:=h2
  obtain ⟨s,w,h1,h2⟩:=(hk a ha).has
  obtain ⟨r,z,h3,h4⟩:=(hk b hb).has
  have V8:(UInt8.ofNat a.1).toNat=a.1:=by rw [UInt8.toNat_ofNat'];have:=a.2;omega
  have V9:(UInt8.ofNat b.1).toNat=b.1:=by rw [UInt8.toNat_ofNat'];have:=b.2;omega
  refine ⟨UInt8.ofNat a.1,UInt8.ofNat b.1,s,r,w,z,fun e=>hab (Fin.ext (by rw [← V8, ← V9,e])),by rw [he,PQ.cons,V8];exact ⟨a.2,h1⟩,by rw [he,PQ.cons,V9];exact ⟨b.2,h3⟩,?_,?_⟩
  ·rw [oc,xW (by rw [V8];exact a.2)];simp only [V8];exact h2
  ·rw [oc,xW (by rw [V9];exact b.2)];simp only [V9];exact h4
theorem KL {v d:Nat} {l:List In} (hw:WF v d l) {p s r w z:List UInt8} {a b:UInt8} (hne:a≠b) (h1:(⟨p++a::s,w⟩:In)∈l) (h2:(⟨p++b::r,z⟩:In)∈l) (hall:∀ x∈l,x.av.take p.length=p):lH l=p.length∧(p0 l).take p.length=p∧2≤l.length:=by
 have hl:l≠[]:=List.ne_nil_of_mem h1
 have h0:=e9 l (i:=0) (List.length_pos_iff.2 hl)
 have tK:(p0 l).take p.length=p:=hall _ h0
 have hlen:∀ x∈l,p.length≤x.av.length:=by
  intro x hx
  have:=congrArg List.length (hall x hx)
  rw [List.length_take] at this;omega
 have hge:p.length≤lH l:=JP hl fun x hx=>⟨hlen x hx,by rw [hall x hx,tK]⟩
 have hle:lH l≤p.length:=by
  refine Nat.le_of_not_lt fun hlt=>hne ?_
  have e1:=(qV h1).2.trans (qV h2).2.symm
  have e2:=congrArg (List.take (p.length+1)) e1
  rw [List.take_take,List.take_take,Nat.min_eq_left (by omega)] at e2
  have e3:∀ (c:UInt8) (u:List UInt8),(p++c::u).take (p.length+1)=p++[c]:=by
   intro c u
   rw [List.take_append,List.take_of_length_le (by omega),show p.length+1-p.length=1 by omega];rfl
  have e2:(p++a::s).take (p.length+1)=(p++b::r).take (p.length+1):=e2
  rw [e3,e3] at e2
  have:=List.append_cancel_left e2
  injection this
 refine ⟨by omega,tK,Q2 (v:=v) (d:=d) h1 h2 fun e=>hne ?_⟩
 have:=congrArg In.av e
 have:=List.append_cancel_left this
 injection this
theorem JW {v d d':Nat} {l:List In} {p:List UInt8} {f:Fin 16→aa} (hw:WF v d l) (he:d=p.length+d') (tK:p≠[]) (EB:right p=true) (hb:TW d' (gq f)) (h:nD d (lY p (gq f)) l):
  lH l=p.length∧(p0 l).take p.length=p∧2≤l.length∧nD d' (gq f) (rest l p.length):=by
 have hall:∀ x∈l,x.av.take p.length=p:=by
  intro x hx
  have:=h.mem hw hx
  rw [jO] at this
  by_cases e:x.av.take p.length=p
  ·exact e
  ·rw [if_neg e] at this;cases this
 have hin:∀ s w,PQ d' s→(look (gq f) s=some w↔(⟨p++s,w⟩:In)∈l):=by
  intro s w hs
  rw [← h (p++s) w (by rw [he,PQ.app];exact ⟨EB,hs⟩),jO,List.take_left,if_pos rfl,List.drop_left]
 obtain ⟨a,b,s,r,w,z,hne,q1,q2,k1,k2⟩:=PA hb
 obtain ⟨c1,c2,c3⟩:=KL hw hne ((hin _ _ q1).1 k1) ((hin _ _ q2).1 k2) hall
 refine ⟨c1,c2,c3,fun s w hs=>?_⟩
 rw [hin s w hs]
 unfold rest
 rw [List.mem_map]
 constructor
 ·intro hm
  exact ⟨_,hm,by simp⟩
 ·rintro ⟨x,hx,e⟩
  injection e with e1 e2
  have Iq:x=⟨p++s,w⟩:=by
   rw [In.eta x, ← List.take_append_drop p.length x.av,hall x hx,e1,e2]
  rw [← Iq];exact hx
theorem MP {v d:Nat} {l:List In} {f:Fin 16→aa} (hw:WF v (d+1) l) (hb:TW (d+1) (gq f)) (h:nD (d+1) (gq f) l):
  lH l=0∧2≤l.length∧∀ c (hc:c<16),nD d (f ⟨c,hc⟩) (rest (qW l c) 1):=by
 obtain ⟨a,b,s,r,w,z,hne,q1,q2,k1,k2⟩:=PA hb
 obtain ⟨c1,c2,c3⟩:=KL (p:=[]) hw hne ((h _ _ q1).1 k1) ((h _ _ q2).1 k2) (fun x _=>rfl)
 refine ⟨c1,c3,fun c hc s w hs=>?_⟩
 have TL:(UInt8.ofNat c).toNat=c:=by rw [UInt8.toNat_ofNat'];omega
 have:=h (UInt8.ofNat c::s) w (by rw [PQ.cons,TL];exact ⟨hc,hs⟩)
 rw [oc,xW (by rw [TL];exact hc)] at this
 simp only [TL] at this
 rw [this]
 unfold rest
 rw [List.mem_map]
 constructor
 ·intro hm
  exact ⟨_,List.mem_filter.2 ⟨hm,by simp [TL]⟩,rfl⟩
 ·rintro ⟨x,hx,e⟩
  injection e with e1 e2
  obtain ⟨hx1,Iq⟩:=List.mem_filter.1 hx
  obtain ⟨c',r',e3,_,_⟩:=(hw.PQ hx1).xu
  rw [decide_eq_true_eq,e3] at Iq
  have TI:c'=UInt8.ofNat c:=UInt8.toNat_inj.1 (by rw [TL];exact Iq)
  rw [e3] at e1
  have hx3:x=⟨UInt8.ofNat c::s,w⟩:=by
   rw [In.eta x,e3,e2,TI, ← e1];rfl
  rw [← hx3];exact hx1
theorem ED (self:Tree→Option (List UInt8)) (k:Int) (p v r:List UInt8) (f:Fin 16→aa) (g:Nat→List UInt8) (hp:p.length≤1000000) (hs:∀ c (h:c<16),self ⟨f ⟨c,h⟩⟩=some (g c)):
  gA self (.node k p v f r)=some ⟨k,p,v,wG g 16⟩:=by
 refine cS (Comes.next (c':= .L1 ((0:Nat):Int) p (wG g 0)) ?_ ?_)
 ·simp only [ir]
  rw [show (aa.node k p v f r).isNil=false from rfl,ah rfl,ah rfl,show (aa.node k p v f r).at.bE=p from rfl,EA p hp,Option.bind_some,ah rfl,ah rfl,Py]
  rfl
 ·refine Comes.upto (fun i=>r5.L1 (i:Int) p (wG g i)) 16 (fun i hi=>?_) (Comes.stop ?_)
  ·simp only [ir]
   rw [decide_eq_true (by omega),cond_true,ah (by omega),show (aa.node k p v f r).at.bZ.1=List.ofFn f from rfl,vj f i hi,hs i hi,Option.bind_some,ah (by omega),ah (by unfold bw;omega),JR g hi]
   rfl
  ·simp only [ir]
   rw [decide_eq_false (by omega),cond_false]
   rfl
theorem Q3:wG (fun _=>[]) 16=aE.rep 16 []:=Subtype.ext rfl
theorem Q4 (k:List UInt8):wG (fun c=>if c=0 then k else []) 16=(aE.rep 16 []).put 0 k:=Subtype.ext rfl
def Kt (self:Tree→Option (List UInt8)) (v d:Nat):Prop:=self ⟨.nil⟩=some []∧∀ d' t' l',d'<d→TN d' t'→WG v d' l'→nD d' t' l'→self ⟨t'⟩=some (lX (iz l'))
theorem MQ {self:Tree→Option (List UInt8)} {v d:Nat} {t:aa} {l:List In} (hk:Kt self v d) (ht:TW d t) (hw:WG v d l) (hs:nD d t l):gA self t=some (eV l)∧l≠[]∧t.at.aZ≠ -1:=by
 obtain ⟨WB,hk⟩:=hk
 cases ht with
 | @leaf _ p w hp=>
  have hl:=H8 hw.wf hp hs
  have Kx:=hp.1
  have Wz:=hw.wf.dep
  refine ⟨?_,by rw [hl];simp,show (1:Int)≠ -1 by decide⟩
  have:=ED self 1 p w [] (fun _=> .nil) (fun _=>[]) (by omega) (fun c h=>WB)
  rw [show gA self (jq p w)=some ⟨1,p,w,wG (fun _=>[]) 16⟩ from this,Q3,hl]
  rfl
 | @ext d' _ p f he tK EB hb=>
  obtain ⟨c1,c2,c3,c4⟩:=JW hw.wf he tK EB hb hs
  have Lz:0<p.length:=List.length_pos_iff.2 tK
  have Wz:=hw.wf.dep
  have hwk:WG v d' (rest l p.length):=by
   have:=hw.ext
   rw [c1,show d-p.length=d' by omega] at this
   exact this
  have r1:=hk d' (gq f) (rest l p.length) (by omega) (.inr hb) hwk c4
  refine ⟨?_,(by intro e;rw [e] at c3;simp at c3),show (2:Int)≠ -1 by decide⟩
  have:=ED self 2 p [] [] (one (gq f)) (fun c=>if c=0 then lX (iz (rest l p.length)) else []) (by omega) (fun c h=>by
   by_cases h0:c=0
   ·subst h0
    exact r1
   ·unfold one
    rw [if_neg (fun e=>h0 (by have:=congrArg Fin.val e;exact this)),if_neg h0]
    exact WB)
  rw [show gA self (lY p (gq f))=_ from this,Q4]
  unfold eV
  rw [if_neg (by omega),if_pos (by omega),c1,c2]
 | @br d' _ f he hkk h2=>
  subst he
  have hb:TW (d'+1) (gq f):= .br rfl hkk h2
  obtain ⟨c1,c2,c3⟩:=MP hw.wf hb hs
  refine ⟨?_,(by intro e;rw [e] at c2;simp at c2),show (3:Int)≠ -1 by decide⟩
  have:=ED self 3 [] [] [] f (fun c=>lX (iz (rest (qW l c) 1))) (by simp) (fun c h=>hk d' (f ⟨c,h⟩) (rest (qW l c) 1) (by omega) (TN.HV hkk _) (hw.HV (by omega) c) (c3 c h))
  rw [show gA self (gq f)=_ from this]
  unfold eV
  rw [if_neg (by omega),if_neg (by omega)]
  exact congrArg (fun x=>some (⟨3,[],[],x⟩:Node)) (Subtype.ext (ME _))
theorem PB {self:Tree→Option (List UInt8)} {v d:Nat} {t:aa} {l:List In} (hk:Kt self v d) (ht:TN d t) (hw:WG v d l) (hs:nD d t l):jL self ⟨t⟩=some (iz l)∧mP self ⟨t⟩=some (lX (iz l)):=by
 rcases ht with rfl | ht
 ·have hl:=JV hw.wf hs
  subst hl
  rw [EC]
  exact ⟨rfl,rfl⟩
 ·obtain ⟨h1,h2,h3⟩:=MQ hk ht hw hs
  have hn:=ht.isNil
  have hE:jL self ⟨t⟩=some (iz l):=by
   unfold jL
   show gO (t.isNil=false→t.isNil=false) (bif t.isNil||decide (t.at.aZ= -1) then _ else _)=_
   rw [ah (fun h=>h),hn,decide_eq_false h3]
   show (gA self t).bind _=_
   rw [h1,Option.bind_some,TJ hw h2]
   rfl
  refine ⟨hE,?_⟩
  unfold mP
  have hle:=MM hw.wf
  have WA:=hw.wf.top
  show gO ((!t.isNil)=true→t.isNil=false) (bif (!t.isNil)&&decide (t.at.aZ= -1) then _ else _)=_
  rw [ah (by intro _;exact hn),decide_eq_false h3,Bool.and_false,cond_false,hE,Option.bind_some,QX _ (by omega)]
  rfl
theorem MR:∀ m,0<m→jn m ⟨.nil⟩=some []:=by
 intro m hm
 obtain ⟨m,rfl⟩:∃ k,m=k+1:=⟨m-1,by omega⟩
 rfl
theorem MS (v:Nat):∀ (n d:Nat),d<n→∀ (t:aa) (l:List In),TN d t→WG v d l→nD d t l→∀ m,d+1<m→jn m ⟨t⟩=some (lX (iz l))
 | 0,d,h,_,_,_,_,_=>by omega
 | n+1,d,hd,t,l,ht,hw,hs=>by
  intro m hm
  obtain ⟨m,rfl⟩:∃ k,m=k+1:=⟨m-1,by omega⟩
  exact (PB (self:=jn m) ⟨MR m (by omega),fun d' t' l' hd' a b c=>MS v n d' (by omega) t' l' a b c m (by omega)⟩ ht hw hs).2
theorem MT {v d:Nat} {t:aa} {l:List In} (ht:TN d t) (hw:WG v d l) (hs:nD d t l):iG ⟨t⟩=some (lX (iz l)):=ni (d+2) fun m hm=>MS v (d+1) d (by omega) t l ht hw hs m (by omega)
theorem PC (v d:Nat):Kt iG v d:=⟨ni 1 fun m hm=>MR m (by omega),fun d' t' l' _ a b c=>MT a b c⟩
theorem MU {v d:Nat} {t:aa} {l:List In} (ht:TN d t) (hw:WG v d l) (hs:nD d t l):jw ⟨t⟩=some (iz l):=(PB (PC v d) ht hw hs).1
theorem Q5 {v d:Nat} {t:aa} {l:List In} (ht:TW d t) (hw:WG v d l) (hs:nD d t l):oz t=some (eV l)∧l≠[]:=by
 obtain ⟨h1,h2,_⟩:=MQ (PC v d) ht hw hs
 exact ⟨h1,h2⟩
end Go.Proofs.YtlfjfoknbjcncaaGreat.K
namespace Go.Proofs.YtlfjfoknbjcncaaGreat.K
open Go
set_option linter.unusedVariables false
set_option linter.unusedSimpArgs false
theorem Q6 (k:aE 32 UInt8):xM k=some (dD k.1):=by
 have hk:k.1.length=32:=k.2
 have hl:(dD k.1).length=64:=by rw [qR,hk]
 refine cS (Comes.next (c':= .L1 ((dD k.1).take 0) ((0:Nat):Int)) (by simp only [kg];rfl) ?_)
 refine Comes.upto (fun i=>xL.L1 ((dD k.1).take i) (i:Int)) 64 (fun i hi=>?_) (Comes.stop ?_)
 ·have e1:(i:Int).tdiv 2=((i/2:Nat):Int):=by rw [Int.tdiv_eq_ediv_of_nonneg (by omega)];omega
  have e2:(i:Int).tmod 2=((i%2:Nat):Int):=by rw [Int.tmod_eq_emod_of_nonneg (by omega)];omega
  have e3:((dD k.1).take i).length≤64:=by rw [List.length_take];omega
  have e4:idx k.1 ((i/2:Nat):Int)=k.1.getD (i/2) 0:=gl _ _
  simp only [kg]
  rw [decide_eq_true (by omega),cond_true,e1,ah ⟨by omega,by unfold bw;omega⟩,ah (by omega),e2,e4]
  by_cases h:i%2=0
  ·rw [decide_eq_true (by omega),cond_true,Option.bind_some,ah (by simp only [List.length_singleton];omega),ah (by unfold bw;omega),OL _ i h (by omega)]
   rfl
  ·rw [decide_eq_false (by omega),cond_false,Option.bind_some,ah (by simp only [List.length_singleton];omega),ah (by unfold bw;omega),Qw _ i (by omega) (by omega)]
   rfl
 ·simp only [kg]
  rw [decide_eq_false (by omega),cond_false,List.take_of_length_le (by omega)]
noncomputable def uQ (x:bt):bt:=
 let y:bt:=if x.az=[] then ⟨x.ct,[118]⟩ else x
 if 100<y.az.length then ⟨y.ct,y.az.take 100⟩ else y
theorem TM (x:bt):(uQ x).az.length≤100:=by
 unfold uQ
 simp only
 generalize (if x.az=[] then (⟨x.ct,[118]⟩:bt) else x)=y
 split
 ·rw [List.length_take];omega
 ·omega
theorem Q7 (l:List bt):wo l=some ((l.take 24).map uQ):=by
 refine cS (Comes.next (c':= .L1 ((l.take 0).map uQ) ((0:Nat):Int)) (by simp only [jN];rfl) ?_)
 refine Comes.upto (fun i=>wm.L1 ((l.take i).map uQ) (i:Int)) (min l.length 24) (fun i hi=>?_) (Comes.stop ?_)|>fun h=>(show l.take 24=l.take (min l.length 24) from ?_)▸h
 ·have hi1:i<l.length:=by omega
  have e3:((l.take i).map uQ).length≤24:=by rw [List.length_map,List.length_take];omega
  have eb:((idx l (i:Int)).az==([]:List UInt8))=decide ((idx l (i:Int)).az=[]):=by rw [Bool.eq_iff_iff];simp
  simp only [jN]
  rw [decide_eq_true (by omega),decide_eq_true (by omega),Bool.true_and,cond_true,ah (by omega),eb,mm l hi1,List.map_append,List.map_cons,List.map_nil]
  generalize idx l (i:Int)=x
  generalize (l.take i).map uQ=acc at*
  have:((bif decide (x.az=[]) then some (⟨x.ct,[118]⟩:bt) else some x):Option bt)=some (if x.az=[] then ⟨x.ct,[118]⟩ else x):=by
   by_cases h:x.az=[]
   ·rw [decide_eq_true h,cond_true,if_pos h]
   ·rw [decide_eq_false h,cond_false,if_neg h]
  rw [this,Option.bind_some]
  unfold uQ
  simp only
  generalize (if x.az=[] then (⟨x.ct,[118]⟩:bt) else x)=y
  by_cases h:100<y.az.length
  ·rw [decide_eq_true (by omega),cond_true,ah (by omega),Option.bind_some,ah (by simp only [List.length_singleton];omega),ah (by unfold bw;omega),if_pos h]
   rfl
  ·rw [decide_eq_false (by omega),cond_false,Option.bind_some,ah (by simp only [List.length_singleton];omega),ah (by unfold bw;omega),if_neg h]
   rfl
 ·simp only [jN]
  by_cases h:l.length<24
  ·rw [decide_eq_false (by omega),Bool.false_and,cond_false]
  ·rw [decide_eq_false (p:=((min l.length 24:Nat):Int)<24) (by omega),Bool.and_false,cond_false]
 ·by_cases h:l.length≤24
  ·rw [Nat.min_eq_left h,List.take_length,List.take_of_length_le h]
  ·rw [Nat.min_eq_right (by omega)]
def AL (r:List bt) (x:bt):Bool:=r.all fun y=> !(y.ct.1==x.ct.1)
def lZ:List bt→List In
 | []=>[]
 | x::r=>(if AL r x=true then [⟨dD x.ct.1,x.az⟩] else [])++lZ r
theorem EE:∀ l:List bt,(lZ l).length≤l.length
 | []=>Nat.le_refl _
 | x::r=>by
  have:=EE r
  rw [lZ,List.length_append,List.length_cons]
  split
  ·rw [List.length_singleton];omega
  ·rw [List.length_nil];omega
theorem vl:∀ (l:List bt) (y:In),y∈lZ l→∃ x∈l,y=⟨dD x.ct.1,x.az⟩
 | [],y,h=>by simp [lZ] at h
 | x::r,y,h=>by
  rw [lZ] at h
  rcases List.mem_append.1 h with h | h
  ·split at h
   ·exact ⟨x,List.mem_cons_self ..,List.mem_singleton.1 h⟩
   ·simp at h
  ·obtain ⟨z,hz,e⟩:=vl r y h
   exact ⟨z,List.mem_cons_of_mem _ hz,e⟩
theorem MV:∀ l:List bt,(lZ l).Pairwise fun x y=>x.av≠y.av
 | []=>List.Pairwise.nil
 | x::r=>by
  have ih:=MV r
  rw [lZ]
  split
  ·rename_i h
   rw [List.singleton_append,List.pairwise_cons]
   refine ⟨fun y hy e=>?_,ih⟩
   obtain ⟨z,hz,rfl⟩:=vl r y hy
   have h1:=List.all_eq_true.1 h z hz
   have h2:x.ct.1=z.ct.1:=by
    have:=congrArg fq (show dD x.ct.1=dD z.ct.1 from e)
    rwa [sk,sk] at this
   rw [h2] at h1
   simp at h1
  ·exact ih
theorem Wa (l:List bt) (hn:l.length≤1000):ze l=some (lZ l):=by
 have inner:∀ (acc:List In) (i:Nat) (R:List In),i<l.length→∀ (k j:Nat) (b:Bool),k+j=l.length→Comes (dB l) (.L3 acc (i:Int) (b&&AL (l.drop j) (idx l (i:Int))) ((l.length:Nat):Int)) R→Comes (dB l) (.L3 acc (i:Int) b (j:Int)) R:=by
  intro acc i R hi k
  induction k with
  | zero=>
   intro j b hj h
   have:j=l.length:=by omega
   subst this
   rw [List.drop_length] at h
   rw [show (b&&AL [] (idx l (i:Int)))=b by simp [AL]] at h
   exact h
  | succ k ih=>
   intro j b hj h
   have hj2:j<l.length:=by omega
   refine Comes.next (c':= .L3 acc (i:Int) (b&& !((idx l (j:Int)).ct.1==(idx l (i:Int)).ct.1)) ((j+1:Nat):Int)) ?_ (ih (j+1) _ (by omega) ?_)
   ·simp only [dB]
    rw [decide_eq_true (by omega),cond_true,ah (fun _=>by omega),ah (fun _=>by omega),ah (by unfold bw;omega)]
    rfl
   ·rw [lI l hj2] at h
    rw [Bool.and_assoc]
    exact h
 have main:∀ (k i:Nat) (acc:List In),k+i=l.length→acc.length≤i→Comes (dB l) (.L1 acc (i:Int)) (acc++lZ (l.drop i)):=by
  intro k
  induction k with
  | zero=>
   intro i acc hi ha
   refine Comes.stop ?_
   simp only [dB]
   rw [decide_eq_false (by omega),cond_false,List.drop_eq_nil_of_le (by omega),lZ,List.append_nil]
  | succ k ih=>
   intro i acc hi ha
   have hi2:i<l.length:=by omega
   refine Comes.next (c':= .L3 acc (i:Int) true ((i+1:Nat):Int)) ?_ (inner acc i _ hi2 (l.length-(i+1)) (i+1) true (by omega) ?_)
   ·simp only [dB]
    rw [decide_eq_true (by omega),cond_true,ah (by unfold bw;omega)]
    rfl
   ·rw [Bool.true_and,lI l hi2,lZ]
    have J:∀ a:List In,a.length≤i+1→Comes (dB l) (.J2 a (i:Int)) (a++lZ (l.drop (i+1))):=by
     intro a h
     refine Comes.next (c':= .L1 a ((i+1:Nat):Int)) ?_ (ih (i+1) a (by omega) h)
     simp only [dB]
     rw [ah (by unfold bw;omega)]
     rfl
    cases hb:AL (l.drop (i+1)) (idx l (i:Int)) with
    | true=>
     have:=J (acc++[⟨dD (idx l (i:Int)).ct.1,(idx l (i:Int)).az⟩]) (by simp;omega)
     rw [List.append_assoc] at this
     refine Comes.next ?_ (by rw [if_pos rfl];exact this)
     simp only [dB]
     rw [decide_eq_false (by omega),cond_false,cond_true,ah (by omega),Q6,Option.bind_some,ah (by omega),ah (by simp only [List.length_singleton];omega)]
    | false=>
     have:=J acc (by omega)
     refine Comes.next ?_ (by rw [if_neg (by simp),List.nil_append];exact this)
     simp only [dB]
     rw [decide_eq_false (by omega),cond_false,cond_false]
 exact cS (Comes.next (by simp only [dB];rfl) (main l.length 0 [] rfl (Nat.le_refl _)))
end Go.Proofs.YtlfjfoknbjcncaaGreat.K
namespace Go.Proofs.YtlfjfoknbjcncaaGreat.K
open Go
set_option linter.unusedVariables false
set_option linter.unusedSimpArgs false
theorem Bm (k:aE 32 UInt8):PQ 64 (dD k.1):=⟨by rw [qR,k.2],zi _⟩
theorem O2 {a b:List UInt8} (h:dD a=dD b):a=b:=by
 have:=congrArg fq h
 rwa [sk,sk] at this
theorem key_inj {a b:aE 32 UInt8} (h:dD a.1=dD b.1):a=b:=Subtype.ext (O2 h)
def keyOf (s:List UInt8) (h:PQ 64 s):aE 32 UInt8:=⟨fq s,by rw [rE,h.1]⟩
theorem Bn {s:List UInt8} (h:PQ 64 s):dD (keyOf s h).1=s:=va s (by rw [h.1]) h.2
def l5:List bt→aE 32 UInt8→Option (List UInt8)
 | [],_=>none
 | x::r,k=>match l5 r k with
  | some w=>some w
  | none=>if x.ct=k then some x.az else none
theorem Q8 (l:List bt) (x:bt) (k:aE 32 UInt8):l5 (l++[x]) k=if x.ct=k then some x.az else l5 l k:=by
 induction l with
 | nil=>rfl
 | cons y r ih=>
  show (match l5 (r++[x]) k with | some w=>some w | none=>_)=_
  rw [ih]
  by_cases h:x.ct=k
  ·rw [if_pos h,if_pos h]
  ·rw [if_neg h,if_neg h];rfl
def CN (l:List bt) (k:aE 32 UInt8):List bt:=l.filter fun x=> !(x.ct.1==k.1)
theorem PD {a b:aE 32 UInt8}:(a.1==b.1)=decide (a=b):=by
 rw [Bool.eq_iff_iff,beq_iff_eq,decide_eq_true_eq]
 exact ⟨fun h=>Subtype.ext h,fun h=>by rw [h]⟩
theorem MW (l:List bt) (k j:aE 32 UInt8):l5 (CN l k) j=if j=k then none else l5 l j:=by
 induction l with
 | nil=>unfold CN;simp [l5]
 | cons x r ih=>
  unfold CN at ih ⊢
  rw [List.filter_cons]
  by_cases h:x.ct=k
  ·rw [if_neg (by rw [PD,decide_eq_true h];decide),ih]
   by_cases h2:j=k
   ·rw [if_pos h2,if_pos h2]
   ·rw [if_neg h2,if_neg h2]
    show _=match l5 r j with | some w=>some w | none=>_
    rw [if_neg (fun e=>h2 (e.symm.trans h))]
    cases l5 r j<;>rfl
  ·rw [if_pos (by rw [PD,decide_eq_false h];rfl)]
   show (match l5 (r.filter _) j with | some w=>some w | none=>_)=_
   rw [ih]
   by_cases h2:j=k
   ·rw [if_pos h2,if_pos h2]
    simp only
    rw [if_neg (fun e=>h (e.trans h2))]
   ·rw [if_neg h2,if_neg h2];rfl
theorem CO:∀ (l:List bt) (k:aE 32 UInt8),l5 l k=none↔∀ x∈l,x.ct≠k
 | [],k=>by simp [l5]
 | x::r,k=>by
  have ih:=CO r k
  show (match l5 r k with | some w=>some w | none=>_)=none↔_
  cases h:l5 r k with
  | some w=>
   rw [h] at ih
   simp only [List.mem_cons,forall_eq_or_imp]
   constructor
   ·intro e;cases e
   ·intro e;exact absurd (ih.2 e.2) (by simp)
  | none=>
   simp only [List.mem_cons,forall_eq_or_imp]
   by_cases h2:x.ct=k
   ·rw [if_pos h2]
    constructor
    ·intro e;cases e
    ·intro e;exact absurd h2 e.1
   ·rw [if_neg h2]
    exact ⟨fun _=>⟨h2,ih.1 h⟩,fun _=>rfl⟩
theorem Bo:∀ (l:List bt) (k:aE 32 UInt8) (w:List UInt8),(⟨dD k.1,w⟩:In)∈lZ l↔l5 l k=some w
 | [],k,w=>by simp [lZ,l5]
 | x::r,k,w=>by
  have ih:=Bo r k w
  have hl:AL r x=true↔l5 r x.ct=none:=by
   rw [CO]
   unfold AL
   rw [List.all_eq_true]
   constructor
   ·intro h y hy e
    have:=h y hy
    rw [PD,decide_eq_true e] at this;cases this
   ·intro h y hy
    rw [PD,decide_eq_false (h y hy)];rfl
  rw [lZ,List.mem_append,ih]
  show _↔(match l5 r k with | some w=>some w | none=>_)=some w
  by_cases hx:x.ct=k
  ·subst hx
   cases h:l5 r x.ct with
   | some z=>
    rw [if_neg (by rw [hl,h];simp)]
    simp
   | none=>
    rw [if_pos (hl.2 h),if_pos rfl]
    simp only [List.mem_singleton,In.mk.injEq,true_and,reduceCtorEq,or_false,Option.some.injEq]
    exact ⟨fun e=>e.symm,fun e=>e.symm⟩
  ·have hn:¬ (⟨dD k.1,w⟩:In)∈(if AL r x=true then [(⟨dD x.ct.1,x.az⟩:In)] else []):=by
    split
    ·rw [List.mem_singleton,In.mk.injEq]
     exact fun e=>hx (key_inj e.1).symm
    ·simp
   rw [if_neg hx]
   constructor
   ·intro h
    rw [h.resolve_left hn]
   ·intro h
    refine .inr ?_
    revert h
    cases l5 r k with
    | some z=>exact fun h=>h
    | none=>exact fun h=>h
theorem FR (v:Nat) (l:List bt) (hn:l.length≤64) (hv:∀ x∈l,x.az≠[]∧x.az.length≤v) (TO:v≤200):WG v 64 (lZ l) where
 wf:={
  len:=fun x hx=>by
   obtain ⟨y,hy,rfl⟩:=vl l x hx
   exact (Bm y.ct).1
  KH:=fun x hx=>by
   obtain ⟨y,hy,rfl⟩:=vl l x hx
   exact zi _
  val:=fun x hx=>by
   obtain ⟨y,hy,rfl⟩:=vl l x hx
   exact (hv y hy).2
  nd:=MV l
  cnt:=Nat.le_trans (EE l) hn
  dep:=Nat.le_refl _
  top:=TO}
 ne x hx:=by
  obtain ⟨y,hy,rfl⟩:=vl l x hx
  exact (hv y hy).1
structure pW (t:aa) (m:List bt):Prop where
 tn:TN 64 t
 val:∀ k,look t (dD k.1)=l5 m k
theorem pW.same {t:aa} {m:List bt} (h:pW t m):nD 64 t (lZ m):=by
 intro s w hs
 rw [← Bn hs,h.val,Bo]
theorem pW.nil:pW .nil []:=⟨.inl rfl,fun k=>by rw [nC];rfl⟩
theorem pW.empty {t:aa} {m:List bt} (h:pW t m):t.isNil=decide (m=[]):=by
 rw [Bool.eq_iff_iff,zo,decide_eq_true_eq]
 constructor
 ·intro e
  subst e
  rw [List.eq_nil_iff_forall_not_mem]
  intro x hx
  have:=h.val x.ct
  rw [nC] at this
  exact (CO m x.ct).1 this.symm x hx rfl
 ·intro e
  subst e
  rcases h.tn with h1 | h1
  ·exact h1
  ·obtain ⟨s,w,h2,h3⟩:=h1.has
   have:=h.val (keyOf s h2)
   rw [Bn,h3] at this
   cases this
theorem TP {t:aa} {m:List bt} {k:aE 32 UInt8} {v:List UInt8} (h:pW t m) (hv:v≠[]) (hl:v.length≤65552):∃ t',jv ⟨t⟩ k v=some (⟨t'⟩,0)∧TW 64 t'∧∀ s,PQ 64 s→look t' s=if s=dD k.1 then some v else look t s:=by
 obtain ⟨t',h1,h2,h3⟩:=JS v h.tn (Bm k) (Nat.le_refl _)
 refine ⟨t',?_,h2,h3⟩
 unfold jv
 rw [show (v==([]:List UInt8))=false from beq_eq_false_iff_ne.2 hv,decide_eq_false (by omega),Bool.or_self,cond_false,Bk,Option.bind_some,h1]
 rfl
theorem pW.put {t t':aa} {m:List bt} {k:aE 32 UInt8} {v:List UInt8} (h:pW t m) (h2:TW 64 t') (h3:∀ s,PQ 64 s→look t' s=if s=dD k.1 then some v else look t s) (m':List bt) (hm:∀ j,l5 m' j=if j=k then some v else l5 m j):pW t' m' where
 tn:= .inr h2
 val j:=by
  rw [h3 _ (Bm j),hm,h.val]
  by_cases e:j=k
  ·rw [if_pos e,if_pos (by rw [e])]
  ·rw [if_neg e,if_neg (fun e2=>e (key_inj e2))]
theorem H9 {t:aa} {m:List bt} (k:aE 32 UInt8) (h:pW t m):kf ⟨t⟩ k=some (match l5 m k with | some w=>(w,0) | none=>([],7)):=by
 obtain ⟨v,b,h1,h2⟩:=QY h.tn (Bm k) (Nat.le_refl _)
 rw [h.val] at h2
 unfold kf
 rw [Bk,Option.bind_some,h1,Option.bind_some,h2]
 cases b<;>rfl
theorem TQ {t:aa} {m:List bt} {k:aE 32 UInt8} (h:pW t m) (hn:l5 m k=none):gN ⟨t⟩ k=some (⟨.nil⟩,7):=by
 unfold gN
 rw [H9 k h,hn];rfl
theorem MX {t:aa} {m:List bt} {k:aE 32 UInt8} {w:List UInt8} (h:pW t m) (hn:l5 m k=some w):∃ t',gN ⟨t⟩ k=some (⟨t'⟩,0)∧pW t' (CN m k):=by
 have hl:look t (dD k.1)≠none:=by rw [h.val,hn];simp
 rcases h.tn with rfl | ht
 ·rw [nC] at hl;exact absurd rfl hl
 ·obtain ⟨t',h1,h2,h3⟩:=Q0 ht (Bm k) (Nat.le_refl _) hl
  refine ⟨t',?_,h2,fun j=>?_⟩
  ·unfold gN
   rw [H9 k h,hn,Option.bind_some]
   show (rj k).bind _=_
   rw [Bk,Option.bind_some,h1];rfl
  ·rw [h3 _ (Bm j),MW,h.val]
   by_cases e:j=k
   ·rw [if_pos e,if_pos (by rw [e])]
   ·rw [if_neg e,if_neg (fun e2=>e (key_inj e2))]
theorem KM (l:List bt) (hn:l.length≤1000000) (hv:∀ x∈l,x.az≠[]∧x.az.length≤65552):∃ t,qN l=some ⟨t⟩∧pW t l:=by
 have main:∀ (k i:Nat) (t:aa),k+i=l.length→pW t (l.take i)→∀ u,∃ t',Comes (lD l) (.L1 (i:Int) u t) ⟨t'⟩∧pW t' l:=by
  intro k
  induction k with
  | zero=>
   intro i t hi h u
   rw [List.take_of_length_le (by omega)] at h
   refine ⟨t,Comes.stop ?_,h⟩
   simp only [lD]
   rw [decide_eq_false (by omega),cond_false]
  | succ k ih=>
   intro i t hi h u
   have hi2:i<l.length:=by omega
   obtain ⟨v1,v2⟩:=hv _ (e9 l hi2)
   obtain ⟨t',g1,g2,g3⟩:=TP (k:=(idx l (i:Int)).ct) h v1 v2
   obtain ⟨t2,c1,c2⟩:=ih (i+1) t' (by omega) (h.put g2 g3 _ fun j=>by
    rw [mm l hi2,Q8]
    by_cases e:j=(idx l (i:Int)).ct
    ·rw [if_pos e,if_pos e.symm]
    ·rw [if_neg e,if_neg (fun e2=>e e2.symm)]) u
   refine ⟨t2,Comes.next ?_ c1,c2⟩
   simp only [lD]
   rw [decide_eq_true (by omega),cond_true,ah (by omega),g1,Option.bind_some,decide_eq_true rfl,cond_true,ah (by unfold bw;omega)]
   rfl
 obtain ⟨t,h1,h2⟩:=main l.length 0 .nil rfl (by rw [List.take_zero];exact .nil) .nil
 exact ⟨t,cS (Comes.next (by simp only [lD];rfl) h1),h2⟩
theorem pW.enc {t:aa} {m:List bt} {v:Nat} (h:pW t m) (hn:m.length≤64) (hv:∀ x∈m,x.az≠[]∧x.az.length≤v) (TO:v≤200):jw ⟨t⟩=some (iz (lZ m))∧pM (lZ m)=some (iz (lZ m))∧iG ⟨t⟩=some (lX (iz (lZ m))):=by
 have hw:=FR v m hn hv TO
 exact ⟨MU h.tn hw h.same,by rw [Pz hw.wf,AK hw.wf],MT h.tn hw h.same⟩
theorem Q9 (l:List bt) (k:aE 32 UInt8) {i:Nat} (hi:i<l.length):CN (l.take (i+1)) k=CN (l.take i) k++(if (!((idx l (i:Int)).ct.1==k.1))=true then [idx l (i:Int)] else []):=CL _ l hi
theorem MY (l:List bt) (k:aE 32 UInt8):(CN l k).length≤l.length:=List.length_filter_le _ _
theorem MZ (l:List bt) (k:aE 32 UInt8) (hn:l.length≤1000):tf l k=some (CN l k):=by
 refine cS (Comes.next (c':= .L1 (CN (l.take 0) k) ((0:Nat):Int)) (by simp only [iL];rfl) ?_)
 refine Comes.upto (fun i=>td.L1 (CN (l.take i) k) (i:Int)) l.length (fun i hi=>?_) (Comes.stop ?_)
 ·have hl:=MY (l.take i) k
  rw [List.length_take] at hl
  simp only [iL]
  rw [decide_eq_true (by omega),cond_true,ah (by omega),Q9 l k hi]
  cases hb:(!((idx l (i:Int)).ct.1==k.1)) with
  | true=>rw [cond_true,ah (by omega),ah (by simp only [List.length_singleton];omega),Option.bind_some,ah (by unfold bw;omega),if_pos rfl];rfl
  | false=>rw [cond_false,Option.bind_some,ah (by unfold bw;omega),if_neg (by simp),List.append_nil];rfl
 ·simp only [iL]
  rw [decide_eq_false (by omega),cond_false,List.take_length]
end Go.Proofs.YtlfjfoknbjcncaaGreat.K
namespace Go.Proofs.YtlfjfoknbjcncaaGreat.K
open Go
set_option linter.unusedVariables false
set_option linter.unusedSimpArgs false
def O3 (f:Fin 16→aa):List Tree:=((List.ofFn f).filter fun x=> !x.isNil).map Tree.mk
theorem M0 {α β:Type} [Inhabited α] (p:α→Bool) (g:α→β) (l:List α) {i:Nat} (hi:i<l.length):((l.take (i+1)).filter p).map g=((l.take i).filter p).map g++(if p (idx l (i:Int))=true then [g (idx l (i:Int))] else []):=by
 rw [CL p l hi,List.map_append]
 split<;>rfl
theorem Ra {k:Int} {p v r:List UInt8} {f:Fin 16→aa} {n:Node} (hk:k≠ -1) (hn:oz (.node k p v f r)=some n):oA ⟨.node k p v f r⟩=some (n,O3 f):=by
 have hl:(List.ofFn f).length=16:=by simp
 refine cS (Comes.next (c':= .L1 ((((List.ofFn f).take 0).filter fun x=> !x.isNil).map Tree.mk) ((0:Nat):Int)) ?_ ?_)
 ·simp only [iu]
  show gO ((aa.node k p v f r).isNil=false→(aa.node k p v f r).isNil=false) (bif (aa.node k p v f r).isNil||decide (k= -1) then _ else _)=_
  rw [ah (fun h=>h),decide_eq_false hk,show (aa.node k p v f r).isNil=false from rfl,Bool.or_self,cond_false,ah rfl]
  rfl
 ·refine Comes.upto (fun i=>r6.L1 ((((List.ofFn f).take i).filter fun x=> !x.isNil).map Tree.mk) (i:Int)) 16 (fun i hi=>?_) (Comes.stop ?_)
  ·have hle:((((List.ofFn f).take i).filter fun x=> !x.isNil).map Tree.mk).length≤16:=by
    rw [List.length_map]
    have:=List.length_filter_le (fun x:aa=> !x.isNil) ((List.ofFn f).take i)
    rw [List.length_take] at this;omega
   simp only [iu]
   rw [M0 _ _ _ (show i<(List.ofFn f).length by omega)]
   rw [decide_eq_true (by omega),cond_true,ah (by omega),show (aa.node k p v f r).at.bZ.1=List.ofFn f from rfl]
   cases hb:(!(idx (List.ofFn f) (i:Int)).isNil) with
   | true=>rw [cond_true,ah (by simp only [List.length_singleton];omega),ah (by unfold bw;omega),if_pos rfl];rfl
   | false=>rw [cond_false,ah (by unfold bw;omega),if_neg (by simp),List.append_nil];rfl
  ·simp only [iu]
   rw [decide_eq_false (by omega),cond_false,hn,List.take_of_length_le (by omega)]
   rfl
theorem Rb {v d:Nat} {f:Fin 16→aa} {l:List In} (hb:TW (d+1) (gq f)) (hw:WG v (d+1) l) (hs:nD (d+1) (gq f) l):(O3 f).length=((List.range 16).filter fun c=> !(qW l c).isEmpty).length:=by
 obtain ⟨c1,c2,c3⟩:=MP hw.wf hb hs
 have hk:∀ c,f c≠ .nil→TW d (f c):=by
  generalize e:gq f=t at hb
  cases hb with
  | leaf _=>cases e
  | ext _ _ _ _=>cases e
  | @br d' _ g he hk h2=>
   have hg:f=g:=by unfold gq at e;injection e
   subst hg
   have:d'=d:=by omega
   subst this;exact hk
 have e1:∀ c (h:c<16),(!(f ⟨c,h⟩).isNil)=(!(qW l c).isEmpty):=by
  intro c h
  congr 1
  rw [Bool.eq_iff_iff,zo,List.isEmpty_iff]
  have h3:=c3 c h
  constructor
  ·intro e
   rw [e] at h3
   exact DR.1 (JV (hw.HV (by omega) c).wf h3)
  ·intro e
   rcases TN.HV hk ⟨c,h⟩ with h4 | h4
   ·exact h4
   ·obtain ⟨s,w,h5,h6⟩:=h4.has
    have:=(h3 s w h5).1 h6
    rw [e] at this;cases this
 unfold O3
 rw [List.length_map]
 have e2:List.ofFn f=(List.range 16).map fun c=>if h:c<16 then f ⟨c,h⟩ else .nil:=by
  apply List.ext_getElem
  ·simp
  ·intro i h1 h2
   have hi:i<16:=by rw [List.length_ofFn] at h1;exact h1
   rw [List.getElem_ofFn,List.getElem_map,List.getElem_range,dif_pos hi]
 rw [e2,List.filter_map,List.length_map]
 congr 1
 refine List.filter_congr fun c hc=>?_
 have hc:c<16:=by simpa using hc
 simp only [Function.comp]
 rw [dif_pos hc]
 exact e1 c hc
def O4:aE 32 UInt8:=aE.rep 32 (0:UInt8)
def DS:aE 32 UInt8:=(aE.rep 32 (0:UInt8)).put (0:Int) (16:UInt8)
def DT:List bt:=[⟨O4,[120]⟩,⟨DS,[121]⟩]
theorem X3:CN DT O4=[⟨DS,[121]⟩]:=rfl
theorem M1 (l:List bt) (h:l=DT∨l=[⟨DS,[121]⟩]):l.length≤64∧∀ x∈l,x.az≠[]∧x.az.length≤1:=by
 rcases h with rfl | rfl
 ·refine ⟨by decide,fun x hx=>?_⟩
  simp only [DT,List.mem_cons,List.not_mem_nil,or_false] at hx
  rcases hx with rfl | rfl<;>exact ⟨by simp,by simp⟩
 ·refine ⟨by simp,fun x hx=>?_⟩
  rw [List.mem_singleton.1 hx];exact ⟨by simp,by simp⟩
theorem Rc:o7=some true:=by
 have hA:l5 DT O4=some [120]:=by decide
 have hB:l5 DT DS=some [121]:=by decide
 have hB1:l5 [⟨DS,[121]⟩] DS=some [121]:=by decide
 obtain ⟨n1,v1⟩:=M1 DT (.inl rfl)
 obtain ⟨n2,v2⟩:=M1 _ (.inr rfl)
 obtain ⟨t,t1,t2⟩:=KM DT (by omega) fun x hx=>⟨(v1 x hx).1,by have:=(v1 x hx).2;omega⟩
 obtain ⟨s,s1,s2⟩:=KM [⟨DS,[121]⟩] (by omega) fun x hx=>⟨(v2 x hx).1,by have:=(v2 x hx).2;omega⟩
 obtain ⟨u,u1,u2⟩:=MX (k:=O4) (w:=[120]) t2 hA
 rw [X3] at u2
 have g1:=H9 DS t2
 rw [hB] at g1
 have e1:=(u2.enc n2 v2 (by omega)).1
 have e2:=(s2.enc n2 v2 (by omega)).1
 have hw:=FR 1 DT n1 v1 (by omega)
 have XY:=FR 1 _ n2 v2 (by omega)
 have ht:TW 64 t:=t2.tn.resolve_left fun e=>by
  have:=t2.empty
  rw [e] at this;cases this
 have hs:=t2.same
 have hm:∀ (k:aE 32 UInt8) (w:List UInt8),l5 DT k=some w→(⟨dD k.1,w⟩:In)∈lZ DT:=fun k w h=>(Bo DT k w).2 h
 have pA:dD O4.1=0::(dD O4.1).drop 1:=by decide
 have pB:dD DS.1=1::(dD DS.1).drop 1:=by decide
 have mA:=hm _ _ hA
 have mB:=hm _ _ hB
 rw [pA] at mA
 rw [pB] at mB
 obtain ⟨c1,_,c2⟩:=KL (p:=[]) hw.wf (show (0:UInt8)≠1 by decide) mA mB (fun x _=>rfl)
 obtain ⟨hN,hl⟩:=Q5 ht hw hs
 have hk3:(eV (lZ DT)).bf=3:=by
  unfold eV
  rw [if_neg (by omega),if_neg (by rw [c1];simp)]
 have hlk:(lZ DT)=[⟨dD O4.1,[120]⟩,⟨dD DS.1,[121]⟩]:=rfl
 have X4:∃ ks,oA ⟨t⟩=some (eV (lZ DT),ks)∧ks.length=2:=by
  cases ht with
  | @leaf _ p w hp=>
   have:=H8 hw.wf hp hs
   rw [this] at c2;simp at c2
  | @ext d' _ p f he tK EB hb=>
   obtain ⟨k1,_,_,_⟩:=JW hw.wf he tK EB hb hs
   have Lz:0<p.length:=List.length_pos_iff.2 tK
   rw [c1] at k1
   have k1:0=p.length:=k1
   omega
  | @br d' _ f he hkk h2=>
   obtain rfl:d'=63:=by omega
   refine ⟨_,Ra (by decide) hN,?_⟩
   rw [Rb (v:=1) (.br rfl hkk h2) hw hs,hlk]
   decide
 obtain ⟨ks,k1,k2⟩:=X4
 have eb:=vk XY.wf (by
  intro e
  have:=(Bo [⟨DS,[121]⟩] DS [121]).2 hB1
  rw [e] at this;cases this)
 have hz:(iz (lZ [⟨DS,[121]⟩])==([]:List UInt8))=false:=by
  rw [beq_eq_false_iff_ne]
  intro e;rw [e] at eb;simp at eb
 unfold o7
 rw [show qN ([(⟨(aE.rep 32 (0:UInt8)),([120]:List UInt8)⟩:bt),(⟨((aE.rep 32 (0:UInt8)).put (0:Int) (16:UInt8)),([121]:List UInt8)⟩:bt)]:List bt)=_ from t1,Option.bind_some]
 rw [show kf ⟨t⟩ ((aE.rep 32 (0:UInt8)).put (0:Int) (16:UInt8))=_ from g1,Option.bind_some]
 rw [show gN ⟨t⟩ (aE.rep 32 (0:UInt8))=_ from u1,Option.bind_some,k1,Option.bind_some]
 have q1:((([121],(0:Int)).1==([121]:List UInt8))&&decide (([121],(0:Int)).2=0))=true:=rfl
 simp only [beq_self_eq_true,decide_true,Bool.and_self,cond_true,e1,Option.bind_some,Bool.true_and]
 rw [show qN ([(⟨((aE.rep 32 (0:UInt8)).put (0:Int) (16:UInt8)),([121]:List UInt8)⟩:bt)]:List bt)=_ from s1,Option.bind_some,e2,Option.bind_some]
 have k3:decide ((ks.length:Int)=2)=true:=by rw [k2];rfl
 simp only [hk3,k3,hz,beq_self_eq_true,decide_true,Bool.and_self,cond_true,Option.bind_some,Bool.true_and,Bool.not_false]
 rfl
end Go.Proofs.YtlfjfoknbjcncaaGreat.K
namespace Go.Proofs.YtlfjfoknbjcncaaGreat.K
open Go
set_option linter.unusedVariables false
set_option linter.unusedSimpArgs false
theorem TR (x:bt):(uQ x).az≠[]∧(uQ x).az.length≤100:=by
 refine ⟨?_,TM x⟩
 unfold uQ
 simp only
 have:(if x.az=[] then (⟨x.ct,[118]⟩:bt) else x).az≠[]:=by
  by_cases h:x.az=[]
  ·rw [if_pos h];simp
  ·rw [if_neg h];exact h
 generalize (if x.az=[] then (⟨x.ct,[118]⟩:bt) else x)=y at this
 split
 ·show y.az.take 100≠[]
  intro e
  rw [List.take_eq_nil_iff] at e
  exact e.elim (by omega) this
 ·exact this
structure FT (m0 m:List bt) (t:aa):Prop where
 held:pW t m
 len:m.length≤24
 val:∀ x∈m,x.az≠[]∧x.az.length≤100
theorem Wc (l:List bt) (out:List UInt8) (m0:List bt) (r:Bool) (hm0:m0.length≤24) (b:aa)
  (hr:∀ m t,FT m0 m t→Comes (bQ l out) (.L3 (lZ m) (((lZ m).length:Int)-1) t b) r):
  ∀ (k i:Nat) (m:List bt) (t:aa),k+i=24→FT m0 m t→Comes (bQ l out) (.L1 m0 m (i:Int) t b) r:=by
 intro k
 have last:∀ (i:Nat) (m:List bt) (t:aa),FT m0 m t→((decide ((i:Int)<(out.length:Int))&&decide ((i:Int)<24))&&decide ((0:Int)<(m0.length:Int)))=false→Comes (bQ l out) (.L1 m0 m (i:Int) t b) r:=by
  intro i m t h hf
  have h2:=EE m
  have h3:=h.len
  refine Comes.next ?_ (hr m t h)
  simp only [bQ]
  rw [hf,cond_false,Wa m (by omega),Option.bind_some,ah (by unfold bw;omega)]
 induction k with
 | zero=>
  intro i m t hk h
  exact last i m t h (by rw [decide_eq_false (p:=(i:Int)<24) (by omega)];simp)
 | succ k ih=>
  intro i m t hk h
  by_cases hc:i<out.length∧0<m0.length
  ·have hlen:=h.len
   have hmod:((idx out (i:Int)).toNat:Int).tmod (m0.length:Int)=(((idx out (i:Int)).toNat%m0.length:Nat):Int):=(Int.ofNat_tmod ..).symm
   have hlt:(idx out (i:Int)).toNat%m0.length<m0.length:=Nat.mod_lt _ hc.2
   generalize he:(idx out (i:Int)).toNat%m0.length=j at hmod hlt
   generalize hx:idx m0 (j:Int)=x
   have inv:∀ t',pW t' (CN m x.ct)→FT m0 (CN m x.ct) t':=fun t' h'=>⟨h',by have:=MY m x.ct;omega,fun y hy=>h.val y (List.mem_filter.1 hy).1⟩
   have pre:∀ {t'},((gN (⟨t⟩:Tree) x.ct).bind fun (x_10:(Tree×Int))=>(bif (decide ((x_10.2)=(0:Int))) then some ((x_10.1).fp) else some t))=some t'→bQ l out (.L1 m0 m (i:Int) t b)=some (.inl (.L1 m0 (CN m x.ct) ((i+1:Nat):Int) t' b)):=by
    intro t' ht
    simp only [bQ]
    rw [decide_eq_true (p:=(i:Int)<(out.length:Int)) (by omega),decide_eq_true (p:=(i:Int)<24) (by omega),decide_eq_true (p:=(0:Int)<(m0.length:Int)) (by omega),show ((true&&true)&&true)=true from rfl,cond_true,ah (by omega),ah (by omega),hmod,ah (by omega),hx,ht,Option.bind_some,MZ m _ (by omega),Option.bind_some,ah (by unfold bw;omega)]
    rfl
   cases hv:l5 m x.ct with
   | none=>
    have h2:pW t (CN m x.ct):=⟨h.held.tn,fun q=>by
     rw [h.held.val,MW]
     by_cases e:q=x.ct
     ·rw [if_pos e,e,hv]
     ·rw [if_neg e]⟩
    refine Comes.next (pre (t':=t) ?_) (ih (i+1) _ t (by omega) (inv t h2))
    rw [TQ h.held hv];rfl
   | some w=>
    obtain ⟨t',g1,g2⟩:=MX h.held hv
    refine Comes.next (pre (t':=t') ?_) (ih (i+1) _ t' (by omega) (inv t' g2))
    rw [g1];rfl
  ·refine last i m t h ?_
   by_cases h1:i<out.length
   ·rw [decide_eq_false (p:=(0:Int)<(m0.length:Int)) (by omega),Bool.and_false]
   ·rw [decide_eq_false (p:=(i:Int)<(out.length:Int)) (by omega)];rfl
theorem Rd {s:List UInt8} (hs:PQ 64 s) (j:Nat) (hj:j<32):(16:UInt8)*idx s ((2*j:Nat):Int)+idx s ((2*j+1:Nat):Int)=(keyOf s hs).1.getD j 0:=by
 have hk:=Bn hs
 have hg:=zg (keyOf s hs).1 j (by rw [(keyOf s hs).2];exact hj)
 rw [hk] at hg
 rw [gl,gl,List.getD_eq_getElem?_getD,List.getD_eq_getElem?_getD,hg.1,hg.2]
 show (16:UInt8)*((keyOf s hs).1.getD j 0/16)+(keyOf s hs).1.getD j 0%16=_
 generalize (keyOf s hs).1.getD j 0=c
 rw [DC (by rw [pe];omega)]
 exact HE c
theorem TS (a:aE 32 UInt8) (k:aE 32 UInt8) (j:Nat) (hj:j<32) (h:a.1=k.1.take j++List.replicate (32-j) 0):(a.put (j:Int) (k.1.getD j 0)).1=k.1.take (j+1)++List.replicate (32-(j+1)) 0:=by
 have hk:=k.2
 show a.1.set j _=_
 rw [h,List.set_append_right _ _ (by rw [List.length_take];omega),List.length_take,show j-min j k.1.length=0 by omega,show 32-j=(32-(j+1))+1 by omega,List.replicate_succ,List.set_cons_zero,mm k.1 (by omega),show idx k.1 (j:Int)=k.1.getD j 0 from gl k.1 j]
 simp
theorem We (l:List bt) (out:List UInt8) (q:List In) (i:Nat) (t b:aa) (r:Bool) (hi:i<q.length) (hq:q.length≤100) (hs:PQ 64 (idx q (i:Int)).av)
  (hr:Comes (bQ l out) (.L4 q (i:Int) 32 t b (keyOf _ hs)) r):Comes (bQ l out) (.L4 q (i:Int) 0 t b (aE.rep 32 0)) r:=by
 have hlen:=hs.1
 have main:∀ (k j:Nat) (a:aE 32 UInt8),k+j=32→a.1=(keyOf _ hs).1.take j++List.replicate (32-j) 0→Comes (bQ l out) (.L4 q (i:Int) (j:Int) t b a) r:=by
  intro k
  induction k with
  | zero=>
   intro j a hj ha
   have hj:j=32:=by omega
   subst hj
   have:a=keyOf _ hs:=by
    apply Subtype.ext
    rw [ha,List.take_of_length_le (by rw [(keyOf _ hs).2];exact Nat.le_refl _)]
    simp
   rw [this];exact hr
  | succ k ih=>
   intro j a hj ha
   refine Comes.next ?_ (ih (j+1) (a.put (j:Int) ((keyOf _ hs).1.getD j 0)) (by omega) (TS a (keyOf _ hs) j (by omega) ha))
   simp only [bQ]
   rw [decide_eq_true (by omega),cond_true,show (2:Int)*(j:Int)=((2*j:Nat):Int) by omega,show ((2*j:Nat):Int)+1=((2*j+1:Nat):Int) by omega,ah (by omega),ah (by unfold bw;omega),ah (by omega),ah (by omega),ah (by unfold bw;omega),ah (by unfold bw;omega),ah (by omega),ah (by omega),ah (by unfold bw;omega),Rd hs j (by omega)]
   rfl
 exact main 32 0 _ rfl rfl
theorem Wf (l:List bt) (out:List UInt8) (q:List In) (t:aa) (r:Bool) (hw:WG 100 64 q) (hr:∀ b,TN 64 b→nD 64 b q→Comes (bQ l out) (.L3 q (-1) t b) r):
  ∀ (k:Nat) (b:aa),k≤q.length→TN 64 b→nD 64 b (q.drop k)→Comes (bQ l out) (.L3 q ((k:Int)-1) t b) r:=by
 have ZD:=hw.wf.cnt
 intro k
 induction k with
 | zero=>intro b _ h1 h2;exact hr b h1 h2
 | succ k ih=>
  intro b hk h1 h2
  have hk2:k<q.length:=by omega
  have hin:=e9 q hk2
  have hs:=hw.wf.PQ hin
  have hvl:=hw.wf.val _ hin
  obtain ⟨b',g1,g2,g3⟩:=JS (idx q (k:Int)).az h1 hs (Nat.le_refl _)
  have ZE:∀ y∈q.drop (k+1),(idx q (k:Int)).av≠y.av:=by
   have:=hw.wf.nd.sublist (List.drop_sublist k q)
   rw [lI q hk2] at this
   exact (List.pairwise_cons.1 this).1
  have hsame:nD 64 b' (q.drop k):=by
   intro s w ZF
   rw [g3 s ZF,lI q hk2,List.mem_cons]
   by_cases e:s=(idx q (k:Int)).av
   ·rw [if_pos e]
    constructor
    ·intro h
     refine .inl ?_
     rw [In.eta (idx q (k:Int)), ← e]
     exact congrArg _ (Option.some.inj h).symm
    ·rintro (h | h)
     ·rw [In.eta (idx q (k:Int))] at h
      injection h with _ h
      rw [h]
     ·exact absurd e.symm (ZE _ h)
   ·rw [if_neg e,h2 s w ZF]
    constructor
    ·exact fun h=> .inr h
    ·rintro (h | h)
     ·exact absurd (congrArg In.av h) e
     ·exact h
  have hP:jv ⟨b⟩ (keyOf _ hs) (idx q (k:Int)).az=some (⟨b'⟩,0):=by
   unfold jv
   rw [show ((idx q (k:Int)).az==([]:List UInt8))=false from beq_eq_false_iff_ne.2 (hw.ne _ hin),decide_eq_false (by omega),Bool.or_self,cond_false,Bk,Bn,Option.bind_some]
   show (pJ b (idx q (k:Int)).av (idx q (k:Int)).az).bind _=_
   rw [g1];rfl
  refine Comes.next (c':= .L4 q (k:Int) 0 t b (aE.rep 32 0)) ?_ (We l out q k t b r hk2 (by omega) hs (Comes.next ?_ (ih b' (by omega) (.inr g2) hsame)))
  ·simp only [bQ]
   rw [show ((k+1:Nat):Int)-1=(k:Int) by omega,decide_eq_true (by omega),cond_true]
  ·simp only [bQ]
   rw [decide_eq_false (by decide),cond_false,ah (by omega),hP,Option.bind_some,decide_eq_true rfl,Bool.not_true,cond_false,ah (by unfold bw;omega)]
theorem IC (l:List bt) (out:List UInt8):yu l out=some true:=by
 have X5:((l.take 24).map uQ).length≤24:=by rw [List.length_map,List.length_take];omega
 have hval:∀ x∈(l.take 24).map uQ,x.az≠[]∧x.az.length≤100:=by
  intro x hx
  obtain ⟨y,_,rfl⟩:=List.mem_map.1 hx
  exact TR y
 obtain ⟨t,t1,t2⟩:=KM ((l.take 24).map uQ) (by omega) fun x hx=>⟨(hval x hx).1,by have:=(hval x hx).2;omega⟩
 refine cS (Comes.next (c':= .L1 ((l.take 24).map uQ) ((l.take 24).map uQ) ((0:Nat):Int) t .nil) ?_ (Wc l out _ true X5 .nil (fun m t h=>?_) 24 0 _ t rfl ⟨t2,X5,hval⟩))
 ·simp only [bQ]
  rw [Q7,Option.bind_some,t1];rfl
 ·have X5:=h.len
  have hw:=FR 100 m (by omega) h.val (by omega)
  refine Wf l out (lZ m) t true hw (fun b b1 b2=>Comes.stop ?_) (lZ m).length .nil (Nat.le_refl _) (.inl rfl) (by
   rw [List.drop_length]
   intro s w _
   rw [nC]
   constructor
   ·intro h;cases h
   ·intro h;cases h)
  obtain ⟨e1,e2,e3⟩:=h.held.enc (by omega) h.val (by omega)
  have e4:=MU b1 hw b2
  have hle:=MM hw.wf
  simp only [bQ]
  rw [decide_eq_false (by decide),cond_false,e2,Option.bind_some,Rc,Option.bind_some,show (true==true)=true from rfl,cond_true,e1,Option.bind_some,beq_self_eq_true,show ((true&&true)==true)=true from rfl,cond_true,e4,Option.bind_some,beq_self_eq_true,show ((true&&true&&true)==true)=true from rfl,cond_true,e3,Option.bind_some,cond_true,KF (by omega),Option.bind_some,beq_self_eq_true]
  rfl
end Go.Proofs.YtlfjfoknbjcncaaGreat.K
namespace Go.Proofs.YtlfjfoknbjcncaaGreat.K
open Go Go.RowKit
set_option linter.unusedVariables false
theorem TU {l:List D} (h:kP (.st [(.arr 32 (.int .u8)), .str]) l):∃ x:bt,l=fm x:=by
 unfold kP Gg at h
 obtain ⟨a0,b0,rfl,h0,g0⟩:=h
 unfold Gg at g0
 obtain ⟨a1,b1,rfl,h1,g1⟩:=g0
 unfold Gg at g1
 subst g1
 obtain ⟨f0,rfl⟩:=(fun h=>Un (fun c h=>O8 h) h) h0
 obtain ⟨f1,_,rfl⟩:=Um h1
 exact ⟨⟨f0,f1⟩,by simp [fm]⟩
theorem KN {l:List D} (h:kP (.slice (.st [(.arr 32 (.int .u8)), .str])) l):∃ x:(List bt),x.length≤maxLen∧l=[.slice ((x).map bp)]:=(fun h=>Up (c:=fm) (f:=bp) rfl yd (fun l h=>TU h) h) h
theorem KO {l:List D} (h:kP (.slice (.int .u8)) l):∃ x:(List UInt8),x.length≤maxLen∧l=[.slice ((x).map U)]:=(fun h=>Uo (f:=U) rfl (fun c h=>O8 h) h) h
theorem KP (l:(List bt)) (out:(List UInt8)):bI Tryz.prog 4 [.slice ((l).map bp), .slice ((out).map U)] (.val (.bool true)):=CB l out true (IC l out)
end Go.Proofs.YtlfjfoknbjcncaaGreat.K
