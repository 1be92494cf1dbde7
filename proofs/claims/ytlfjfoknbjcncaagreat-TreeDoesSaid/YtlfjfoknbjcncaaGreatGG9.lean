/- The references of layers 02, 06 and 08: paths, what is laid of nodes, and the lists of which trees are built. -/
import Derived.Test.YtlfjfoknbjcncaaGreatGG8
import Derived.Test.YtlfjfoknbjcncaaGreatGG3
namespace Go.Proofs.YtlfjfoknbjcncaaGreat.K
open Go
set_option linter.unusedVariables false
set_option linter.unusedSimpArgs false
theorem DH {s:List UInt8} (h:s.length<56):(cm (iO s)).length≤s.length+1:=by
 rw [AG]
 split
 ·omega
 ·rw [List.length_append,A9,if_pos h];omega
theorem WD (l:Bool) {k:Nat} (h:k<256):(hd l k).length≤2:=by
 have:=tg 1 k (by omega)
 rw [A9];split<;>omega
theorem PK (l:Bool) {k:Nat} (h:k<65536):(hd l k).length≤3:=by
 have:=tg 2 k (by omega)
 rw [A9];split<;>omega
theorem MG {s:List UInt8} (h:s.length<256):(cm (iO s)).length≤s.length+2:=by
 have:=WD false h
 rw [AG]
 split
 ·omega
 ·rw [List.length_append];omega
def lU (s:List UInt8):List UInt8:=if 32≤s.length then Ff s else s
theorem MH (s:List UInt8):(lU s).length≤32:=by
 unfold lU;split
 ·rw [Bg];omega
 ·omega
theorem PL {s:List UInt8} (h:s.length≤1000000):rz s=some (lU s):=by
 unfold rz lU
 by_cases h1:32≤s.length
 ·rw [decide_eq_true (by omega),cond_true,WC s h,if_pos h1];rfl
 ·rw [decide_eq_false (by omega),cond_false,if_neg h1]
def H6 (k:List UInt8):List UInt8:=if k=[]∨k.length=32 then cm (iO k) else k
theorem Bh {k:List UInt8} (h:k.length≤32):(H6 k).length≤33:=by
 unfold H6;split
 ·have:=DH (s:=k) (by omega);omega
 ·omega
theorem JR {k:List UInt8} (h:k.length≤32):kB k=some (H6 k):=by
 unfold kB H6
 by_cases h1:k=[]
 ·subst h1;rw [if_pos (.inl rfl),sj (by simp)];rfl
 ·by_cases h2:k.length=32
  ·rw [if_pos (.inr h2),decide_eq_true (by omega),Bool.or_true,cond_true,sj (by omega)];rfl
  ·rw [if_neg (by simp [h1,h2]),decide_eq_false (by omega),Bool.or_false,show (k==[])=false by simpa using h1,cond_false]
theorem DI {α β:Type} (f:α→List β) (b:Nat):∀ l:List α,(∀ x∈l,(f x).length≤b)→(l.flatMap f).length≤l.length*b
 | [],_=>by simp
 | x::r,h=>by
  have h1:=DI f b r fun y hy=>h y (List.mem_cons_of_mem _ hy)
  have h2:=h x (List.mem_cons_self ..)
  rw [List.flatMap_cons,List.length_append,List.length_cons,Nat.succ_mul];omega
def th (n:Node):List UInt8:=
 if n.aW=1 then cm (iO (eu n.az true))++cm (iO n.ay)
 else if n.aW=2 then cm (iO (eu n.az false))++H6 (idx n.aT.1 0)
 else n.aT.1.flatMap H6++[128]
def uL (n:Node):List UInt8:=hd true (th n).length++th n
theorem Bi {p:List UInt8} (h:CE p=true) (b:Bool):(eu p b).length≤33:=by
 have:=zi p b;have:=(uZ h).2;omega
theorem JS (n:Node):n.aT.1.length=16:=n.aT.2
theorem JT {n:Node} (hp:CE n.az=true) (hv:n.ay.length≤200) (hk:∀ k∈n.aT.1,k.length≤32):
  (n.aW=1→(th n).length≤36+n.ay.length)∧(n.aW=2→(th n).length≤67)∧(th n).length≤529:=by
 have AF:=JS n
 unfold th
 by_cases h1:n.aW=1
 ·rw [if_pos h1,List.length_append]
  have:=Bi hp true
  have:=DH (s:=eu n.az true) (by omega)
  have:=MG (s:=n.ay) (by omega)
  omega
 ·by_cases h2:n.aW=2
  ·rw [if_neg h1,if_pos h2,List.length_append]
   have:=Bi hp false
   have:=DH (s:=eu n.az false) (by omega)
   have:=Bh (hk _ (fc n.aT.1 (i:=0) (by omega)))
   rw [show ((0:Nat):Int)=0 from rfl] at this
   omega
  ·rw [if_neg h1,if_neg h2,List.length_append]
   have:=DI H6 33 n.aT.1 fun k hk'=>Bh (hk k hk')
   rw [AF] at this
   simp only [List.length_singleton]
   omega
theorem Uc {n:Node} (hp:CE n.az=true) (hv:n.ay.length≤200) (hk:∀ k∈n.aT.1,k.length≤32):
  (n.aW=1→(uL n).length≤39+n.ay.length)∧(n.aW=2→(uL n).length≤70)∧(uL n).length≤532∧1≤(uL n).length:=by
 obtain ⟨h1,h2,h3⟩:=JT hp hv hk
 have h4:=PK true (k:=(th n).length) (by omega)
 have h5:1≤(hd true (th n).length).length:=List.length_pos_iff.2 (HI _ _)
 unfold uL
 rw [List.length_append]
 exact ⟨fun h=>by have:=h1 h;omega,fun h=>by have:=h2 h;omega,by omega,by omega⟩
theorem Rl (n:Node) (hkd:n.aW=1∨n.aW=2∨n.aW=3) (hp:CE n.az=true) (hv:n.ay.length≤200) (hk:∀ k∈n.aT.1,k.length≤32):
  pG n=some (uL n):=by
 have AF:=JS n
 obtain ⟨_,_,hb⟩:=JT hp hv hk
 have hJ:Comes (cL n) (.J3 (th n)) (uL n):=by
  refine Comes.stop ?_
  have:=PK true (k:=(th n).length) (by omega)
  simp only [cL]
  rw [A8 _ true (by omega),Option.bind_some,af (by omega)]
  rfl
 refine cN ?_
 rcases hkd with h | h | h
 ·refine Comes.next ?_ hJ
  have e1:=Bi hp true
  have e2:=DH (s:=eu n.az true) (by omega)
  have e3:=MG (s:=n.ay) (by omega)
  simp only [cL]
  rw [decide_eq_true h,cond_true,Bb hp,Option.bind_some,sj (by omega),Option.bind_some,sj (by omega),Option.bind_some,af (by omega),Option.bind_some,decide_eq_false (by omega),cond_false,Option.bind_some,decide_eq_false (by omega),cond_false]
  unfold th
  rw [if_pos h]
 ·refine Comes.next ?_ hJ
  have e1:=Bi hp false
  have e2:=DH (s:=eu n.az false) (by omega)
  have e3:=hk _ (fc n.aT.1 (i:=0) (by omega))
  rw [show ((0:Nat):Int)=0 from rfl] at e3
  have e4:=Bh e3
  simp only [cL]
  rw [decide_eq_false (by omega),cond_false,Option.bind_some,decide_eq_true h,cond_true,Bb hp,Option.bind_some,sj (by omega),Option.bind_some,JR e3,Option.bind_some,af (by omega),Option.bind_some,decide_eq_false (by omega),cond_false]
  unfold th
  rw [if_neg (by omega),if_pos h]
 ·have hL:Comes (cL n) (.L4 ((n.aT.1.take 0).flatMap H6) ((0:Nat):Int)) (uL n):=by
   refine Comes.upto (fun i=>ze.L4 ((n.aT.1.take i).flatMap H6) (i:Int)) 16 (fun i hi=>?_) (Comes.next ?_ hJ)
   ·have e3:=hk _ (fc n.aT.1 (i:=i) (by omega))
    have e4:=Bh e3
    have e5:=DI H6 33 (n.aT.1.take i) fun k hk'=>Bh (hk k (List.mem_of_mem_take hk'))
    rw [List.length_take] at e5
    have e6:min i n.aT.1.length*33≤16*33:=Nat.mul_le_mul_right _ (by omega)
    simp only [cL]
    rw [decide_eq_true (by omega),cond_true,af (by omega),JR e3,Option.bind_some,af (by omega),af (by unfold bA;omega),nq _ (by omega),List.flatMap_append,List.flatMap_singleton]
    rfl
   ·have e5:=DI H6 33 (n.aT.1.take 16) fun k hk'=>Bh (hk k (List.mem_of_mem_take hk'))
    rw [List.length_take] at e5
    simp only [cL]
    rw [decide_eq_false (by omega),cond_false,af (by simp only [List.length_singleton];omega),List.take_of_length_le (by omega)]
    unfold th
    rw [if_neg (by omega),if_neg (by omega)]
  refine Comes.next ?_ hL
  simp only [cL]
  rw [decide_eq_false (by omega),cond_false,Option.bind_some,decide_eq_false (by omega),cond_false,Option.bind_some,decide_eq_true h,cond_true]
  rfl
theorem KQ (a b:List UInt8) (ha:a.length≤1000000):uo a b=some ((common a b:Nat):Int):=by
 have:∀ k i:Nat,k+i=a.length→Comes (fQ a b) (.L1 (i:Int)) ((i+common (a.drop i) (b.drop i):Nat):Int):=by
  intro k
  induction k with
  | zero=>
   intro i hi
   refine Comes.stop ?_
   simp only [fQ]
   rw [decide_eq_false (by omega),cond_false,xl (by omega)]
   rw [show i+0=a.length by omega]
  | succ k ih=>
   intro i hi
   by_cases hb:i<b.length
   ·by_cases he:(a.getD i 0).toNat=(b.getD i 0).toNat
    ·have:=ih (i+1) (by omega)
     refine Comes.next (c':= .L1 ((i+1:Nat):Int)) ?_ (by rw [zh (by omega) hb,if_pos he,show i+(common (a.drop (i+1)) (b.drop (i+1))+1)=i+1+common (a.drop (i+1)) (b.drop (i+1)) by omega];exact this)
     simp only [fQ]
     rw [decide_eq_true (by omega),cond_true,af (by omega),af (by omega),decide_eq_false (by omega),Bool.false_or]
     rw [show idx a (i:Int)=a.getD i 0 from gZ a i,show idx b (i:Int)=b.getD i 0 from gZ b i,he,decide_eq_true rfl,Bool.not_true,cond_false,af (by unfold bA;omega)]
     rfl
    ·refine Comes.stop ?_
     rw [zh (by omega) hb,if_neg he]
     simp only [fQ]
     rw [decide_eq_true (by omega),cond_true,af (by omega),af (by omega)]
     rw [show idx a (i:Int)=a.getD i 0 from gZ a i,show idx b (i:Int)=b.getD i 0 from gZ b i,show decide (((a.getD i 0).toNat:Int)=((b.getD i 0).toNat:Int))=false from decide_eq_false (by omega),Bool.not_false,Bool.or_true,cond_true]
     rfl
   ·refine Comes.stop ?_
    rw [xl (by omega)]
    simp only [fQ]
    rw [decide_eq_true (by omega),cond_true,decide_eq_true (p:=(b.length:Int)≤(i:Int)) (by omega),af (by intro h;cases h),af (by intro h;cases h),Bool.true_or,cond_true]
    rfl
 have:=this a.length 0 rfl
 rw [Nat.zero_add,List.drop_zero,List.drop_zero] at this
 exact cN (Comes.next (by simp only [fQ];rfl) this)
theorem AH:∀ (m:Nat) (a b:List UInt8),m≤common a b↔m≤a.length∧m≤b.length∧a.take m=b.take m
 | 0,a,b=>by simp
 | m+1,[],b=>by simp [common]
 | m+1,x::a,[]=>by simp [common]
 | m+1,x::a,y::b=>by
  have ih:=AH m a b
  rw [common]
  by_cases h:x=y
  ·rw [if_pos h]
   simp only [List.length_cons,List.take_succ_cons,h,List.cons.injEq,true_and,Nat.add_le_add_iff_right]
   exact ih
  ·rw [if_neg h]
   simp [h]
theorem WE (a b:Nat):rZ (a:Int) (b:Int)=some ((min a b:Nat):Int):=by
 unfold rZ
 by_cases h:a<b
 ·rw [decide_eq_true (by omega),cond_true,Nat.min_eq_left (by omega)]
 ·rw [decide_eq_false (by omega),cond_false,Nat.min_eq_right (by omega)]
noncomputable def p0 (l:List In):List UInt8:=(idx l (0:Int)).az
noncomputable def BU (l:List In):Nat→Nat
 | 0=>(p0 l).length
 | i+1=>min (BU l i) (common (p0 l) (idx l ((i+1:Nat):Int)).az)
noncomputable def lE (l:List In):Nat:=BU l (l.length-1)
theorem MI (l:List In):∀ i:Nat,BU l i≤(p0 l).length∧∀ j:Nat,1≤j→j≤i→BU l i≤common (p0 l) (idx l (j:Int)).az
 | 0=>⟨Nat.le_refl _,fun j h1 h2=>by omega⟩
 | i+1=>by
  obtain ⟨h1,h2⟩:=MI l i
  refine ⟨by rw [BU];omega,fun j YR hj2=>?_⟩
  rw [BU]
  by_cases h:j=i+1
  ·subst h;omega
  ·have:=h2 j YR (by omega);omega
theorem JU (l:List In) (m:Nat) (h0:m≤(p0 l).length):∀ i:Nat,(∀ j:Nat,1≤j→j≤i→m≤common (p0 l) (idx l (j:Int)).az)→m≤BU l i
 | 0,_=>h0
 | i+1,h=>by
  have:=JU l m h0 i fun j h1 h2=>h j h1 (by omega)
  have:=h (i+1) (by omega) (by omega)
  rw [BU];omega
theorem MJ {α:Type} [Inhabited α] {l:List α} {x:α} (h:x∈l):∃ i:Nat,i<l.length∧idx l (i:Int)=x:=by
 obtain ⟨i,hi,rfl⟩:=List.mem_iff_getElem.1 h
 exact ⟨i,hi,lT l hi⟩
theorem qQ {l:List In} {x:In} (hx:x∈l):lE l≤x.az.length∧x.az.take (lE l)=(p0 l).take (lE l):=by
 obtain ⟨i,hi,rfl⟩:=MJ hx
 obtain ⟨h1,h2⟩:=MI l (l.length-1)
 cases i with
 | zero=>exact ⟨h1,rfl⟩
 | succ i=>
  have:=(AH _ _ _).1 (h2 (i+1) (by omega) (by omega))
  exact ⟨this.2.1,this.2.2.symm⟩
theorem JV {l:List In} {m:Nat} (hl:l≠[]) (h:∀ x∈l,m≤x.az.length∧x.az.take m=(p0 l).take m):m≤lE l:=by
 have hp:0<l.length:=List.length_pos_iff.2 hl
 have h0:idx l (0:Int)∈l:=fc l (i:=0) hp
 refine JU l m (h _ h0).1 _ fun j h1 h2=>(AH _ _ _).2 ?_
 have hj:idx l (j:Int)∈l:=fc l (by omega)
 exact ⟨(h _ h0).1,(h _ hj).1,(h _ hj).2.symm⟩
theorem Ud (l:List In) (hl:l≠[]) (hp:∀ x∈l,x.az.length≤1000) (hn:l.length≤1000):uv l=some ((lE l:Nat):Int):=by
 have hpos:0<l.length:=List.length_pos_iff.2 hl
 refine cN (Comes.next (c':= .L1 ((BU l 0:Nat):Int) (((0:Nat)+1:Int))) ?_ ?_)
 ·simp only [jr]
  rw [af (by omega)]
  rfl
 ·refine Comes.upto (fun i=>uu.L1 ((BU l i:Nat):Int) ((i:Int)+1)) (l.length-1) (fun i hi=>?_) (Comes.stop ?_)
  ·have:=hp _ (fc l (i:=0) hpos)
   simp only [jr]
   rw [decide_eq_true (by omega),cond_true,af (by omega),af (by omega),show ((i:Int)+1)=((i+1:Nat):Int) by omega,KQ _ _ (by exact Nat.le_trans this (by omega)),Option.bind_some,WE,Option.bind_some,af (by unfold bA;omega)]
   rfl
  ·simp only [jr]
   rw [decide_eq_false (by omega),cond_false]
   rfl
def rest (l:List In) (n:Nat):List In:=l.map fun x=>⟨x.az.drop n,x.ay⟩
def qR (l:List In) (c:Nat):List In:=l.filter fun x=>decide ((x.az.getD 0 0).toNat=c)
theorem JW (l:List In) (n:Nat):(rest l n).length=l.length:=by simp [rest]
theorem H7 (l:List In) (c:Nat):(qR l c).length≤l.length:=List.length_filter_le _ _
theorem MK (l:List In) (n:Nat) (h:∀ x∈l,n≤x.az.length) (hn:l.length≤1000):tC l (n:Int)=some (rest l n):=by
 refine cN (Comes.next (c':= .L1 (rest (l.take 0) n) ((0:Nat):Int)) (by simp only [kj];rfl) ?_)
 refine Comes.upto (fun i=>xR.L1 (rest (l.take i) n) (i:Int)) l.length (fun i hi=>?_) (Comes.stop ?_)
 ·have e:=JW (l.take i) n
  rw [List.length_take] at e
  have h1:=h _ (fc l hi)
  simp only [kj]
  rw [decide_eq_true (by omega),cond_true,af (by omega),af (by omega),af (by omega),af (by rw [e];simp only [List.length_singleton];omega),af (by unfold bA;omega),nq l hi,nu]
  unfold rest
  rw [List.map_append]
  rfl
 ·simp only [kj]
  rw [decide_eq_false (by omega),cond_false,List.take_length]
theorem CK {α:Type} [Inhabited α] (p:α→Bool) (l:List α) {i:Nat} (hi:i<l.length):(l.take (i+1)).filter p=(l.take i).filter p++(if p (idx l (i:Int))=true then [idx l (i:Int)] else []):=by
 rw [nq l hi,List.filter_append]
 congr 1
 cases h:p (idx l (i:Int))<;>simp [h]
theorem Rm (l:List In) (c:Nat) (h:∀ x∈l,0<x.az.length) (hn:l.length≤1000):wk l (c:Int)=some (qR l c):=by
 refine cN (Comes.next (c':= .L1 (qR (l.take 0) c) ((0:Nat):Int)) (by simp only [jL];rfl) ?_)
 refine Comes.upto (fun i=>r7.L1 (qR (l.take i) c) (i:Int)) l.length (fun i hi=>?_) (Comes.stop ?_)
 ·have e:=H7 (l.take i) c
  rw [List.length_take] at e
  have h1:=h _ (fc l hi)
  have e2:=CK (fun x:In=>decide ((x.az.getD 0 0).toNat=c)) l hi
  have e3:(idx ((idx l (i:Int)).az) (0:Int)).toNat=((idx l (i:Int)).az.getD 0 0).toNat:=rfl
  simp only [jL]
  rw [decide_eq_true (by omega),cond_true,af (by omega),af (by omega),e3]
  show _=some (Sum.inl (r7.L1 ((l.take (i+1)).filter _) _))
  rw [e2]
  by_cases hc:((idx l (i:Int)).az.getD 0 0).toNat=c
  ·rw [decide_eq_true (by omega),cond_true,af (by omega),af (by simp only [List.length_singleton];omega),Option.bind_some,af (by unfold bA;omega),if_pos (by simpa using hc)]
   rfl
  ·rw [decide_eq_false (by omega),cond_false,Option.bind_some,af (by unfold bA;omega),if_neg (by simpa using hc),List.append_nil]
   rfl
 ·simp only [jL]
  rw [decide_eq_false (by omega),cond_false,List.take_length]
end Go.Proofs.YtlfjfoknbjcncaaGreat.K
namespace Go.Proofs.YtlfjfoknbjcncaaGreat.K
open Go
set_option linter.unusedVariables false
set_option linter.unusedSimpArgs false
structure WF (v d:Nat) (l:List In):Prop where
 len:∀ x∈l,x.az.length=d
 KR:∀ x∈l,right x.az=true
 val:∀ x∈l,x.ay.length≤v
 nd:l.Pairwise fun x y=>x.az≠y.az
 cnt:l.length≤64
 dep:d≤64
 top:v≤200
theorem o9 {p:List UInt8}:right p=true↔∀ b∈p,b.toNat<16:=by
 simp only [right,Bool.not_eq_true',List.any_eq_false,decide_eq_true_eq]
 constructor
 ·intro h b hb;have:=h b hb;omega
 ·intro h b hb;have:=h b hb;omega
theorem ML {p:List UInt8} (h:right p=true) (n:Nat):right (p.take n)=true:=o9.2 fun b hb=>o9.1 h b (List.mem_of_mem_take hb)
theorem WF.rest {v d:Nat} {l:List In} (h:WF v d l) (n:Nat) (hc:∀ x∈l,∀ y∈l,x.az.take n=y.az.take n):WF v (d-n) (rest l n) where
 len x hx:=by
  obtain ⟨y,hy,rfl⟩:=List.mem_map.1 hx
  have:=h.len y hy
  simp only [List.length_drop];omega
 KR x hx:=by
  obtain ⟨y,hy,rfl⟩:=List.mem_map.1 hx
  exact Mz (h.KR y hy) n
 val x hx:=by
  obtain ⟨y,hy,rfl⟩:=List.mem_map.1 hx
  exact h.val y hy
 nd:=by
  unfold K.rest
  rw [List.pairwise_map]
  refine List.Pairwise.imp_of_mem ?_ h.nd
  intro x y hx hy hne he
  refine hne ?_
  rw [← List.take_append_drop n x.az,hc x hx y hy]
  rw [show x.az.drop n=y.az.drop n from he,List.take_append_drop]
 cnt:=by rw [JW];exact h.cnt
 dep:=by have:=h.dep;omega
 top:=h.top
theorem WF.qR {v d:Nat} {l:List In} (h:WF v d l) (c:Nat):WF v d (qR l c) where
 len x hx:=h.len x ((List.mem_filter.1 hx).1)
 KR x hx:=h.KR x ((List.mem_filter.1 hx).1)
 val x hx:=h.val x ((List.mem_filter.1 hx).1)
 nd:=h.nd.sublist List.filter_sublist
 cnt:=by have:=H7 l c;have:=h.cnt;omega
 dep:=h.dep
 top:=h.top
theorem Ue {p q:List UInt8} (hp:0<p.length) (hq:0<q.length) (h:(p.getD 0 0).toNat=(q.getD 0 0).toNat):p.take 1=q.take 1:=by
 cases p with
 | nil=>simp at hp
 | cons a p=>cases q with
  | nil=>simp at hq
  | cons b q=>
   have:a=b:=UInt8.toNat_inj.1 h
   simp [this]
theorem WF.H8 {v d:Nat} {l:List In} (h:WF v d l) (hd:0<d) (c:Nat):WF v (d-1) (K.rest (K.qR l c) 1):=by
 refine (h.qR c).rest 1 fun x hx y hy=>Ue (by rw [(h.qR c).len x hx];exact hd) (by rw [(h.qR c).len y hy];exact hd) ?_
 have h1:=(List.mem_filter.1 hx).2
 have h2:=(List.mem_filter.1 hy).2
 simp only [decide_eq_true_eq] at h1 h2
 rw [h1,h2]
theorem WF.ext {v d:Nat} {l:List In} (h:WF v d l):WF v (d-lE l) (K.rest l (lE l)):=
 h.rest _ fun x hx y hy=>by rw [(qQ hx).2,(qQ hy).2]
theorem WF.FP {v d:Nat} {l:List In} (h:WF v d l) (h2:2≤l.length):lE l<d:=by
 cases hl:l with
 | nil=>rw [hl] at h2;simp at h2
 | cons x r=>cases hr:r with
  | nil=>rw [hl,hr] at h2;simp at h2
  | cons y q=>
   have hx:x∈l:=by rw [hl];exact List.mem_cons_self ..
   have hy:y∈l:=by rw [hl,hr];simp
   have e1:=qQ hx
   have e2:=qQ hy
   have n1:=h.len x hx
   have n2:=h.len y hy
   rw [← hr, ← hl]
   refine Nat.lt_of_not_le fun hd=>?_
   have hne:x.az≠y.az:=by
    have:=h.nd
    rw [hl,hr] at this
    exact (List.pairwise_cons.1 this).1 y (List.mem_cons_self ..)
   refine hne ?_
   have:=e1.2.trans e2.2.symm
   rwa [List.take_of_length_le (by omega),List.take_of_length_le (by omega)] at this
noncomputable def iz (l:List In):List UInt8:=(pJ l).getD []
noncomputable def wC (l:List In):aE 16 (List UInt8):=⟨(List.range 16).map fun c=>lU (iz (rest (qR l c) 1)),by simp⟩
noncomputable def eU (l:List In):Node:=
 if l.length=1 then ⟨1,p0 l,(idx l (0:Int)).ay,aE.rep 16 []⟩
 else if 0<lE l then ⟨2,(p0 l).take (lE l),[],(aE.rep 16 []).put 0 (lU (iz (rest l (lE l))))⟩
 else ⟨3,[],[],wC l⟩
noncomputable def su (l:List In):List UInt8:=if l=[] then [] else uL (eU l)
theorem PM (k:List UInt8) (h:k∈(aE.rep 16 ([]:List UInt8)).1):k.length≤32:=by
 rw [(List.mem_replicate.1 h).2];simp
theorem vc {v d:Nat} {l:List In} (h:WF v d l) (hl:l≠[]):((eU l).aW=1∨(eU l).aW=2∨(eU l).aW=3)∧CE (eU l).az=true∧(eU l).ay.length≤v∧∀ k∈(eU l).aT.1,k.length≤32:=by
 have h0:idx l (0:Int)∈l:=fc l (i:=0) (List.length_pos_iff.2 hl)
 have hr:=h.KR _ h0
 have hd:=h.len _ h0
 have:=h.dep
 unfold eU
 split
 ·exact ⟨.inl rfl,Mw hr (by show (p0 l).length≤64;unfold p0;omega),h.val _ h0,PM⟩
 ·split
  ·refine ⟨.inr (.inl rfl),Mw (ML hr _) ?_,Nat.zero_le _,fun k hk=>?_⟩
   ·show ((p0 l).take (lE l)).length≤64
    rw [List.length_take];unfold p0;omega
   ·rcases List.mem_or_eq_of_mem_set hk with h1 | h1
    ·exact PM k h1
    ·rw [h1];exact MH _
  ·refine ⟨.inr (.inr rfl),rfl,Nat.zero_le _,fun k hk=>?_⟩
   have hk:k∈(List.range 16).map fun c=>lU (iz (rest (qR l c) 1)):=hk
   obtain ⟨c,_,rfl⟩:=List.mem_map.1 hk
   exact MH _
theorem W0 {v d:Nat} {l:List In} (h:WF v d l) (hl:l≠[]):pG (eU l)=some (uL (eU l)):=by
 obtain ⟨h1,h2,h3,h4⟩:=vc h hl
 have:=h.top
 exact Rl _ h1 h2 (by omega) h4
theorem W1 {v d:Nat} {l:List In} (h:WF v d l) (hl:l≠[]):1≤(uL (eU l)).length∧(uL (eU l)).length≤532+v∧(l.length=1→(uL (eU l)).length≤39+v)∧(l.length≠1→0<lE l→(uL (eU l)).length≤70)∧(l.length≠1→(uL (eU l)).length≤532):=by
 obtain ⟨h1,h2,h3,h4⟩:=vc h hl
 have ht:=h.top
 obtain ⟨e1,e2,e3,e4⟩:=Uc h2 (by omega) h4
 refine ⟨e4,by omega,fun h=>?_,fun h h'=>?_,fun h=>e3⟩
 ·have:(eU l).aW=1:=by unfold eU;rw [if_pos h]
  have:=e1 this;omega
 ·have:(eU l).aW=2:=by unfold eU;rw [if_neg h,if_pos h']
  exact e2 this
noncomputable def wD (f:Nat→List UInt8) (c:Nat):aE 16 (List UInt8):=⟨(List.range 16).map fun i=>if i<c then f i else [],by simp⟩
theorem FQ (f:Nat→List UInt8) (c:Nat):(wD f c).1=(List.range 16).map fun i=>if i<c then f i else []:=rfl
theorem PN (f:Nat→List UInt8):wD f 0=aE.rep 16 []:=by
 apply Subtype.ext
 rw [FQ]
 simp [aE.rep,List.map_const']
theorem JX (f:Nat→List UInt8) {c:Nat} (h:c<16):(wD f c).put (c:Int) (f c)=wD f (c+1):=by
 apply Subtype.ext
 show (wD f c).1.set (c:Int).toNat _=_
 rw [FQ,FQ]
 apply List.ext_getElem
 ·simp
 ·intro i h1 h2
  rw [List.getElem_set,List.getElem_map,List.getElem_map,List.getElem_range]
  by_cases hc:i=c
  ·subst hc;simp
  ·rw [if_neg (by omega)]
   by_cases h3:i<c
   ·rw [if_pos h3,if_pos (by omega)]
   ·rw [if_neg h3,if_neg (by omega)]
theorem MM (f:Nat→List UInt8):(wD f 16).1=(List.range 16).map f:=by
 rw [FQ]
 apply List.map_congr_left
 intro i hi
 rw [if_pos (by simpa using hi)]
def Kn (self:List In→Option (List UInt8)) (v d:Nat):Prop:=∀ d' l',d'<d→WF v d' l'→self l'=some (iz l')∧(iz l').length≤800
theorem O9 (self:List In→Option (List UInt8)) {v d:Nat} {l:List In} (h:WF v d l) (hl:l≠[]) (hs:Kn self v d):r8 self l=some (eU l,true):=by
 have hpos:0<l.length:=List.length_pos_iff.2 hl
 have abX:=h.cnt
 have W2:=h.dep
 refine cN ?_
 by_cases h1:l.length=1
 ·refine Comes.stop ?_
  simp only [gj]
  rw [decide_eq_false (by omega),cond_false,decide_eq_true (by omega),cond_true,af (by omega),af (by omega)]
  unfold eU
  rw [if_pos h1]
  rfl
 ·have hlt:=h.FP (by omega)
  have hC:=Ud l hl (fun x hx=>by rw [h.len x hx];omega) (by omega)
  by_cases h2:0<lE l
  ·refine Comes.stop ?_
   obtain ⟨Yn,hk2⟩:=hs _ _ (show d-lE l<d by omega) h.ext
   have hp:=h.len _ (fc l (i:=0) hpos)
   rw [show ((0:Nat):Int)=0 from rfl] at hp
   simp only [gj]
   rw [decide_eq_false (by omega),cond_false,decide_eq_false (by omega),cond_false,hC,Option.bind_some,decide_eq_true (by omega),cond_true,af (by omega),af (by rw [hp];omega)]
   rw [MK l _ (fun x hx=>(qQ hx).1) (by omega),Option.bind_some,Yn,Option.bind_some,PL (by omega),Option.bind_some,Dv]
   unfold eU
   rw [if_neg h1,if_pos h2]
   rfl
  ·have hL:Comes (gj self l) (.L1 ((0:Nat):Int) (wD (fun c=>lU (iz (rest (qR l c) 1))) 0)) (eU l,true):=by
    refine Comes.upto (fun i=>xS.L1 (i:Int) (wD (fun c=>lU (iz (rest (qR l c) 1))) i)) 16 (fun i hi=>?_) (Comes.stop ?_)
    ·obtain ⟨Yn,hk2⟩:=hs _ _ (show d-1<d by omega) (h.H8 (by omega) i)
     have hb:=H7 l i
     simp only [gj]
     rw [decide_eq_true (by omega),cond_true,Rm l i (fun x hx=>by rw [h.len x hx];omega) (by omega),Option.bind_some]
     rw [show (1:Int)=((1:Nat):Int) from rfl,MK (qR l i) 1 (fun x hx=>by rw [(h.qR i).len x hx];omega) (by omega),Option.bind_some,Yn,Option.bind_some,PL (by omega),Option.bind_some,af (by omega),af (by unfold bA;omega)]
     rw [JX (fun c=>lU (iz (rest (qR l c) 1))) hi]
     rfl
    ·simp only [gj]
     rw [decide_eq_false (by omega),cond_false]
     unfold eU
     rw [if_neg h1,if_neg h2]
     have:wD (fun c=>lU (iz (rest (qR l c) 1))) 16=wC l:=Subtype.ext (MM _)
     rw [this]
   rw [PN] at hL
   refine Comes.next ?_ hL
   simp only [gj]
   rw [decide_eq_false (by omega),cond_false,decide_eq_false (by omega),cond_false,hC,Option.bind_some,decide_eq_false (by omega),cond_false]
   rfl
theorem Rn (self:List In→Option (List UInt8)):∃ x,r8 self []=some (x,false):=⟨_,cN (Comes.stop (by simp only [gj];rfl))⟩
theorem MN (v:Nat):∀ n d l,d<n→WF v d l→(∀ m,d<m→kP m l=some (iz l))∧iz l=su l∧(iz l).length≤800
 | 0,d,l,h,_=>by omega
 | n+1,d,l,hd,h=>by
  have ih:=MN v n
  have key:∀ m,d<m→kP m l=some (su l):=by
   intro m hm
   obtain ⟨m,rfl⟩:∃ k,m=k+1:=⟨m-1,by omega⟩
   show qe (kP m) l=_
   unfold qe su
   by_cases hl:l=[]
   ·subst hl
    obtain ⟨x,hx⟩:=Rn (kP m)
    rw [hx,if_pos rfl];rfl
   ·rw [O9 _ h hl fun d' l' hd' hw=>⟨(ih d' l' (by omega) hw).1 m (by omega),(ih d' l' (by omega) hw).2.2⟩,if_neg hl,Option.bind_some]
    show (pG (eU l)).bind _=_
    rw [W0 h hl];rfl
  have e:iz l=su l:=by
   unfold iz
   rw [show pJ l=some (su l) from m8 (d+1) fun m hm=>key m (by omega)]
   rfl
  refine ⟨fun m hm=>by rw [e];exact key m hm,e,?_⟩
  rw [e]
  unfold su
  split
  ·simp
  ·rename_i hl
   have:=(W1 h hl).2.1
   have:=h.top
   omega
theorem PO {v d:Nat} {l:List In} (h:WF v d l):pJ l=some (su l):=by
 obtain ⟨h1,h2,_⟩:=MN v (d+1) d l (by omega) h
 rw [← h2];exact m8 (d+1) fun m hm=>h1 m (by omega)
end Go.Proofs.YtlfjfoknbjcncaaGreat.K
namespace Go.Proofs.YtlfjfoknbjcncaaGreat.K
open Go
set_option linter.unusedVariables false
set_option linter.unusedSimpArgs false
theorem Ey (p:List UInt8) (h:p.length≤1000000):cV p=some p:=by
 unfold cV
 rw [af (by simp only [List.length_nil];omega)];rfl
theorem pe (a b:List UInt8) (ha:a.length≤1000000):tv a b=some ((common a b:Nat):Int):=by
 have:∀ k i:Nat,k+i=a.length→Comes (gM a b) (.L1 (i:Int)) ((i+common (a.drop i) (b.drop i):Nat):Int):=by
  intro k
  have hm:∀ i:Nat,decide ((i:Int)<e8 (a.length:Int) (b.length:Int))=decide (i<a.length∧i<b.length):=by
   intro i
   unfold e8
   rw [decide_eq_decide]
   split<;>omega
  induction k with
  | zero=>
   intro i hi
   refine Comes.stop ?_
   simp only [gM,hm]
   rw [decide_eq_false (p:=i<a.length∧i<b.length) (by omega),af (by intro h;cases h),af (by intro h;cases h),Bool.false_and,cond_false,xl (by omega)]
   rfl
  | succ k ih=>
   intro i hi
   by_cases hb:i<b.length
   ·by_cases he:(a.getD i 0).toNat=(b.getD i 0).toNat
    ·have:=ih (i+1) (by omega)
     refine Comes.next (c':= .L1 ((i+1:Nat):Int)) ?_ (by rw [zh (by omega) hb,if_pos he,show i+(common (a.drop (i+1)) (b.drop (i+1))+1)=i+1+common (a.drop (i+1)) (b.drop (i+1)) by omega];exact this)
     simp only [gM,hm]
     rw [af (by intro _;omega),af (by intro _;omega),decide_eq_true (p:=i<a.length∧i<b.length) (by omega),Bool.true_and]
     rw [show idx a (i:Int)=a.getD i 0 from gZ a i,show idx b (i:Int)=b.getD i 0 from gZ b i,he,decide_eq_true rfl,cond_true,af (by unfold bA;omega)]
     rfl
    ·refine Comes.stop ?_
     rw [zh (by omega) hb,if_neg he]
     simp only [gM,hm]
     rw [af (by intro _;omega),af (by intro _;omega)]
     rw [show idx a (i:Int)=a.getD i 0 from gZ a i,show idx b (i:Int)=b.getD i 0 from gZ b i,show decide (((a.getD i 0).toNat:Int)=((b.getD i 0).toNat:Int))=false from decide_eq_false (by omega),Bool.and_false,cond_false]
     rfl
   ·refine Comes.stop ?_
    rw [xl (by omega)]
    simp only [gM,hm]
    rw [decide_eq_false (p:=i<a.length∧i<b.length) (by omega),af (by intro h;cases h),af (by intro h;cases h),Bool.false_and,cond_false]
    rfl
 have:=this a.length 0 rfl
 rw [Nat.zero_add,List.drop_zero,List.drop_zero] at this
 exact cN (Comes.next (by simp only [gM];rfl) this)
theorem Ez (k:aE 32 UInt8):q7 k=some (dz k.1):=by
 have hk:k.1.length=32:=k.2
 refine cN (Comes.next (c':= .L1 (dz (k.1.take 0)) ((0:Nat):Int)) (by simp only [lK];rfl) ?_)
 refine Comes.upto (fun i=>Ag.L1 (dz (k.1.take i)) (i:Int)) 32 (fun i hi=>?_) (Comes.stop ?_)
 ·simp only [lK]
  have hl:(dz (k.1.take i)).length≤64:=by rw [qL,List.length_take];omega
  rw [decide_eq_true (by omega),cond_true,af (by omega),af (by simp only [List.length_cons,List.length_nil];omega),af (by unfold bA;omega)]
  rw [Fa (by omega),show idx k.1 (i:Int)=k.1.getD i 0 from gZ k.1 i,TK,PC]
  rfl
 ·simp only [lK]
  rw [decide_eq_false (by omega),cond_false,List.take_of_length_le (by omega)]
theorem Ro (s:List UInt8) (hs:s.length≤1000000):vT s=some (lU s):=by
 unfold vT lU
 by_cases h:s.length<32
 ·rw [decide_eq_true (by omega),cond_true,if_neg (by omega)]
 ·obtain ⟨r,e1,e2⟩:=Wy s hs
  rw [decide_eq_false (by omega),cond_false,if_pos (by omega),e2, ← e1];rfl
theorem WH (a b:List UInt8) (ha:a.length≤1000000):mg a b=some (a==b):=by
 by_cases hl:a.length=b.length
 ·refine cN (Comes.next (c':= .L1 ((0:Nat):Int)) (by simp only [cP];rw [decide_eq_true (by omega)];rfl) ?_)
  have:=Comes.all (step:=cP a b) (fun i=> .L1 (i:Int)) (fun i=>idx a (i:Int)==idx b (i:Int)) a.length false true (by
   intro i hi hq
   rw [beq_iff_eq] at hq
   simp only [cP]
   rw [decide_eq_true (by omega),cond_true,af (by omega),af (by omega),hq,decide_eq_true rfl,Bool.not_true,cond_false,af (by unfold bA;omega)]
   rfl) (by
   intro i hi hq
   rw [beq_eq_false_iff_ne] at hq
   simp only [cP]
   rw [decide_eq_true (by omega),cond_true,af (by omega),af (by omega),decide_eq_false (p:=((idx a (i:Int)).toNat:Int)=((idx b (i:Int)).toNat:Int)) (fun h=>hq (UInt8.toNat_inj.1 (by omega)))]
   rfl) (by
   refine Comes.stop ?_
   simp only [cP]
   rw [decide_eq_false (by omega)];rfl)
  have he:((List.range a.length).all fun i=>idx a (i:Int)==idx b (i:Int))=(a==b):=by
   rw [Bool.eq_iff_iff,List.all_eq_true,beq_iff_eq]
   constructor
   ·intro hh
    refine List.ext_getElem hl fun i h1 h2=>?_
    have:=hh i (by simpa using h1)
    rw [beq_iff_eq,lT a h1,lT b h2] at this
    exact this
   ·intro e i _
    rw [e,beq_iff_eq]
  rw [he] at this
  cases hb:(a==b) with
  | true=>rw [hb] at this;exact this
  | false=>rw [hb] at this;exact this
 ·have:(a==b)=false:=by rw [beq_eq_false_iff_ne];intro e;rw [e] at hl;exact hl rfl
  rw [this]
  refine cN (Comes.stop ?_)
  simp only [cP]
  rw [decide_eq_false (by omega)];rfl
theorem zm:∀ a b:List UInt8,common a b≤a.length∧common a b≤b.length
 | [],b=>by simp [common]
 | x::a,[]=>by simp [common]
 | x::a,y::b=>by
  have:=zm a b
  rw [common]
  split
  ·simp only [List.length_cons];omega
  ·simp
theorem xV:∀ p q:List UInt8,common p q<p.length→common p q<q.length→∃ a x p' y q',p=a++x::p'∧q=a++y::q'∧x≠y∧a.length=common p q
 | [],q,h,_=>by simp at h
 | x::p,[],_,h=>by simp at h
 | x::p,y::q,h1,h2=>by
  rw [common] at h1 h2 ⊢
  by_cases h:x=y
  ·rw [if_pos h] at h1 h2 ⊢
   simp only [List.length_cons] at h1 h2
   obtain ⟨a,x',p',y',q',e1,e2,e3,e4⟩:=xV p q (by omega) (by omega)
   exact ⟨x::a,x',p',y',q',by rw [e1];rfl,by rw [e2,h];rfl,e3,by simp [e4]⟩
  ·rw [if_neg h]
   exact ⟨[],x,p,y,q,rfl,rfl,h,rfl⟩
theorem xu:∀ p q:List UInt8,p.length≤common p q→∃ r,q=p++r
 | [],q,_=>⟨q,rfl⟩
 | x::p,[],h=>by simp [common] at h
 | x::p,y::q,h=>by
  rw [common] at h
  by_cases he:x=y
  ·rw [if_pos he] at h
   simp only [List.length_cons] at h
   obtain ⟨r,e⟩:=xu p q (by omega)
   exact ⟨r,by rw [e,he];rfl⟩
  ·rw [if_neg he] at h;simp at h
theorem zn:∀ p r:List UInt8,common p (p++r)=p.length
 | [],r=>by cases r<;>rfl
 | x::p,r=>by rw [List.cons_append,common,if_pos rfl,zn p r];rfl
theorem zo {a b:List UInt8}:right (a++b)=true↔right a=true∧right b=true:=by
 rw [o9,o9,o9]
 simp only [List.mem_append]
 exact ⟨fun h=>⟨fun b hb=>h b (.inl hb),fun b hb=>h b (.inr hb)⟩,fun h b hb=>hb.elim (h.1 b) (h.2 b)⟩
theorem DJ {x:UInt8} {a:List UInt8}:right (x::a)=true↔x.toNat<16∧right a=true:=by
 rw [show x::a=[x]++a from rfl,zo,o9]
 simp
def PQ (d:Nat) (q:List UInt8):Prop:=q.length=d∧right q=true
def nb (c:UInt8):Fin 16:=⟨c.toNat%16,Nat.mod_lt _ (by omega)⟩
theorem xW {c:UInt8} (h:c.toNat<16):nb c=⟨c.toNat,h⟩:=Fin.ext (Nat.mod_eq_of_lt h)
def wE (f:Fin 16→aa) (c:Fin 16) (x:aa):Fin 16→aa:=fun i=>if i=c then x else f i
def one (x:aa):Fin 16→aa:=fun i=>if i=0 then x else .nil
def js (p v:List UInt8):aa:= .node 1 p v (fun _=> .nil) []
def lV (p:List UInt8) (x:aa):aa:= .node 2 p [] (one x) []
def gq (f:Fin 16→aa):aa:= .node 3 [] [] f []
def uh (p:List UInt8) (x:aa):aa:=if p=[] then x else lV p x
def look:aa→List UInt8→Option (List UInt8)
 | .nil,_=>none
 | .node k p v f _,q=>if k=1 then (if q=p then some v else none) else if k=2 then (if q.take p.length=p then look (f 0) (q.drop p.length) else none) else
  match q with
  | []=>none
  | c::s=>look (f (nb c)) s
theorem n6 (q:List UInt8):look .nil q=none:=by rw [look]
theorem jt (p v q:List UInt8):look (js p v) q=if q=p then some v else none:=by
 unfold js;rw [look.eq_def];exact if_pos rfl
theorem jM (p:List UInt8) (x:aa) (q:List UInt8):look (lV p x) q=if q.take p.length=p then look x (q.drop p.length) else none:=by
 unfold lV;rw [look.eq_def];rfl
theorem nW (f:Fin 16→aa) (c:UInt8) (s:List UInt8):look (gq f) (c::s)=look (f (nb c)) s:=by
 unfold gq;rw [look,if_neg (by decide),if_neg (by decide)]
theorem Bj (p:List UInt8) (x:aa) (q:List UInt8):look (uh p x) q=if q.take p.length=p then look x (q.drop p.length) else none:=by
 unfold uh
 by_cases h:p=[]
 ·subst h;simp
 ·rw [if_neg h,jM]
theorem Pa (p:List UInt8) (x:aa) (q:List UInt8):look (uh p x) (p++q)=look x q:=by
 rw [Bj,List.take_left,if_pos rfl,List.drop_left]
inductive TW:Nat→aa→Prop
 | leaf {d:Nat} {p v:List UInt8}:PQ d p→TW d (js p v)
 | ext {d e:Nat} {p:List UInt8} {f:Fin 16→aa}:e=p.length+d→p≠[]→right p=true→TW d (gq f)→TW e (lV p (gq f))
 | br {d e:Nat} {f:Fin 16→aa}:e=d+1→(∀ c,f c≠ .nil→TW d (f c))→(∃ a b,a≠b∧f a≠ .nil∧f b≠ .nil)→TW e (gq f)
def TN (d:Nat) (t:aa):Prop:=t= .nil∨TW d t
def Uf (t:aa):Prop:=∃ f,t=gq f
theorem TW.ne {d:Nat} {t:aa} (h:TW d t):t≠ .nil:=by
 cases h<;>exact fun e=>by cases e
theorem TW.isNil {d:Nat} {t:aa} (h:TW d t):t.isNil=false:=by
 cases h<;>rfl
theorem H9 {d e:Nat} {p:List UInt8} {f:Fin 16→aa} (he:e=p.length+d) (hp:right p=true) (h:TW d (gq f)):TW e (uh p (gq f)):=by
 unfold uh
 by_cases h0:p=[]
 ·subst h0;rw [if_pos rfl,he];simpa using h
 ·rw [if_neg h0];exact .ext he h0 hp h
theorem ve (f:Fin 16→aa) (c:Nat) (h:c<16):idx (List.ofFn f) (c:Int)=f ⟨c,h⟩:=by
 rw [lT _ (by simpa using h),List.getElem_ofFn]
def zS (f:Fin 16→aa):aE 16 aa:=⟨List.ofFn f,by simp⟩
theorem yG (f:Fin 16→aa) (c:Nat) (h:c<16) (x:aa):(zS f).put (c:Int) x=zS (wE f ⟨c,h⟩ x):=by
 apply Subtype.ext
 show (List.ofFn f).set c x=List.ofFn (wE f ⟨c,h⟩ x)
 apply List.ext_getElem
 ·simp
 ·intro i h1 h2
  rw [List.getElem_set,List.getElem_ofFn,List.getElem_ofFn]
  unfold wE
  by_cases hc:c=i
  ·subst hc;rw [if_pos rfl,if_pos rfl]
  ·rw [if_neg hc,if_neg (fun e=>hc (by rw [Fin.mk.injEq] at e;exact e.symm))]
theorem DK (k:Int) (p v r:List UInt8) (f:Fin 16→aa):aa.of ⟨k,p,v,zS f,r⟩= .node k p v f r:=by
 unfold aa.of
 congr 1
 funext i
 show (List.ofFn f).getD i.1 .nil=f i
 rw [List.getD_eq_getElem?_getD,List.getElem?_eq_getElem (by simp),List.getElem_ofFn]
 rfl
theorem Ia:(aE.rep 16 aa.nil)=zS fun _=> .nil:=Subtype.ext rfl
theorem Ug (x:aa) (h):(⟨[x, .nil, .nil, .nil, .nil, .nil, .nil, .nil, .nil, .nil, .nil, .nil, .nil, .nil, .nil, .nil],h⟩:aE 16 aa)=zS (one x):=Subtype.ext rfl
theorem AI (p v:List UInt8) (h:p.length≤1000000):lq p v=some (js p v):=by
 unfold lq
 rw [Ey p h,Option.bind_some,Ia,DK];rfl
theorem DL (p:List UInt8) (x:aa) (h:p.length≤1000000):lA p x=some (uh p x):=by
 unfold lA uh
 by_cases h0:p=[]
 ·subst h0;rfl
 ·have:p.length≠0:=fun e=>h0 (List.eq_nil_of_length_eq_zero e)
  rw [decide_eq_false (by omega),cond_false,Ey p h,Option.bind_some,if_neg h0]
  rw [Ug,DK];rfl
theorem MO {p q a p' q':List UInt8} {x y:UInt8} {v:List UInt8} {p0 K:aa} (ep:p0.at.bD=p) (h1:p=a++x::p') (h2:q=a++y::q') (hx:x.toNat<16) (hy:y.toNat<16) (hp:p.length≤100) (hq:q.length≤100) (hn:p0.isNil=false)
  (hK:(p0.at.bg=1∧K=js p' p0.at.dG)∨(p0.at.bg=2∧K=uh p' (idx p0.at.b8.1 (0:Int)))):
  mI p0 q v (a.length:Int)=some (uh a (gq (wE (wE (fun _=> .nil) ⟨y.toNat,hy⟩ (js q' v)) ⟨x.toNat,hx⟩ K))):=by
 have l1:p.length=a.length+(p'.length+1):=by rw [h1];simp
 have l2:q.length=a.length+(q'.length+1):=by rw [h2];simp
 have d1:p.drop (a.length+1)=p':=by rw [h1, ← List.drop_drop,List.drop_left];rfl
 have d2:q.drop (a.length+1)=q':=by rw [h2, ← List.drop_drop,List.drop_left];rfl
 have t2:q.take a.length=a:=by rw [h2,List.take_left]
 have i1:idx p (a.length:Int)=x:=by rw [gZ,h1];simp
 have i2:idx q (a.length:Int)=y:=by rw [gZ,h2];simp
 have e1:((a.length:Int)+1)=((a.length+1:Nat):Int):=by omega
 unfold mI
 rw [ep,af (by omega),e1,af (by unfold bA;omega),af (by omega),nu,d2,AI _ _ (by omega),Option.bind_some,i2,af (by omega),af hn,af (by omega),af hn]
 have last:∀ F:Fin 16→aa,(gO (0≤(0:Int)∧(0:Int)≤(a.length:Int)∧(a.length:Int)≤(q.length:Int)) ((lA (sub q (0:Int) (a.length:Int)) (aa.of (⟨3,([]:(List UInt8)),([]:List UInt8),zS F,([]:List UInt8)⟩:part))).bind fun (yu:aa)=>some yu))=some (uh a (gq F)):=by
  intro F
  rw [af (by omega),Dv,t2,DK,DL _ _ (by omega)];rfl
 rcases hK with ⟨k1,rfl⟩ | ⟨k1,rfl⟩
 ·rw [k1,decide_eq_true rfl,cond_true,af hn,af (by unfold bA;omega),af (by omega),af hn,nu,d1,AI _ _ (by omega),Option.bind_some,i1,af (by omega),Option.bind_some,Ia,yG _ _ hy,yG _ _ hx]
  exact last _
 ·rw [k1,decide_eq_false (by decide),cond_false,af hn,af (by unfold bA;omega),af (by omega),af hn,nu,d1,DL _ _ (by omega),Option.bind_some,i1,af (by omega),Option.bind_some,Ia,yG _ _ hy,yG _ _ hx]
  exact last _
end Go.Proofs.YtlfjfoknbjcncaaGreat.K
namespace Go.Proofs.YtlfjfoknbjcncaaGreat.K
open Go
set_option linter.unusedVariables false
set_option linter.unusedSimpArgs false
theorem PQ.cons {d:Nat} {c:UInt8} {s:List UInt8}:PQ (d+1) (c::s)↔c.toNat<16∧PQ d s:=by
 unfold PQ
 rw [DJ,List.length_cons]
 exact ⟨fun ⟨h1,h2,h3⟩=>⟨h2,by omega,h3⟩,fun ⟨h1,h2,h3⟩=>⟨by omega,h1,h3⟩⟩
theorem PQ.app {d:Nat} {a s:List UInt8}:PQ (a.length+d) (a++s)↔right a=true∧PQ d s:=by
 unfold PQ
 rw [zo,List.length_append]
 exact ⟨fun ⟨h1,h2,h3⟩=>⟨h2,by omega,h3⟩,fun ⟨h1,h2,h3⟩=>⟨by omega,h1,h3⟩⟩
theorem PQ.xw {d:Nat} {s:List UInt8} (h:PQ (d+1) s):∃ c r,s=c::r∧c.toNat<16∧PQ d r:=by
 cases s with
 | nil=>exact absurd h.1 (by simp)
 | cons c r=>exact ⟨c,r,rfl,PQ.cons.1 h⟩
theorem pL {a s:List UInt8} (h:s.take a.length=a):∃ r,s=a++r:=⟨s.drop a.length,by
 have:=List.take_append_drop a.length s
 rw [h] at this;exact this.symm⟩
theorem Ib {t K:aa} {a q':List UInt8} {x y:UInt8} {v:List UInt8} {d:Nat} (hx:x.toNat<16) (hy:y.toNat<16) (hne:x≠y) (hd:PQ d (a++y::q'))
  (hK:∀ s,PQ (d-a.length-1) s→look K s=look t (a++x::s)) (h0:∀ s,PQ d s→(∀ r,s≠a++x::r)→look t s=none) (s:List UInt8) (hs:PQ d s):
  look (uh a (gq (wE (wE (fun _=> .nil) ⟨y.toNat,hy⟩ (js q' v)) ⟨x.toNat,hx⟩ K))) s=if s=a++y::q' then some v else look t s:=by
 by_cases hp:s.take a.length=a
 ·obtain ⟨r,rfl⟩:=pL hp
  have hl:=hd.1
  have R1:=hs.1
  rw [List.length_append,List.length_cons] at hl
  rw [List.length_append] at R1
  have MP:=hs
  rw [show d=a.length+(q'.length+1) by omega,PQ.app] at MP
  obtain ⟨c,r,rfl,hc,hr⟩:=MP.2.xw
  rw [Pa,nW,xW hc]
  unfold wE
  by_cases h1:c=x
  ·subst h1
   rw [if_pos rfl,if_neg (fun e=>hne (by have:=List.append_cancel_left e;injection this)),hK r (by rw [show d-a.length-1=q'.length by omega];exact hr)]
  ·rw [if_neg (fun e=>h1 (by rw [Fin.mk.injEq,UInt8.toNat_inj] at e;exact e))]
   have hz:look t (a++c::r)=none:=h0 _ hs fun r' e=>h1 (by have:=List.append_cancel_left e;injection this)
   by_cases h2:c=y
   ·subst h2
    rw [if_pos rfl,jt,hz]
    by_cases h3:r=q'
    ·rw [if_pos h3,if_pos (by rw [h3])]
    ·rw [if_neg h3,if_neg (fun e=>h3 (by have:=List.append_cancel_left e;injection this))]
   ·rw [if_neg (fun e=>h2 (by rw [Fin.mk.injEq,UInt8.toNat_inj] at e;exact e)),n6,hz,if_neg (fun e=>h2 (by have:=List.append_cancel_left e;injection this))]
 ·rw [Bj,if_neg hp,if_neg (fun e=>hp (by rw [e,List.take_left])),h0 s hs fun r e=>hp (by rw [e,List.take_left])]
theorem MQ {a q' v:List UInt8} {x y:UInt8} {d:Nat} {K:aa} (hx:x.toNat<16) (hy:y.toNat<16) (hne:x≠y) (hd:PQ d (a++y::q')) (hK:TW (d-a.length-1) K):
  TW d (uh a (gq (wE (wE (fun _=> .nil) ⟨y.toNat,hy⟩ (js q' v)) ⟨x.toNat,hx⟩ K))):=by
 have hl:=hd.1
 rw [List.length_append,List.length_cons] at hl
 have QD:=hd
 rw [show d=a.length+(q'.length+1) by omega,PQ.app,PQ.cons] at QD
 have hxy:(⟨y.toNat,hy⟩:Fin 16)≠⟨x.toNat,hx⟩:=fun e=>hne (by rw [Fin.mk.injEq,UInt8.toNat_inj] at e;exact e.symm)
 refine H9 (d:=q'.length+1) (by omega) QD.1 (.br rfl (fun c hc=>?_) ⟨⟨y.toNat,hy⟩,⟨x.toNat,hx⟩,hxy,?_,?_⟩)
 ·unfold wE at hc ⊢
  by_cases h1:c=⟨x.toNat,hx⟩
  ·rw [if_pos h1];rw [show q'.length=d-a.length-1 by omega];exact hK
  ·rw [if_neg h1] at hc ⊢
   by_cases h2:c=⟨y.toNat,hy⟩
   ·rw [if_pos h2];exact .leaf QD.2.2
   ·rw [if_neg h2] at hc;exact absurd rfl hc
 ·unfold wE
  rw [if_neg hxy,if_pos rfl];exact fun e=>by cases e
 ·unfold wE
  rw [if_pos rfl];exact hK.ne
theorem MR (v:List UInt8):∀ (n d:Nat) (t:aa) (q:List UInt8),d<n→TN d t→PQ d q→d≤64→∃ t',(∀ m,d<m→jl m t q v=some t')∧TW d t'∧(Uf t→Uf t')∧∀ s,PQ d s→look t' s=if s=q then some v else look t s
 | 0,d,t,q,h,_,_,_=>by omega
 | n+1,d,t,q,hd,ht,hq,FG=>by
  have ih:=MR v n
  have Yo:=hq.1
  have up:∀ t',(∀ m,d≤m→gm (jl m) t q v=some t')→∀ m,d<m→jl m t q v=some t':=by
   intro t' h m hm
   obtain ⟨m,rfl⟩:∃ k,m=k+1:=⟨m-1,by omega⟩
   exact h m (by omega)
  rcases ht with rfl | ht
  ·refine ⟨js q v,up _ fun m hm=>?_, .leaf hq,fun ⟨f,e⟩=>(by cases e),fun s _=>by rw [jt,n6]⟩
   unfold gm
   rw [show aa.nil.isNil=true from rfl,cond_true,AI _ _ (by omega)];rfl
  ·cases ht with
   | @leaf _ p v0 hp=>
    have KI:=hp.1
    have K6:=zm p q
    by_cases hc:common p q<p.length
    ·obtain ⟨a,x,p',y,q',e1,e2,e3,e4⟩:=xV p q hc (by omega)
     have LJ:=hp
     have zT:=hq
     rw [e1] at LJ
     rw [e2] at zT
     have l1:p.length=a.length+(p'.length+1):=by rw [e1];simp
     have l2:q.length=a.length+(q'.length+1):=by rw [e2];simp
     have z9:=LJ
     have KS:=zT
     rw [show d=a.length+(p'.length+1) by omega,PQ.app,PQ.cons] at z9
     rw [show d=a.length+(q'.length+1) by omega,PQ.app,PQ.cons] at KS
     refine ⟨_,up _ fun m hm=>?_,MQ (K:=js p' v0) (v:=v) z9.2.1 KS.2.1 e3 zT (.leaf (by rw [show d-a.length-1=p'.length by omega];exact z9.2.2)),fun ⟨f,e⟩=>(by cases e),fun s hs=>?_⟩
     ·unfold gm
      have hf:=MO (p:=p) (q:=q) (v:=v) (p0:=js p v0) (K:=js p' v0) rfl e1 e2 z9.2.1 KS.2.1 (by omega) (by omega) rfl (.inl ⟨rfl,rfl⟩)
      rw [show (js p v0).isNil=false from rfl,cond_false,af rfl,show (js p v0).at.bD=p from rfl,pe _ _ (by omega),Option.bind_some,af rfl,show (js p v0).at.bg=1 from rfl,decide_eq_false (by decide),cond_false,af rfl,decide_eq_true (by omega),cond_true, ← e4,hf]
      rfl
     ·rw [Ib (t:=js p v0) z9.2.1 KS.2.1 e3 zT (fun r hr=>?_) (fun r hr hn=>?_) s hs,e2]
      ·rw [jt,jt,e1]
       by_cases h:r=p'
       ·rw [if_pos h,if_pos (by rw [h])]
       ·rw [if_neg h,if_neg (fun e=>h (by have:=List.append_cancel_left e;injection this))]
      ·rw [jt,if_neg (fun e=>hn p' (by rw [e,e1]))]
    ·obtain ⟨r,e⟩:=xu p q (by omega)
     have er:r=[]:=List.eq_nil_of_length_eq_zero (by have:=congrArg List.length e;rw [List.length_append] at this;omega)
     rw [er,List.append_nil] at e
     subst e
     refine ⟨js q v,up _ fun m hm=>?_, .leaf hq,fun ⟨f,e⟩=>(by cases e),fun s _=>?_⟩
     ·unfold gm
      rw [show (js q v0).isNil=false from rfl,cond_false,af rfl,show (js q v0).at.bD=q from rfl,pe _ _ (by omega),Option.bind_some,af rfl,show (js q v0).at.bg=1 from rfl,decide_eq_false (by decide),cond_false,af rfl,decide_eq_false (by omega),cond_false,af rfl,decide_eq_true rfl,cond_true,AI _ _ (by omega)]
      rfl
     ·rw [jt,jt]
      by_cases h:s=q
      ·rw [if_pos h,if_pos h]
      ·rw [if_neg h,if_neg h];exact (if_neg h).symm
   | @ext d' _ p f he tL EA hb=>
    have K6:=zm p q
    have LI:0<p.length:=List.length_pos_iff.2 tL
    by_cases hc:common p q<p.length
    ·obtain ⟨a,x,p',y,q',e1,e2,e3,e4⟩:=xV p q hc (by omega)
     have zT:=hq
     rw [e2] at zT
     have l1:p.length=a.length+(p'.length+1):=by rw [e1];simp
     have l2:q.length=a.length+(q'.length+1):=by rw [e2];simp
     have z9:=EA
     have KS:=zT
     rw [e1,zo,DJ] at z9
     rw [show d=a.length+(q'.length+1) by omega,PQ.app,PQ.cons] at KS
     refine ⟨_,up _ fun m hm=>?_,MQ (K:=uh p' (gq f)) (v:=v) z9.2.1 KS.2.1 e3 zT (H9 (by omega) z9.2.2 hb),fun ⟨f,e⟩=>(by cases e),fun s hs=>?_⟩
     ·unfold gm
      have hf:=MO (p:=p) (q:=q) (v:=v) (p0:=lV p (gq f)) (K:=uh p' (gq f)) rfl e1 e2 z9.2.1 KS.2.1 (by omega) (by omega) rfl (.inr ⟨rfl,rfl⟩)
      rw [show (lV p (gq f)).isNil=false from rfl,cond_false,af rfl,show (lV p (gq f)).at.bD=p from rfl,pe _ _ (by omega),Option.bind_some,af rfl,show (lV p (gq f)).at.bg=2 from rfl,decide_eq_false (by decide),cond_false,af rfl,decide_eq_true (by omega),cond_true, ← e4,hf]
      rfl
     ·rw [Ib (t:=lV p (gq f)) z9.2.1 KS.2.1 e3 zT (fun r hr=>?_) (fun r hr hn=>?_) s hs,e2]
      ·rw [Bj,jM,e1]
       have ea:(a++x::r).take (a++x::p').length=a++x::r.take p'.length:=by
        rw [List.length_append,List.length_cons,List.take_append,List.take_of_length_le (by omega),show a.length+(p'.length+1)-a.length=p'.length+1 by omega,List.take_succ_cons]
       have eb:(a++x::r).drop (a++x::p').length=r.drop p'.length:=by
        rw [List.length_append,List.length_cons,List.drop_append,List.drop_eq_nil_of_le (by omega),List.nil_append,show a.length+(p'.length+1)-a.length=p'.length+1 by omega,List.drop_succ_cons]
       rw [ea,eb]
       by_cases h:r.take p'.length=p'
       ·rw [if_pos h,if_pos (by rw [h])]
       ·rw [if_neg h,if_neg (fun e=>h (by have:=List.append_cancel_left e;injection this))]
      ·rw [jM,if_neg (fun e=>?_)]
       obtain ⟨z,ez⟩:=pL e
       exact hn (p'++z) (by rw [ez,e1];simp)
    ·obtain ⟨r,rfl⟩:=xu p q (by omega)
     have zT:=hq
     rw [he,PQ.app] at zT
     obtain ⟨x,g1,g2,g3,g4⟩:=ih d' (gq f) r (by omega) (.inr hb) zT.2 (by omega)
     obtain ⟨f',rfl⟩:=g3 ⟨f,rfl⟩
     refine ⟨lV p (gq f'),up _ fun m hm=>?_, .ext he tL EA g2,fun ⟨f,e⟩=>(by cases e),fun s hs=>?_⟩
     ·unfold gm
      rw [show (lV p (gq f)).isNil=false from rfl,cond_false,af rfl,show (lV p (gq f)).at.bD=p from rfl,pe _ _ (by omega),Option.bind_some,af rfl,show (lV p (gq f)).at.bg=2 from rfl,decide_eq_false (by decide),cond_false,af rfl,decide_eq_false (by omega),cond_false,af rfl,decide_eq_false (by decide),cond_false,af rfl,decide_eq_true rfl,cond_true,af rfl,af rfl,zn,af (by rw [List.length_append];omega),nu,List.drop_left]
      rw [show idx (lV p (gq f)).at.b8.1 (0:Int)=gq f from rfl,g1 m (by omega),Option.bind_some,DL _ _ (by omega),Option.bind_some]
      unfold uh
      rw [if_neg tL]
     ·rw [jM,jM]
      by_cases h:s.take p.length=p
      ·obtain ⟨z,rfl⟩:=pL h
       have MP:=hs
       rw [he,PQ.app] at MP
       rw [if_pos h,if_pos h,List.drop_left,g4 z MP.2]
       by_cases hz:z=r
       ·rw [if_pos hz,if_pos (by rw [hz])]
       ·rw [if_neg hz,if_neg (fun e=>hz (List.append_cancel_left e))]
      ·rw [if_neg h,if_neg h,if_neg (fun e=>h (by rw [e,List.take_left]))]
   | @br d' _ f he hk h2=>
    subst he
    obtain ⟨c,r,rfl,hc,hr⟩:=hq.xw
    obtain ⟨x,g1,g2,g3,g4⟩:=ih d' (f ⟨c.toNat,hc⟩) r (by omega) (by
     by_cases h:f ⟨c.toNat,hc⟩= .nil
     ·exact .inl h
     ·exact .inr (hk _ h)) hr (by omega)
    refine ⟨gq (wE f ⟨c.toNat,hc⟩ x),up _ fun m hm=>?_, .br rfl (fun i hi=>?_) ?_,fun _=>⟨_,rfl⟩,fun s hs=>?_⟩
    ·unfold gm
     have ha:((gq f).at.b8)=zS f:=rfl
     have hcn:common [] (c::r)=0:=rfl
     have hi:idx (c::r) (0:Int)=c:=rfl
     rw [show (gq f).isNil=false from rfl,cond_false,af rfl,show (gq f).at.bD=[] from rfl,pe _ _ (by simp),Option.bind_some,af rfl,show (gq f).at.bg=3 from rfl,decide_eq_false (by decide),cond_false,af rfl,hcn,decide_eq_false (by decide),cond_false,af rfl,decide_eq_false (by decide),cond_false,af rfl,decide_eq_false (by decide),cond_false,af rfl]
     rw [List.length_cons,af (by omega),af (by omega),af rfl,hi,af (by omega),af (by omega)]
     rw [show (sub (c::r) (1:Int) ((r.length+1:Nat):Int))=r from nu (c::r) 1,ha,show (zS f).1=List.ofFn f from rfl,ve f _ hc,g1 m (by omega),Option.bind_some,af (by omega),yG f _ hc,DK]
     rfl
    ·unfold wE at hi ⊢
     by_cases h:i=⟨c.toNat,hc⟩
     ·rw [if_pos h];exact g2
     ·rw [if_neg h] at hi ⊢;exact hk i hi
    ·obtain ⟨a,b,hab,ha,hb⟩:=h2
     refine ⟨a,b,hab,?_,?_⟩
     ·unfold wE
      split
      ·exact g2.ne
      ·exact ha
     ·unfold wE
      split
      ·exact g2.ne
      ·exact hb
    ·obtain ⟨c',r',rfl,Uh,hr'⟩:=hs.xw
     rw [nW,nW,xW Uh]
     unfold wE
     by_cases h:c'=c
     ·subst h
      rw [if_pos rfl,g4 r' hr']
      by_cases h3:r'=r
      ·rw [if_pos h3,if_pos (by rw [h3])]
      ·rw [if_neg h3,if_neg (fun e=>h3 (by injection e))]
     ·rw [if_neg (fun e=>h (by rw [Fin.mk.injEq,UInt8.toNat_inj] at e;exact e)),if_neg (fun e=>h (by injection e))]
theorem Rp {d:Nat} {t:aa} {q:List UInt8} (v:List UInt8) (ht:TN d t) (hq:PQ d q) (FG:d≤64):∃ t',s5 t q v=some t'∧TW d t'∧∀ s,PQ d s→look t' s=if s=q then some v else look t s:=by
 obtain ⟨t',h1,h2,_,h3⟩:=MR v (d+1) d t q (by omega) ht hq FG
 exact ⟨t',m8 (d+1) fun m hm=>h1 m (by omega),h2,h3⟩
end Go.Proofs.YtlfjfoknbjcncaaGreat.K
namespace Go.Proofs.YtlfjfoknbjcncaaGreat.K
open Go
set_option linter.unusedVariables false
set_option linter.unusedSimpArgs false
theorem MS:∀ (n d:Nat) (t:aa) (q:List UInt8),d<n→TN d t→PQ d q→d≤64→∃ v b,(∀ m,d<m→jm m t q=some (v,b))∧look t q=if b=true then some v else none
 | 0,d,t,q,h,_,_,_=>by omega
 | n+1,d,t,q,hd,ht,hq,FG=>by
  have ih:=MS n
  have Yo:=hq.1
  have up:∀ r,(∀ m,d≤m→gX (jm m) t q=some r)→∀ m,d<m→jm m t q=some r:=by
   intro r h m hm
   obtain ⟨m,rfl⟩:∃ k,m=k+1:=⟨m-1,by omega⟩
   exact h m (by omega)
  rcases ht with rfl | ht
  ·refine ⟨[],false,up _ fun m hm=>?_,by rw [n6];rfl⟩
   unfold gX
   rw [show aa.nil.isNil=true from rfl,cond_true]
  ·cases ht with
   | @leaf _ p v0 hp=>
    have KI:=hp.1
    refine ⟨v0,p==q,up _ fun m hm=>?_,?_⟩
    ·unfold gX
     rw [show (js p v0).isNil=false from rfl,cond_false,af rfl,show (js p v0).at.bg=1 from rfl,decide_eq_false (by decide),cond_false,decide_eq_true rfl,cond_true,af rfl,af rfl,show (js p v0).at.bD=p from rfl,WH _ _ (by omega)]
     rfl
    ·rw [jt]
     by_cases h:q=p
     ·rw [if_pos h,if_pos (by rw [h];exact beq_self_eq_true p)]
     ·rw [if_neg h,if_neg (fun e=>h (beq_iff_eq.1 e).symm)]
   | @ext d' _ p f he tL EA hb=>
    have K6:=zm p q
    have LI:0<p.length:=List.length_pos_iff.2 tL
    by_cases hc:common p q<p.length
    ·refine ⟨[],false,up _ fun m hm=>?_,?_⟩
     ·unfold gX
      rw [show (lV p (gq f)).isNil=false from rfl,cond_false,af rfl,show (lV p (gq f)).at.bg=2 from rfl,decide_eq_false (by decide),cond_false,decide_eq_false (by decide),cond_false,decide_eq_true rfl,cond_true,af rfl,af rfl,show (lV p (gq f)).at.bD=p from rfl,pe _ _ (by omega),Option.bind_some,decide_eq_true (by omega),cond_true]
     ·rw [jM,if_neg (fun e=>?_)]
      ·rfl
      ·obtain ⟨z,ez⟩:=pL e
       rw [ez,zn] at hc;omega
    ·obtain ⟨r,rfl⟩:=xu p q (by omega)
     have zT:=hq
     rw [he,PQ.app] at zT
     obtain ⟨v,b,g1,g2⟩:=ih d' (gq f) r (by omega) (.inr hb) zT.2 (by omega)
     refine ⟨v,b,up _ fun m hm=>?_,?_⟩
     ·unfold gX
      rw [show (lV p (gq f)).isNil=false from rfl,cond_false,af rfl,show (lV p (gq f)).at.bg=2 from rfl,decide_eq_false (by decide),cond_false,decide_eq_false (by decide),cond_false,decide_eq_true rfl,cond_true,af rfl,af rfl,show (lV p (gq f)).at.bD=p from rfl,pe _ _ (by omega),Option.bind_some,decide_eq_false (by omega),cond_false,af rfl,af (by rw [List.length_append];omega),nu,List.drop_left]
      rw [show idx (lV p (gq f)).at.b8.1 (0:Int)=gq f from rfl,g1 m (by omega)]
      rfl
     ·rw [jM,List.take_left,if_pos rfl,List.drop_left,g2]
   | @br d' _ f he hk h2=>
    subst he
    obtain ⟨c,r,rfl,hc,hr⟩:=hq.xw
    obtain ⟨v,b,g1,g2⟩:=ih d' (f ⟨c.toNat,hc⟩) r (by omega) (by
     by_cases h:f ⟨c.toNat,hc⟩= .nil
     ·exact .inl h
     ·exact .inr (hk _ h)) hr (by omega)
    refine ⟨v,b,up _ fun m hm=>?_,by rw [nW,xW hc,g2]⟩
    unfold gX
    have hi:idx (c::r) (0:Int)=c:=rfl
    rw [show (gq f).isNil=false from rfl,cond_false,af rfl,show (gq f).at.bg=3 from rfl,decide_eq_false (by decide),cond_false,decide_eq_false (by decide),cond_false,decide_eq_false (by decide),cond_false]
    rw [List.length_cons,af (by omega),af rfl,hi,af (by omega),af (by omega)]
    rw [show (sub (c::r) (1:Int) ((r.length+1:Nat):Int))=r from nu (c::r) 1,show (gq f).at.b8.1=List.ofFn f from rfl,ve f _ hc,g1 m (by omega)]
    rfl
theorem Rq {d:Nat} {t:aa} {q:List UInt8} (ht:TN d t) (hq:PQ d q) (FG:d≤64):∃ v b,s7 t q=some (v,b)∧look t q=if b=true then some v else none:=by
 obtain ⟨v,b,h1,h2⟩:=MS (d+1) d t q (by omega) ht hq FG
 exact ⟨v,b,m8 (d+1) fun m hm=>h1 m (by omega),h2⟩
theorem Rr {p x s:List UInt8} (h:¬ s.take p.length=p):¬ s.take (p++x).length=p++x:=by
 intro e
 obtain ⟨z,rfl⟩:=pL e
 exact h (by rw [List.append_assoc,List.take_left])
theorem JY {d e:Nat} {p:List UInt8} {x:aa} (hx:TW d x) (tL:p≠[]) (hp:right p=true) (he:e=p.length+d) (FG:e≤64):
  ∃ t',lC p x=some t'∧TW e t'∧∀ s,look t' s=if s.take p.length=p then look x (s.drop p.length) else none:=by
 cases hx with
 | @leaf _ q v hq=>
  have Yo:=hq.1
  refine ⟨js (p++q) v,?_, .leaf (by rw [he,PQ.app];exact ⟨hp,hq⟩),fun s=>?_⟩
  ·unfold lC
   rw [show (js q v).isNil=false from rfl,af rfl,show (js q v).at.bg=1 from rfl,decide_eq_false (by decide),cond_false,decide_eq_true rfl,cond_true,af rfl,show (js q v).at.bD=q from rfl,vb _ _ (by omega) (by omega),Option.bind_some,af rfl,AI _ _ (by rw [List.length_append];omega)]
   rfl
  ·rw [jt]
   by_cases h:s.take p.length=p
   ·obtain ⟨z,rfl⟩:=pL h
    rw [if_pos h,List.drop_left,jt]
    by_cases hz:z=q
    ·rw [if_pos hz,if_pos (by rw [hz])]
    ·rw [if_neg hz,if_neg (fun e=>hz (List.append_cancel_left e))]
   ·rw [if_neg h,if_neg (fun e=>h (by rw [e,List.take_left]))]
 | @ext d' _ q f hd hq0 hqr hb=>
  have hpq:p++q≠[]:=fun e=>tL (List.append_eq_nil_iff.1 e).1
  refine ⟨lV (p++q) (gq f),?_, .ext (by rw [List.length_append];omega) hpq (zo.2 ⟨hp,hqr⟩) hb,fun s=>?_⟩
  ·unfold lC
   rw [show (lV q (gq f)).isNil=false from rfl,af rfl,show (lV q (gq f)).at.bg=2 from rfl,decide_eq_false (by decide),cond_false,decide_eq_false (by decide),cond_false,decide_eq_true rfl,cond_true,af rfl,show (lV q (gq f)).at.bD=q from rfl,vb _ _ (by omega) (by omega),Option.bind_some,af rfl,DL _ _ (by rw [List.length_append];omega),Option.bind_some]
   unfold uh
   rw [if_neg hpq];rfl
  ·rw [jM]
   by_cases h:s.take p.length=p
   ·obtain ⟨z,rfl⟩:=pL h
    rw [if_pos h,List.drop_left,jM,List.length_append,List.take_append,List.take_of_length_le (by omega),show p.length+q.length-p.length=q.length by omega, ← List.drop_drop,List.drop_left]
    by_cases hz:z.take q.length=q
    ·rw [if_pos hz,if_pos (by rw [hz])]
    ·rw [if_neg hz,if_neg (fun e=>hz (List.append_cancel_left e))]
   ·rw [if_neg h,if_neg (Rr h)]
 | @br d' _ f hd hk h2=>
  refine ⟨uh p (gq f),?_,H9 he hp (.br hd hk h2),fun s=>by rw [Bj]⟩
  unfold lC
  rw [show (gq f).isNil=false from rfl,af rfl,show (gq f).at.bg=3 from rfl,decide_eq_false (by decide),cond_false,decide_eq_false (by decide),cond_false,decide_eq_false (by decide),cond_false,DL _ _ (by omega)]
  rfl
def sv (f:Fin 16→aa):Nat→Nat×Nat
 | 0=>(0,0)
 | i+1=>if h:i<16 then (if (f ⟨i,h⟩).isNil=true then sv f i else ((sv f i).1+1,i)) else sv f i
theorem zq {t:aa}:t.isNil=true↔t= .nil:=by
 cases t
 ·exact ⟨fun _=>rfl,fun _=>rfl⟩
 ·exact ⟨fun h=>(by cases h),fun h=>(by cases h)⟩
theorem KT (f:Fin 16→aa):∀ i,i≤16→(sv f i).1≤i∧(sv f i).2≤15∧((sv f i).1=0→∀ j:Fin 16,j.1<i→f j= .nil)∧((sv f i).1≠0→∃ h:(sv f i).2<16,(sv f i).2<i∧f ⟨(sv f i).2,h⟩≠ .nil∧((sv f i).1=1→∀ j:Fin 16,j.1<i→j.1≠(sv f i).2→f j= .nil)∧(1<(sv f i).1→∃ a b,a≠b∧f a≠ .nil∧f b≠ .nil))
 | 0,_=>⟨Nat.le_refl _,Nat.zero_le _,fun _ j hj=>by omega,fun h=>absurd rfl h⟩
 | i+1,hi=>by
  obtain ⟨i1,i2,i3,i4⟩:=KT f i (by omega)
  rw [sv,dif_pos (show i<16 by omega)]
  by_cases hn:(f ⟨i,by omega⟩).isNil=true
  ·rw [if_pos hn]
   rw [zq] at hn
   refine ⟨by omega,i2,fun h j hj=>?_,fun h=>?_⟩
   ·by_cases e:j.1=i
    ·have:j=⟨i,by omega⟩:=Fin.ext e
     rw [this];exact hn
    ·exact i3 h j (by omega)
   ·obtain ⟨h1,h2,h3,h4,h5⟩:=i4 h
    refine ⟨h1,by omega,h3,fun h j hj hne=>?_,h5⟩
    by_cases e:j.1=i
    ·have:j=⟨i,by omega⟩:=Fin.ext e
     rw [this];exact hn
    ·exact h4 h j (by omega) hne
  ·rw [if_neg hn]
   rw [zq] at hn
   refine ⟨by omega,by show i≤15;omega,fun h=>absurd h (Nat.succ_ne_zero _),fun _=>⟨by show i<16;omega,Nat.lt_succ_self i,hn,fun h j hj hne=>?_,fun h=>?_⟩⟩
   ·have h:(sv f i).1+1=1:=h
    have hne:j.1≠i:=hne
    exact i3 (by omega) j (by omega)
   ·have h:1<(sv f i).1+1:=h
    obtain ⟨h1,h2,h3,_⟩:=i4 (by omega)
    exact ⟨⟨_,h1⟩,⟨i,by omega⟩,fun e=>by rw [Fin.mk.injEq] at e;omega,h3,hn⟩
theorem CL {n:Nat} (h:n<256):(gb (n:Int)).toNat=n:=by
 rw [wm,UInt8.toNat_ofNat'];omega
theorem Pc {d:Nat} {f:Fin 16→aa} (hk:∀ c,f c≠ .nil→TW d (f c)) (h1:∃ c,f c≠ .nil) (FG:d+1≤64):
  ∃ t',rW (zS f)=some t'∧TW (d+1) t'∧∀ s,PQ (d+1) s→look t' s=look (gq f) s:=by
 have run:∀ r,gY (zS f) (.L1 (zS f) ((sv f 16).1:Int) ((sv f 16).2:Int) ((16:Nat):Int))=some (.inr r)→rW (zS f)=some r:=by
  intro r hr
  refine cN (Comes.next (c':= .L1 (zS f) ((sv f 0).1:Int) ((sv f 0).2:Int) ((0:Nat):Int)) (by simp only [gY];rfl) ?_)
  refine Comes.upto (fun i=>vZ.L1 (zS f) ((sv f i).1:Int) ((sv f i).2:Int) (i:Int)) 16 (fun i hi=>?_) (Comes.stop hr)
  have hl:=KT f i (by omega)
  simp only [gY]
  rw [decide_eq_true (by omega),cond_true,af (by omega),show (zS f).1=List.ofFn f from rfl,ve f i hi,sv,dif_pos hi]
  by_cases hn:(f ⟨i,hi⟩).isNil=true
  ·rw [hn,Bool.not_true,cond_false,af (by unfold bA;omega),if_pos rfl];rfl
  ·rw [if_neg hn]
   rw [Bool.not_eq_true] at hn
   rw [hn,Bool.not_false,cond_true,af (by unfold bA;omega),af (by unfold bA;omega)];rfl
 obtain ⟨_,l2,l3,l4⟩:=KT f 16 (Nat.le_refl _)
 have h0:(sv f 16).1≠0:=fun h=>by
  obtain ⟨c,hc⟩:=h1
  exact hc (l3 h c c.2)
 obtain ⟨k1,k2,k3,k4,k5⟩:=l4 h0
 by_cases hm:1<(sv f 16).1
 ·refine ⟨gq f,run _ ?_, .br rfl hk (k5 hm),fun _ _=>rfl⟩
  simp only [gY]
  rw [decide_eq_false (by omega),cond_false,decide_eq_true (by omega),cond_true,DK];rfl
 ·obtain ⟨t',g1,g2,g3⟩:=JY (p:=[gb ((sv f 16).2:Int)]) (hk _ k3) (by simp) (by rw [o9];intro b hb;rw [List.mem_singleton.1 hb,CL (by omega)];exact k1) (by rw [List.length_singleton];omega) FG
  refine ⟨t',run _ ?_,g2,fun s hs=>?_⟩
  ·simp only [gY]
   rw [decide_eq_false (by omega),cond_false,decide_eq_false (by omega),cond_false,af (by omega),show (zS f).1=List.ofFn f from rfl,ve f _ k1,g1]
   rfl
  ·obtain ⟨c,r,rfl,hc,hr⟩:=hs.xw
   rw [g3,nW,xW hc]
   by_cases h:c.toNat=(sv f 16).2
   ·have e:c=gb ((sv f 16).2:Int):=UInt8.toNat_inj.1 (by rw [CL (by omega)];exact h)
    rw [if_pos (by rw [← e];rfl)]
    show look (f ⟨_,k1⟩) r=_
    congr 2
    exact Fin.ext h.symm
   ·rw [if_neg (fun e=>h (by
     have e:[c]=[gb ((sv f 16).2:Int)]:=e
     injection e with e
     rw [e,CL (by omega)]))]
    rw [k4 (Nat.le_antisymm (Nat.le_of_not_lt hm) (Nat.pos_of_ne_zero h0)) ⟨c.toNat,hc⟩ hc h,n6]
theorem TN.H8 {d:Nat} {f:Fin 16→aa} (hk:∀ c,f c≠ .nil→TW d (f c)) (c:Fin 16):TN d (f c):=by
 by_cases h:f c= .nil
 ·exact .inl h
 ·exact .inr (hk _ h)
theorem MT:∀ (n d:Nat) (t:aa) (q:List UInt8),d<n→TW d t→PQ d q→d≤64→look t q≠none→∃ t',(∀ m,d<m→jn m t q=some t')∧TN d t'∧(Uf t→t'≠ .nil)∧∀ s,PQ d s→look t' s=if s=q then none else look t s
 | 0,d,t,q,h,_,_,_,_=>by omega
 | n+1,d,t,q,hd,ht,hq,FG,hl=>by
  have ih:=MT n
  have Yo:=hq.1
  have up:∀ r,(∀ m,d≤m→jJ (jn m) t q=some r)→∀ m,d<m→jn m t q=some r:=by
   intro r h m hm
   obtain ⟨m,rfl⟩:∃ k,m=k+1:=⟨m-1,by omega⟩
   exact h m (by omega)
  cases ht with
  | @leaf _ p v0 hp=>
   rw [jt] at hl
   have e:q=p:=by
    by_cases h:q=p
    ·exact h
    ·rw [if_neg h] at hl;exact absurd rfl hl
   subst e
   refine ⟨.nil,up _ fun m hm=>?_, .inl rfl,fun ⟨f,e⟩=>(by cases e),fun s _=>?_⟩
   ·unfold jJ
    rw [show (js q v0).isNil=false from rfl,af rfl,show (js q v0).at.bg=1 from rfl,decide_eq_true rfl,cond_true]
   ·rw [n6,jt]
    by_cases h:s=q
    ·rw [if_pos h]
    ·rw [if_neg h,if_neg h]
  | @ext d' _ p f he tL EA hb=>
   have LI:0<p.length:=List.length_pos_iff.2 tL
   rw [jM] at hl
   have hpq:q.take p.length=p:=by
    by_cases h:q.take p.length=p
    ·exact h
    ·rw [if_neg h] at hl;exact absurd rfl hl
   obtain ⟨r,rfl⟩:=pL hpq
   rw [if_pos hpq,List.drop_left] at hl
   have zT:=hq
   rw [he,PQ.app] at zT
   obtain ⟨x,g1,g2,g3,g4⟩:=ih d' (gq f) r (by omega) hb zT.2 (by omega) hl
   have hx:TW d' x:=g2.resolve_left (g3 ⟨f,rfl⟩)
   obtain ⟨t',k1,k2,k3⟩:=JY hx tL EA he FG
   refine ⟨t',up _ fun m hm=>?_, .inr k2,fun _=>k2.ne,fun s hs=>?_⟩
   ·unfold jJ
    rw [show (lV p (gq f)).isNil=false from rfl,af rfl,show (lV p (gq f)).at.bg=2 from rfl,decide_eq_false (by decide),cond_false,decide_eq_true rfl,cond_true,af rfl,af rfl,af rfl,show (lV p (gq f)).at.bD=p from rfl,af (by rw [List.length_append];omega),nu,List.drop_left]
    rw [show idx (lV p (gq f)).at.b8.1 (0:Int)=gq f from rfl,g1 m (by omega),Option.bind_some,k1]
    rfl
   ·rw [k3,jM]
    by_cases h:s.take p.length=p
    ·obtain ⟨z,rfl⟩:=pL h
     have MP:=hs
     rw [he,PQ.app] at MP
     rw [if_pos h,if_pos h,List.drop_left,g4 z MP.2]
     by_cases hz:z=r
     ·rw [if_pos hz,if_pos (by rw [hz])]
     ·rw [if_neg hz,if_neg (fun e=>hz (List.append_cancel_left e))]
    ·rw [if_neg h,if_neg h,ite_self]
  | @br d' _ f he hk h2=>
   subst he
   obtain ⟨c,r,rfl,hc,hr⟩:=hq.xw
   rw [nW,xW hc] at hl
   have Ki:f ⟨c.toNat,hc⟩≠ .nil:=fun e=>by rw [e,n6] at hl;exact hl rfl
   obtain ⟨x,g1,g2,g3,g4⟩:=ih d' (f ⟨c.toNat,hc⟩) r (by omega) (hk _ Ki) hr (by omega) hl
   obtain ⟨t',k1,k2,k3⟩:=Pc (d:=d') (f:=wE f ⟨c.toNat,hc⟩ x) (fun i hi=>by
    unfold wE at hi ⊢
    by_cases h:i=⟨c.toNat,hc⟩
    ·rw [if_pos h] at hi ⊢;exact g2.resolve_left hi
    ·rw [if_neg h] at hi ⊢;exact hk i hi) (by
    obtain ⟨a,b,hab,ha,hb⟩:=h2
    by_cases h:a=⟨c.toNat,hc⟩
    ·exact ⟨b,by unfold wE;rw [if_neg (fun e=>hab (by rw [h,e]))];exact hb⟩
    ·exact ⟨a,by unfold wE;rw [if_neg h];exact ha⟩) (by omega)
   refine ⟨t',up _ fun m hm=>?_, .inr k2,fun _=>k2.ne,fun s hs=>?_⟩
   ·unfold jJ
    have hi:idx (c::r) (0:Int)=c:=rfl
    rw [show (gq f).isNil=false from rfl,af rfl,show (gq f).at.bg=3 from rfl,decide_eq_false (by decide),cond_false,decide_eq_false (by decide),cond_false,af rfl]
    rw [List.length_cons,af (by omega),af (by omega),af rfl,hi,af (by omega),af (by omega)]
    rw [show (sub (c::r) (1:Int) ((r.length+1:Nat):Int))=r from nu (c::r) 1,show (gq f).at.b8=zS f from rfl,show (zS f).1=List.ofFn f from rfl,ve f _ hc,g1 m (by omega),Option.bind_some,af (by omega),yG f _ hc,k1]
    rfl
   ·rw [k3 s hs]
    obtain ⟨c',r',rfl,Uh,hr'⟩:=hs.xw
    rw [nW,nW,xW Uh]
    unfold wE
    by_cases h:c'=c
    ·subst h
     rw [if_pos rfl,g4 r' hr']
     by_cases h3:r'=r
     ·rw [if_pos h3,if_pos (by rw [h3])]
     ·rw [if_neg h3,if_neg (fun e=>h3 (by injection e))]
    ·rw [if_neg (fun e=>h (by rw [Fin.mk.injEq,UInt8.toNat_inj] at e;exact e)),if_neg (fun e=>h (by injection e))]
theorem Rs {d:Nat} {t:aa} {q:List UInt8} (ht:TW d t) (hq:PQ d q) (FG:d≤64) (hl:look t q≠none):∃ t',s9 t q=some t'∧TN d t'∧∀ s,PQ d s→look t' s=if s=q then none else look t s:=by
 obtain ⟨t',h1,h2,_,h3⟩:=MT (d+1) d t q (by omega) ht hq FG hl
 exact ⟨t',m8 (d+1) fun m hm=>h1 m (by omega),h2,h3⟩
end Go.Proofs.YtlfjfoknbjcncaaGreat.K
namespace Go.Proofs.YtlfjfoknbjcncaaGreat.K
open Go
set_option linter.unusedVariables false
set_option linter.unusedSimpArgs false
theorem Pd {v d:Nat} {l:List In} (h:WF v d l) (h2:2≤l.length) (h0:lE l=0):∃ a b:Nat,a<b∧b<16∧qR l a≠[]∧qR l b≠[]:=by
 have hd:0<d:=by have:=h.FP h2;omega
 have hl:l≠[]:=by intro e;rw [e] at h2;simp at h2
 have hm:idx l (0:Int)∈l:=fc l (i:=0) (by omega)
 have hex:∃ y∈l,(y.az.getD 0 0).toNat≠((idx l (0:Int)).az.getD 0 0).toNat:=by
  by_cases hc:∃ y∈l,(y.az.getD 0 0).toNat≠((idx l (0:Int)).az.getD 0 0).toNat
  ·exact hc
  ·exfalso
   have:1≤lE l:=JV hl fun x hx=>⟨by rw [h.len x hx];exact hd,Ue (by rw [h.len x hx];exact hd) (by unfold p0;rw [h.len _ hm];exact hd) (by
    by_cases e:(x.az.getD 0 0).toNat=((idx l (0:Int)).az.getD 0 0).toNat
    ·exact e
    ·exact absurd ⟨x,hx,e⟩ hc)⟩
   omega
 obtain ⟨y,hy,hne⟩:=hex
 have b1:=yA (h.KR _ hm) 0
 have b2:=yA (h.KR _ hy) 0
 have n1:qR l ((idx l (0:Int)).az.getD 0 0).toNat≠[]:=List.ne_nil_of_mem (List.mem_filter.2 ⟨hm,by simp⟩)
 have n2:qR l (y.az.getD 0 0).toNat≠[]:=List.ne_nil_of_mem (List.mem_filter.2 ⟨hy,by simp⟩)
 by_cases hlt:(y.az.getD 0 0).toNat<((idx l (0:Int)).az.getD 0 0).toNat
 ·exact ⟨_,_,hlt,b1,n2,n1⟩
 ·exact ⟨_,_,by omega,b2,n1,n2⟩
end Go.Proofs.YtlfjfoknbjcncaaGreat.K
namespace Go.Proofs.YtlfjfoknbjcncaaGreat.K
open Go
set_option linter.unusedVariables false
set_option linter.unusedSimpArgs false
structure WG (v d:Nat) (l:List In):Prop where
 wf:WF v d l
 ne:∀ x∈l,x.ay≠[]
theorem WG.H8 {v d:Nat} {l:List In} (h:WG v d l) (hd:0<d) (c:Nat):WG v (d-1) (rest (qR l c) 1) where
 wf:=h.wf.H8 hd c
 ne x hx:=by
  obtain ⟨y,hy,rfl⟩:=List.mem_map.1 hx
  exact h.ne y (List.mem_filter.1 hy).1
theorem WG.ext {v d:Nat} {l:List In} (h:WG v d l):WG v (d-lE l) (rest l (lE l)) where
 wf:=h.wf.ext
 ne x hx:=by
  obtain ⟨y,hy,rfl⟩:=List.mem_map.1 hx
  exact h.ne y hy
theorem AJ {v d:Nat} {l:List In} (h:WF v d l):iz l=su l:=by
 unfold iz
 rw [PO h];rfl
theorem EB:iz []=[]:=by
 rw [AJ (v:=0) (d:=0) ⟨by simp,by simp,by simp, .nil,Nat.zero_le _,Nat.zero_le _,Nat.zero_le _⟩];rfl
theorem Rt:lU []=[]:=rfl
theorem vf {v d:Nat} {l:List In} (h:WF v d l) (hl:l≠[]):1≤(iz l).length∧(iz l).length≤532+v:=by
 have h2:=W1 h hl
 rw [AJ h];unfold su
 rw [if_neg hl];exact ⟨h2.1,h2.2.1⟩
theorem Ui {v d:Nat} {l:List In} (h:WF v d l):(iz l).length≤532+v:=by
 by_cases hl:l=[]
 ·rw [hl,EB];simp
 ·exact (vf h hl).2
theorem Ic {s:List UInt8} (h:1≤s.length):lU s≠[]:=by
 intro e
 have e2:=congrArg List.length e
 unfold lU at e2
 split at e2
 ·rw [Bg] at e2;simp at e2
 ·simp at e2;rw [e2] at h;simp at h
theorem DM {l:List In} {n:Nat}:rest l n=[]↔l=[]:=by
 unfold rest;exact List.map_eq_nil_iff
theorem MU {v d:Nat} {l:List In} (h:WG v d l) (hl:l≠[]):∀ k∈(eU l).aT.1,k=[]∨∃ d' l',d'<d∧WG v d' l'∧k=lU (iz l'):=by
 intro k hk
 unfold eU at hk
 by_cases h1:l.length=1
 ·rw [if_pos h1] at hk
  exact .inl (List.eq_of_mem_replicate hk)
 ·rw [if_neg h1] at hk
  have hpos:0<l.length:=List.length_pos_iff.2 hl
  have hlt:=h.wf.FP (by omega)
  by_cases h2:0<lE l
  ·rw [if_pos h2] at hk
   rcases List.mem_or_eq_of_mem_set hk with hk | hk
   ·exact .inl (List.eq_of_mem_replicate hk)
   ·exact .inr ⟨_,_,by omega,h.ext,hk⟩
  ·rw [if_neg h2] at hk
   have hk:k∈(List.range 16).map fun c=>lU (iz (rest (qR l c) 1)):=hk
   obtain ⟨c,_,rfl⟩:=List.mem_map.1 hk
   exact .inr ⟨_,_,by omega,h.H8 (by omega) c,rfl⟩
theorem MV {α:Type} (p:α→Bool) (l:List α) (i j:Nat) (hij:i<j) (hj:j<l.length) (h1:p (l[i]'(by omega))=true) (h2:p l[j]=true):2≤(l.filter p).length:=by
 rw [← List.take_append_drop j l,List.filter_append,List.length_append]
 have a:1≤((l.take j).filter p).length:=List.length_pos_iff.2 (List.ne_nil_of_mem (List.mem_filter.2 ⟨List.mem_take_iff_getElem.2 ⟨i,by omega,rfl⟩,h1⟩))
 have b:1≤((l.drop j).filter p).length:=List.length_pos_iff.2 (List.ne_nil_of_mem (List.mem_filter.2 ⟨by rw [List.drop_eq_getElem_cons hj];exact List.mem_cons_self ..,h2⟩))
 omega
theorem KU {v d:Nat} {l:List In} (h:WG v d l) (hl:l≠[]):ox (eU l)=true:=by
 have hpos:0<l.length:=List.length_pos_iff.2 hl
 have h0:=fc l (i:=0) hpos
 unfold eU
 by_cases h1:l.length=1
 ·rw [if_pos h1]
  have hv:=h.wf.val _ h0
  have hn:=h.ne _ h0
  have ht:=h.wf.top
  have:yB ⟨1,p0 l,(idx l (0:Int)).ay,aE.rep 16 []⟩=0:=rfl
  unfold ox
  rw [this]
  show (((!((idx l (0:Int)).ay==[]))&&decide (((idx l (0:Int)).ay.length:Int)≤65552))&&true)=true
  have hv:(idx l (0:Int)).ay.length≤v:=hv
  rw [decide_eq_true (by omega)]
  have hn:(idx l (0:Int)).ay≠[]:=hn
  simpa using hn
 ·rw [if_neg h1]
  have hlt:=h.wf.FP (by omega)
  by_cases h2:0<lE l
  ·rw [if_pos h2]
   have he:=h.ext
   have hk:=Ic (vf he.wf (fun e=>hl (DM.1 e))).1
   have hp:=h.wf.len _ h0
   generalize lU (iz (rest l (lE l)))=k at hk ⊢
   have kc:yB ⟨2,(p0 l).take (lE l),[],(aE.rep 16 []).put 0 k⟩=1:=by
    unfold yB
    have:(((aE.rep 16 ([]:List UInt8)).put 0 k).1)=k::List.replicate 15 []:=rfl
    rw [this,List.filter_cons,if_pos (by simpa [wz] using hk)];rfl
   have hi:idx (((aE.rep 16 ([]:List UInt8)).put 0 k).1) (0:Int)=k:=rfl
   have KI:((p0 l).take (lE l)).length=lE l:=by
    have:(p0 l).length=d:=hp
    rw [List.length_take];omega
   unfold ox
   rw [kc]
   show (((true&&decide ((0:Int)<(((p0 l).take (lE l)).length:Int)))&&true)&&(!(idx (((aE.rep 16 ([]:List UInt8)).put 0 k).1) (0:Int)==[])))=true
   rw [hi,KI,decide_eq_true (p:=(0:Int)<(lE l:Int)) (by omega)]
   simpa using hk
  ·rw [if_neg h2]
   obtain ⟨a,b,hab,hb,na,nb⟩:=Pd h.wf (by omega) (by omega)
   have kc:2≤yB ⟨3,[],[],wC l⟩:=by
    unfold yB
    refine MV wz _ a b hab (by rw [(wC l).2];exact hb) ?_ ?_
    ·have:(wC l).1[a]'(by rw [(wC l).2];omega)=lU (iz (rest (qR l a) 1)):=by unfold wC;simp
     rw [this]
     simpa [wz] using Ic (vf (h.H8 (by omega) a).wf (fun e=>na (DM.1 e))).1
    ·have:(wC l).1[b]'(by rw [(wC l).2];omega)=lU (iz (rest (qR l b) 1)):=by unfold wC;simp
     rw [this]
     simpa [wz] using Ic (vf (h.H8 (by omega) b).wf (fun e=>nb (DM.1 e))).1
   unfold ox
   show ((true&&true)&&decide ((1:Int)<(yB ⟨3,[],[],wC l⟩:Int)))=true
   rw [decide_eq_true (p:=(1:Int)<_) (by omega)]
   rfl
def yes (_:List UInt8):Bool:=true
theorem zu {v d:Nat} {l:List In} (h:WG v d l) (hl:l≠[]):xq yes (eU l)=true:=by
 unfold xq
 rw [KU h hl,(vc h.wf hl).2.1]
 simp [yes]
theorem Ie {v d:Nat} {l:List In} (h:WG v d l) (hl:l≠[]) (hg:∀ k∈(eU l).aT.1,good k):uL (eU l)=cm (iP (eU l)):=by
 have h1:=Q5 yes (eU l) (zu h hl) hg (by have:=(vc h.wf hl).2.2.1;have:=h.wf.top;omega)
 rw [W0 h.wf hl] at h1
 exact Option.some.inj h1
theorem JZ (v:Nat):∀ (n d:Nat) (l:List In),d<n→WG v d l→good (lU (iz l))∧∀ m,d+1<m→dZ m (lU (iz l))=some true
 | 0,d,l,h,_=>by omega
 | n+1,d,l,hd,h=>by
  have ih:=JZ v n
  have up:∀ s,(s=[]∨s.length=32)→∀ m,d+1<m→dZ m s=some true:=by
   intro s hs m hm
   obtain ⟨m,rfl⟩:∃ k,m=k+1:=⟨m-1,by omega⟩
   show eO (dZ m) s=_
   unfold eO
   rw [KK hs,cond_true]
  by_cases hl:l=[]
  ·subst hl
   rw [EB,Rt]
   exact ⟨.inl rfl,up _ (.inl rfl)⟩
  ·have hk:∀ k∈(eU l).aT.1,good k∧∀ m,d+1≤m→dZ m k=some true:=by
    intro k hk
    rcases MU h hl k hk with rfl | ⟨d',l',h1,h2,rfl⟩
    ·refine ⟨.inl rfl,fun m hm=>?_⟩
     obtain ⟨m,rfl⟩:∃ k,m=k+1:=⟨m-1,by omega⟩
     show eO (dZ m) []=_
     unfold eO
     rw [KK (.inl rfl),cond_true]
    ·obtain ⟨g1,g2⟩:=ih d' l' (by omega) h2
     exact ⟨g1,fun m hm=>g2 m (by omega)⟩
   have hg:∀ k∈(eU l).aT.1,good k:=fun k hk'=>(hk k hk').1
   have e:iz l=cm (iP (eU l)):=by
    rw [AJ h.wf];unfold su
    rw [if_neg hl];exact Ie h hl hg
   have hlen:=vf h.wf hl
   have W3:=h.wf.top
   unfold lU
   by_cases Yd:32≤(iz l).length
   ·rw [if_pos Yd]
    exact ⟨.inr (.inl (Bg _)),up _ (.inr (Bg _))⟩
   ·rw [if_neg Yd]
    obtain ⟨o1,o2,o3,o4⟩:=vc h.wf hl
    obtain ⟨r1,r2,r3⟩:=Ev (eU l) hg (uZ o2).2 (by omega)
    refine ⟨.inr (.inr ⟨by omega,_,r1,e.symm,r3⟩),fun m hm=>?_⟩
    obtain ⟨m,rfl⟩:∃ k,m=k+1:=⟨m-1,by omega⟩
    have hn:=IK (zu h hl) hg
    show eO (dZ m) (iz l)=_
    have hG:rU (dZ m) (iz l)=some (eU l,0):=by
     have:=TY (x:=iP (eU l)) (s:=iz l) (self:=dZ m) (R:=yes) r1 e.symm (by omega) (by
      rw [hn];exact fun k hk'=>(hk k hk').2 m (by omega)) (by rw [hn];exact fun k hk' _=>hg k hk') (by rw [e];exact DA r1 (by omega) (by omega))
     rw [this,if_pos (HW.2 ⟨by rw [hn];exact zu h hl,by rw [hn];exact e.symm⟩),hn]
    exact Q6 _ (fun h0=>by rcases h0 with h0 | h0;(rw [h0] at hlen;simp at hlen);omega) hG (by rw [decide_eq_true (by omega)];rfl)
end Go.Proofs.YtlfjfoknbjcncaaGreat.K
namespace Go.Proofs.YtlfjfoknbjcncaaGreat.K
open Go
set_option linter.unusedVariables false
set_option linter.unusedSimpArgs false
theorem Ig {v d:Nat} {l:List In} (h:WG v d l) (hl:l≠[]):∀ k∈(eU l).aT.1,mG k=some true∧good k:=by
 intro k hk
 rcases MU h hl k hk with rfl | ⟨d',l',h1,h2,rfl⟩
 ·exact ⟨m8 1 fun m hm=>by
   obtain ⟨m,rfl⟩:∃ k,m=k+1:=⟨m-1,by omega⟩
   show eO (dZ m) []=_
   unfold eO
   rw [KK (.inl rfl),cond_true], .inl rfl⟩
 ·obtain ⟨g1,g2⟩:=JZ v (d'+1) d' l' (by omega) h2
  exact ⟨m8 (d'+2) fun m hm=>g2 m (by omega),g1⟩
theorem Uj {v d:Nat} {l:List In} (h:WG v d l) (hl:l≠[]):Ar (eU l)=some (iz l,0):=by
 obtain ⟨o1,o2,o3,o4⟩:=vc h.wf hl
 have W3:=h.wf.top
 have hp:=(uZ o2).2
 have:=MB mG yes (eU l) (fun k hk=>(Ig h hl k hk).1) (fun k hk _=>(Ig h hl k hk).2) (by omega) (by omega)
 rw [if_pos (zu h hl), ← Ie h hl (fun k hk=>(Ig h hl k hk).2)] at this
 rw [AJ h.wf];unfold su
 rw [if_neg hl];exact this
def pg (d:Nat) (t:aa) (l:List In):Prop:=∀ s w,PQ d s→(look t s=some w↔(⟨s,w⟩:In)∈l)
theorem In.eta (x:In):x=⟨x.az,x.ay⟩:=by cases x;rfl
theorem TW.has {d:Nat} {t:aa} (h:TW d t):∃ s w,PQ d s∧look t s=some w:=by
 induction h with
 | @leaf d p v hp=>exact ⟨p,v,hp,by rw [jt,if_pos rfl]⟩
 | @ext d e p f he tL EA _ ih=>
  obtain ⟨s,w,h1,h2⟩:=ih
  exact ⟨p++s,w,by rw [he,PQ.app];exact ⟨EA,h1⟩,by rw [jM,List.take_left,if_pos rfl,List.drop_left,h2]⟩
 | @br d e f he hk h2 ih=>
  obtain ⟨a,b,hab,ha,hb⟩:=h2
  obtain ⟨s,w,h1,h3⟩:=ih a ha
  have Uk:(UInt8.ofNat a.1).toNat=a.1:=by rw [UInt8.toNat_ofNat'];have:=a.2;omega
  refine ⟨UInt8.ofNat a.1::s,w,by rw [he,PQ.cons,Uk];exact ⟨a.2,h1⟩,?_⟩
  rw [nW,xW (by rw [Uk];exact a.2)]
  simp only [Uk]
  exact h3
theorem WF.PQ {v d:Nat} {l:List In} (h:WF v d l) {x:In} (hx:x∈l):K.PQ d x.az:=⟨h.len x hx,h.KR x hx⟩
theorem pg.mem {v d:Nat} {t:aa} {l:List In} (h:pg d t l) (hw:WF v d l) {x:In} (hx:x∈l):look t x.az=some x.ay:=
 (h x.az x.ay (hw.PQ hx)).2 (by rw [← In.eta];exact hx)
theorem J0 {v d:Nat} {l:List In} (hw:WF v d l) (h:pg d .nil l):l=[]:=by
 rw [List.eq_nil_iff_forall_not_mem]
 intro x hx
 have:=h.mem hw hx
 rw [n6] at this;cases this
theorem Ih {v d:Nat} {l:List In} {p w:List UInt8} (hw:WF v d l) (hp:PQ d p) (h:pg d (js p w) l):l=[⟨p,w⟩]:=by
 have hall:∀ x∈l,x=⟨p,w⟩:=by
  intro x hx
  have:=h.mem hw hx
  rw [jt] at this
  by_cases e:x.az=p
  ·rw [if_pos e] at this
   rw [In.eta x,e]
   exact congrArg _ (Option.some.inj this).symm
  ·rw [if_neg e] at this;cases this
 have hin:(⟨p,w⟩:In)∈l:=(h p w hp).1 (by rw [jt,if_pos rfl])
 cases l with
 | nil=>cases hin
 | cons x r=>
  rw [hall x (List.mem_cons_self ..)]
  cases r with
  | nil=>rfl
  | cons y r=>
   exfalso
   have:=(List.pairwise_cons.1 hw.nd).1 y (List.mem_cons_self ..)
   rw [hall x (List.mem_cons_self ..),hall y (List.mem_cons_of_mem _ (List.mem_cons_self ..))] at this
   exact this rfl
theorem Ru {v d:Nat} {l:List In} {a b:In} (ha:a∈l) (hb:b∈l) (hne:a≠b):2≤l.length:=by
 cases l with
 | nil=>cases ha
 | cons x r=>cases r with
  | nil=>
   rw [List.mem_singleton] at ha hb
   exact absurd (ha.trans hb.symm) hne
  | cons y q=>simp
theorem PR {d:Nat} {f:Fin 16→aa} (h:TW d (gq f)):∃ a b s r w z,(a:UInt8)≠b∧PQ d (a::s)∧PQ d (b::r)∧look (gq f) (a::s)=some w∧look (gq f) (b::r)=some z:=by
 generalize e:gq f=t at h
 cases h with
 | leaf _=>cases e
 | ext _ _ _ _=>cases e
 | @br d' _ g he hk h2=>
  have hg:f=g:=by unfold gq at e;injection e
  subst hg
  obtain ⟨a,b,hab,ha,hb⟩:=h2
  obtain ⟨s,w,h1,h2⟩:=(hk a ha).has
  obtain ⟨r,z,h3,h4⟩:=(hk b hb).has
  have WI:(UInt8.ofNat a.1).toNat=a.1:=by rw [UInt8.toNat_ofNat'];have:=a.2;omega
  have WJ:(UInt8.ofNat b.1).toNat=b.1:=by rw [UInt8.toNat_ofNat'];have:=b.2;omega
  refine ⟨UInt8.ofNat a.1,UInt8.ofNat b.1,s,r,w,z,fun e=>hab (Fin.ext (by rw [← WI, ← WJ,e])),by rw [he,PQ.cons,WI];exact ⟨a.2,h1⟩,by rw [he,PQ.cons,WJ];exact ⟨b.2,h3⟩,?_,?_⟩
  ·rw [nW,xW (by rw [WI];exact a.2)];simp only [WI];exact h2
  ·rw [nW,xW (by rw [WJ];exact b.2)];simp only [WJ];exact h4
theorem KV {v d:Nat} {l:List In} (hw:WF v d l) {p s r w z:List UInt8} {a b:UInt8} (hne:a≠b) (h1:(⟨p++a::s,w⟩:In)∈l) (h2:(⟨p++b::r,z⟩:In)∈l) (hall:∀ x∈l,x.az.take p.length=p):lE l=p.length∧(p0 l).take p.length=p∧2≤l.length:=by
 have hl:l≠[]:=List.ne_nil_of_mem h1
 have h0:=fc l (i:=0) (List.length_pos_iff.2 hl)
 have tL:(p0 l).take p.length=p:=hall _ h0
 have hlen:∀ x∈l,p.length≤x.az.length:=by
  intro x hx
  have:=congrArg List.length (hall x hx)
  rw [List.length_take] at this;omega
 have hge:p.length≤lE l:=JV hl fun x hx=>⟨hlen x hx,by rw [hall x hx,tL]⟩
 have hle:lE l≤p.length:=by
  refine Nat.le_of_not_lt fun hlt=>hne ?_
  have e1:=(qQ h1).2.trans (qQ h2).2.symm
  have e2:=congrArg (List.take (p.length+1)) e1
  rw [List.take_take,List.take_take,Nat.min_eq_left (by omega)] at e2
  have e3:∀ (c:UInt8) (u:List UInt8),(p++c::u).take (p.length+1)=p++[c]:=by
   intro c u
   rw [List.take_append,List.take_of_length_le (by omega),show p.length+1-p.length=1 by omega];rfl
  have e2:(p++a::s).take (p.length+1)=(p++b::r).take (p.length+1):=e2
  rw [e3,e3] at e2
  have:=List.append_cancel_left e2
  injection this
 refine ⟨by omega,tL,Ru (v:=v) (d:=d) h1 h2 fun e=>hne ?_⟩
 have:=congrArg In.az e
 have:=List.append_cancel_left this
 injection this
theorem J4 {v d d':Nat} {l:List In} {p:List UInt8} {f:Fin 16→aa} (hw:WF v d l) (he:d=p.length+d') (tL:p≠[]) (EA:right p=true) (hb:TW d' (gq f)) (h:pg d (lV p (gq f)) l):
  lE l=p.length∧(p0 l).take p.length=p∧2≤l.length∧pg d' (gq f) (rest l p.length):=by
 have hall:∀ x∈l,x.az.take p.length=p:=by
  intro x hx
  have:=h.mem hw hx
  rw [jM] at this
  by_cases e:x.az.take p.length=p
  ·exact e
  ·rw [if_neg e] at this;cases this
 have hin:∀ s w,PQ d' s→(look (gq f) s=some w↔(⟨p++s,w⟩:In)∈l):=by
  intro s w hs
  rw [← h (p++s) w (by rw [he,PQ.app];exact ⟨EA,hs⟩),jM,List.take_left,if_pos rfl,List.drop_left]
 obtain ⟨a,b,s,r,w,z,hne,q1,q2,k1,k2⟩:=PR hb
 obtain ⟨c1,c2,c3⟩:=KV hw hne ((hin _ _ q1).1 k1) ((hin _ _ q2).1 k2) hall
 refine ⟨c1,c2,c3,fun s w hs=>?_⟩
 rw [hin s w hs]
 unfold rest
 rw [List.mem_map]
 constructor
 ·intro hm
  exact ⟨_,hm,by simp⟩
 ·rintro ⟨x,hx,e⟩
  injection e with e1 e2
  have Iy:x=⟨p++s,w⟩:=by
   rw [In.eta x, ← List.take_append_drop p.length x.az,hall x hx,e1,e2]
  rw [← Iy];exact hx
theorem MW {v d:Nat} {l:List In} {f:Fin 16→aa} (hw:WF v (d+1) l) (hb:TW (d+1) (gq f)) (h:pg (d+1) (gq f) l):
  lE l=0∧2≤l.length∧∀ c (hc:c<16),pg d (f ⟨c,hc⟩) (rest (qR l c) 1):=by
 obtain ⟨a,b,s,r,w,z,hne,q1,q2,k1,k2⟩:=PR hb
 obtain ⟨c1,c2,c3⟩:=KV (p:=[]) hw hne ((h _ _ q1).1 k1) ((h _ _ q2).1 k2) (fun x _=>rfl)
 refine ⟨c1,c3,fun c hc s w hs=>?_⟩
 have Ul:(UInt8.ofNat c).toNat=c:=by rw [UInt8.toNat_ofNat'];omega
 have:=h (UInt8.ofNat c::s) w (by rw [PQ.cons,Ul];exact ⟨hc,hs⟩)
 rw [nW,xW (by rw [Ul];exact hc)] at this
 simp only [Ul] at this
 rw [this]
 unfold rest
 rw [List.mem_map]
 constructor
 ·intro hm
  exact ⟨_,List.mem_filter.2 ⟨hm,by simp [Ul]⟩,rfl⟩
 ·rintro ⟨x,hx,e⟩
  injection e with e1 e2
  obtain ⟨hx1,Iy⟩:=List.mem_filter.1 hx
  obtain ⟨c',r',e3,_,_⟩:=(hw.PQ hx1).xw
  rw [decide_eq_true_eq,e3] at Iy
  have Uh:c'=UInt8.ofNat c:=UInt8.toNat_inj.1 (by rw [Ul];exact Iy)
  rw [e3] at e1
  have hx3:x=⟨UInt8.ofNat c::s,w⟩:=by
   rw [In.eta x,e3,e2,Uh, ← e1];rfl
  rw [← hx3];exact hx1
theorem EC (self:Tree→Option (List UInt8)) (k:Int) (p v r:List UInt8) (f:Fin 16→aa) (g:Nat→List UInt8) (hp:p.length≤1000000) (hs:∀ c (h:c<16),self ⟨f ⟨c,h⟩⟩=some (g c)):
  gu self (.node k p v f r)=some ⟨k,p,v,wD g 16⟩:=by
 refine cN (Comes.next (c':= .L1 ((0:Nat):Int) p (wD g 0)) ?_ ?_)
 ·simp only [ij]
  rw [show (aa.node k p v f r).isNil=false from rfl,af rfl,af rfl,show (aa.node k p v f r).at.bD=p from rfl,Ey p hp,Option.bind_some,af rfl,af rfl,PN]
  rfl
 ·refine Comes.upto (fun i=>rX.L1 (i:Int) p (wD g i)) 16 (fun i hi=>?_) (Comes.stop ?_)
  ·simp only [ij]
   rw [decide_eq_true (by omega),cond_true,af (by omega),show (aa.node k p v f r).at.b8.1=List.ofFn f from rfl,ve f i hi,hs i hi,Option.bind_some,af (by omega),af (by unfold bA;omega),JX g hi]
   rfl
  ·simp only [ij]
   rw [decide_eq_false (by omega),cond_false]
   rfl
theorem Rv:wD (fun _=>[]) 16=aE.rep 16 []:=Subtype.ext rfl
theorem Rw (k:List UInt8):wD (fun c=>if c=0 then k else []) 16=(aE.rep 16 []).put 0 k:=Subtype.ext rfl
def Kt (self:Tree→Option (List UInt8)) (v d:Nat):Prop:=self ⟨.nil⟩=some []∧∀ d' t' l',d'<d→TN d' t'→WG v d' l'→pg d' t' l'→self ⟨t'⟩=some (lU (iz l'))
theorem MX {self:Tree→Option (List UInt8)} {v d:Nat} {t:aa} {l:List In} (hk:Kt self v d) (ht:TW d t) (hw:WG v d l) (hs:pg d t l):gu self t=some (eU l)∧l≠[]∧t.at.bg≠ -1:=by
 obtain ⟨W4,hk⟩:=hk
 cases ht with
 | @leaf _ p w hp=>
  have hl:=Ih hw.wf hp hs
  have KI:=hp.1
  have W2:=hw.wf.dep
  refine ⟨?_,by rw [hl];simp,show (1:Int)≠ -1 by decide⟩
  have:=EC self 1 p w [] (fun _=> .nil) (fun _=>[]) (by omega) (fun c h=>W4)
  rw [show gu self (js p w)=some ⟨1,p,w,wD (fun _=>[]) 16⟩ from this,Rv,hl]
  rfl
 | @ext d' _ p f he tL EA hb=>
  obtain ⟨c1,c2,c3,c4⟩:=J4 hw.wf he tL EA hb hs
  have LI:0<p.length:=List.length_pos_iff.2 tL
  have W2:=hw.wf.dep
  have hwk:WG v d' (rest l p.length):=by
   have:=hw.ext
   rw [c1,show d-p.length=d' by omega] at this
   exact this
  have r1:=hk d' (gq f) (rest l p.length) (by omega) (.inr hb) hwk c4
  refine ⟨?_,(by intro e;rw [e] at c3;simp at c3),show (2:Int)≠ -1 by decide⟩
  have:=EC self 2 p [] [] (one (gq f)) (fun c=>if c=0 then lU (iz (rest l p.length)) else []) (by omega) (fun c h=>by
   by_cases h0:c=0
   ·subst h0
    exact r1
   ·unfold one
    rw [if_neg (fun e=>h0 (by have:=congrArg Fin.val e;exact this)),if_neg h0]
    exact W4)
  rw [show gu self (lV p (gq f))=_ from this,Rw]
  unfold eU
  rw [if_neg (by omega),if_pos (by omega),c1,c2]
 | @br d' _ f he hkk h2=>
  subst he
  have hb:TW (d'+1) (gq f):= .br rfl hkk h2
  obtain ⟨c1,c2,c3⟩:=MW hw.wf hb hs
  refine ⟨?_,(by intro e;rw [e] at c2;simp at c2),show (3:Int)≠ -1 by decide⟩
  have:=EC self 3 [] [] [] f (fun c=>lU (iz (rest (qR l c) 1))) (by simp) (fun c h=>hk d' (f ⟨c,h⟩) (rest (qR l c) 1) (by omega) (TN.H8 hkk _) (hw.H8 (by omega) c) (c3 c h))
  rw [show gu self (gq f)=_ from this]
  unfold eU
  rw [if_neg (by omega),if_neg (by omega)]
  exact congrArg (fun x=>some (⟨3,[],[],x⟩:Node)) (Subtype.ext (MM _))
theorem PS {self:Tree→Option (List UInt8)} {v d:Nat} {t:aa} {l:List In} (hk:Kt self v d) (ht:TN d t) (hw:WG v d l) (hs:pg d t l):jK self ⟨t⟩=some (iz l)∧mK self ⟨t⟩=some (lU (iz l)):=by
 rcases ht with rfl | ht
 ·have hl:=J0 hw.wf hs
  subst hl
  rw [EB]
  exact ⟨rfl,rfl⟩
 ·obtain ⟨h1,h2,h3⟩:=MX hk ht hw hs
  have hn:=ht.isNil
  have hE:jK self ⟨t⟩=some (iz l):=by
   unfold jK
   show gO (t.isNil=false→t.isNil=false) (bif t.isNil||decide (t.at.bg= -1) then _ else _)=_
   rw [af (fun h=>h),hn,decide_eq_false h3]
   show (gu self t).bind _=_
   rw [h1,Option.bind_some,Uj hw h2]
   rfl
  refine ⟨hE,?_⟩
  unfold mK
  have hle:=Ui hw.wf
  have W3:=hw.wf.top
  show gO ((!t.isNil)=true→t.isNil=false) (bif (!t.isNil)&&decide (t.at.bg= -1) then _ else _)=_
  rw [af (by intro _;exact hn),decide_eq_false h3,Bool.and_false,cond_false,hE,Option.bind_some,Ro _ (by omega)]
  rfl
theorem MY:∀ m,0<m→jo m ⟨.nil⟩=some []:=by
 intro m hm
 obtain ⟨m,rfl⟩:∃ k,m=k+1:=⟨m-1,by omega⟩
 rfl
theorem MZ (v:Nat):∀ (n d:Nat),d<n→∀ (t:aa) (l:List In),TN d t→WG v d l→pg d t l→∀ m,d+1<m→jo m ⟨t⟩=some (lU (iz l))
 | 0,d,h,_,_,_,_,_=>by omega
 | n+1,d,hd,t,l,ht,hw,hs=>by
  intro m hm
  obtain ⟨m,rfl⟩:∃ k,m=k+1:=⟨m-1,by omega⟩
  exact (PS (self:=jo m) ⟨MY m (by omega),fun d' t' l' hd' a b c=>MZ v n d' (by omega) t' l' a b c m (by omega)⟩ ht hw hs).2
theorem M0 {v d:Nat} {t:aa} {l:List In} (ht:TN d t) (hw:WG v d l) (hs:pg d t l):jy ⟨t⟩=some (lU (iz l)):=m8 (d+2) fun m hm=>MZ v (d+1) d (by omega) t l ht hw hs m (by omega)
theorem PT (v d:Nat):Kt jy v d:=⟨m8 1 fun m hm=>MY m (by omega),fun d' t' l' _ a b c=>M0 a b c⟩
theorem Um {v d:Nat} {t:aa} {l:List In} (ht:TN d t) (hw:WG v d l) (hs:pg d t l):kf ⟨t⟩=some (iz l):=(PS (PT v d) ht hw hs).1
theorem Rx {v d:Nat} {t:aa} {l:List In} (ht:TW d t) (hw:WG v d l) (hs:pg d t l):ov t=some (eU l)∧l≠[]:=by
 obtain ⟨h1,h2,_⟩:=MX (PT v d) ht hw hs
 exact ⟨h1,h2⟩
end Go.Proofs.YtlfjfoknbjcncaaGreat.K
namespace Go.Proofs.YtlfjfoknbjcncaaGreat.K
open Go
set_option linter.unusedVariables false
set_option linter.unusedSimpArgs false
theorem Ry (k:aE 32 UInt8):xM k=some (dz k.1):=by
 have hk:k.1.length=32:=k.2
 have hl:(dz k.1).length=64:=by rw [qL,hk]
 refine cN (Comes.next (c':= .L1 ((dz k.1).take 0) ((0:Nat):Int)) (by simp only [kg];rfl) ?_)
 refine Comes.upto (fun i=>xL.L1 ((dz k.1).take i) (i:Int)) 64 (fun i hi=>?_) (Comes.stop ?_)
 ·have e1:(i:Int).tdiv 2=((i/2:Nat):Int):=by rw [Int.tdiv_eq_ediv_of_nonneg (by omega)];omega
  have e2:(i:Int).tmod 2=((i%2:Nat):Int):=by rw [Int.tmod_eq_emod_of_nonneg (by omega)];omega
  have e3:((dz k.1).take i).length≤64:=by rw [List.length_take];omega
  have e4:idx k.1 ((i/2:Nat):Int)=k.1.getD (i/2) 0:=gZ _ _
  simp only [kg]
  rw [decide_eq_true (by omega),cond_true,e1,af ⟨by omega,by unfold bA;omega⟩,af (by omega),e2,e4]
  by_cases h:i%2=0
  ·rw [decide_eq_true (by omega),cond_true,Option.bind_some,af (by simp only [List.length_singleton];omega),af (by unfold bA;omega),OW _ i h (by omega)]
   rfl
  ·rw [decide_eq_false (by omega),cond_false,Option.bind_some,af (by simp only [List.length_singleton];omega),af (by unfold bA;omega),Q1 _ i (by omega) (by omega)]
   rfl
 ·simp only [kg]
  rw [decide_eq_false (by omega),cond_false,List.take_of_length_le (by omega)]
def AK (r:List bt) (x:bt):Bool:=r.all fun y=> !(y.bQ.1==x.bQ.1)
def nv:List bt→List In
 | []=>[]
 | x::r=>(if AK r x=true then [⟨dz x.bQ.1,x.ay⟩] else [])++nv r
theorem J5:∀ l:List bt,(nv l).length≤l.length
 | []=>Nat.le_refl _
 | x::r=>by
  have:=J5 r
  rw [nv,List.length_append,List.length_cons]
  split
  ·rw [List.length_singleton];omega
  ·rw [List.length_nil];omega
theorem vg:∀ (l:List bt) (y:In),y∈nv l→∃ x∈l,y=⟨dz x.bQ.1,x.ay⟩
 | [],y,h=>by simp [nv] at h
 | x::r,y,h=>by
  rw [nv] at h
  rcases List.mem_append.1 h with h | h
  ·split at h
   ·exact ⟨x,List.mem_cons_self ..,List.mem_singleton.1 h⟩
   ·simp at h
  ·obtain ⟨z,hz,e⟩:=vg r y h
   exact ⟨z,List.mem_cons_of_mem _ hz,e⟩
theorem M1:∀ l:List bt,(nv l).Pairwise fun x y=>x.az≠y.az
 | []=>List.Pairwise.nil
 | x::r=>by
  have ih:=M1 r
  rw [nv]
  split
  ·rename_i h
   rw [List.singleton_append,List.pairwise_cons]
   refine ⟨fun y hy e=>?_,ih⟩
   obtain ⟨z,hz,rfl⟩:=vg r y hy
   have h1:=List.all_eq_true.1 h z hz
   have h2:x.bQ.1=z.bQ.1:=by
    have:=congrArg fo (show dz x.bQ.1=dz z.bQ.1 from e)
    rwa [si,si] at this
   rw [h2] at h1
   simp at h1
  ·exact ih
theorem WK (l:List bt) (hn:l.length≤1000):zf l=some (nv l):=by
 have inner:∀ (acc:List In) (i:Nat) (R:List In),i<l.length→∀ (k j:Nat) (b:Bool),k+j=l.length→Comes (dw l) (.L3 acc (i:Int) (b&&AK (l.drop j) (idx l (i:Int))) ((l.length:Nat):Int)) R→Comes (dw l) (.L3 acc (i:Int) b (j:Int)) R:=by
  intro acc i R hi k
  induction k with
  | zero=>
   intro j b hj h
   have:j=l.length:=by omega
   subst this
   rw [List.drop_length] at h
   rw [show (b&&AK [] (idx l (i:Int)))=b by simp [AK]] at h
   exact h
  | succ k ih=>
   intro j b hj h
   have hj2:j<l.length:=by omega
   refine Comes.next (c':= .L3 acc (i:Int) (b&& !((idx l (j:Int)).bQ.1==(idx l (i:Int)).bQ.1)) ((j+1:Nat):Int)) ?_ (ih (j+1) _ (by omega) ?_)
   ·simp only [dw]
    rw [decide_eq_true (by omega),cond_true,af (fun _=>by omega),af (fun _=>by omega),af (by unfold bA;omega)]
    rfl
   ·rw [nr l hj2] at h
    rw [Bool.and_assoc]
    exact h
 have main:∀ (k i:Nat) (acc:List In),k+i=l.length→acc.length≤i→Comes (dw l) (.L1 acc (i:Int)) (acc++nv (l.drop i)):=by
  intro k
  induction k with
  | zero=>
   intro i acc hi ha
   refine Comes.stop ?_
   simp only [dw]
   rw [decide_eq_false (by omega),cond_false,List.drop_eq_nil_of_le (by omega),nv,List.append_nil]
  | succ k ih=>
   intro i acc hi ha
   have hi2:i<l.length:=by omega
   refine Comes.next (c':= .L3 acc (i:Int) true ((i+1:Nat):Int)) ?_ (inner acc i _ hi2 (l.length-(i+1)) (i+1) true (by omega) ?_)
   ·simp only [dw]
    rw [decide_eq_true (by omega),cond_true,af (by unfold bA;omega)]
    rfl
   ·rw [Bool.true_and,nr l hi2,nv]
    have J:∀ a:List In,a.length≤i+1→Comes (dw l) (.J2 a (i:Int)) (a++nv (l.drop (i+1))):=by
     intro a h
     refine Comes.next (c':= .L1 a ((i+1:Nat):Int)) ?_ (ih (i+1) a (by omega) h)
     simp only [dw]
     rw [af (by unfold bA;omega)]
     rfl
    cases hb:AK (l.drop (i+1)) (idx l (i:Int)) with
    | true=>
     have:=J (acc++[⟨dz (idx l (i:Int)).bQ.1,(idx l (i:Int)).ay⟩]) (by simp;omega)
     rw [List.append_assoc] at this
     refine Comes.next ?_ (by rw [if_pos rfl];exact this)
     simp only [dw]
     rw [decide_eq_false (by omega),cond_false,cond_true,af (by omega),Ry,Option.bind_some,af (by omega),af (by simp only [List.length_singleton];omega)]
    | false=>
     have:=J acc (by omega)
     refine Comes.next ?_ (by rw [if_neg (by simp),List.nil_append];exact this)
     simp only [dw]
     rw [decide_eq_false (by omega),cond_false,cond_false]
 exact cN (Comes.next (by simp only [dw];rfl) (main l.length 0 [] rfl (Nat.le_refl _)))
end Go.Proofs.YtlfjfoknbjcncaaGreat.K
namespace Go.Proofs.YtlfjfoknbjcncaaGreat.K
open Go
set_option linter.unusedVariables false
set_option linter.unusedSimpArgs false
theorem Bk (k:aE 32 UInt8):PQ 64 (dz k.1):=⟨by rw [qL,k.2],zj _⟩
theorem Pe {a b:List UInt8} (h:dz a=dz b):a=b:=by
 have:=congrArg fo h
 rwa [si,si] at this
theorem key_inj {a b:aE 32 UInt8} (h:dz a.1=dz b.1):a=b:=Subtype.ext (Pe h)
def keyOf (s:List UInt8) (h:PQ 64 s):aE 32 UInt8:=⟨fo s,by rw [rB,h.1]⟩
theorem J6 {s:List UInt8} (h:PQ 64 s):dz (keyOf s h).1=s:=u0 s (by rw [h.1]) h.2
def jU:List bt→aE 32 UInt8→Option (List UInt8)
 | [],_=>none
 | x::r,k=>match jU r k with
  | some w=>some w
  | none=>if x.bQ=k then some x.ay else none
theorem J7 (l:List bt) (x:bt) (k:aE 32 UInt8):jU (l++[x]) k=if x.bQ=k then some x.ay else jU l k:=by
 induction l with
 | nil=>rfl
 | cons y r ih=>
  show (match jU (r++[x]) k with | some w=>some w | none=>_)=_
  rw [ih]
  by_cases h:x.bQ=k
  ·rw [if_pos h,if_pos h]
  ·rw [if_neg h,if_neg h];rfl
def wI (l:List bt) (k:aE 32 UInt8):List bt:=l.filter fun x=> !(x.bQ.1==k.1)
theorem Ii {a b:aE 32 UInt8}:(a.1==b.1)=decide (a=b):=by
 rw [Bool.eq_iff_iff,beq_iff_eq,decide_eq_true_eq]
 exact ⟨fun h=>Subtype.ext h,fun h=>by rw [h]⟩
theorem M3 (l:List bt) (k j:aE 32 UInt8):jU (wI l k) j=if j=k then none else jU l j:=by
 induction l with
 | nil=>unfold wI;simp [jU]
 | cons x r ih=>
  unfold wI at ih ⊢
  rw [List.filter_cons]
  by_cases h:x.bQ=k
  ·rw [if_neg (by rw [Ii,decide_eq_true h];decide),ih]
   by_cases h2:j=k
   ·rw [if_pos h2,if_pos h2]
   ·rw [if_neg h2,if_neg h2]
    show _=match jU r j with | some w=>some w | none=>_
    rw [if_neg (fun e=>h2 (e.symm.trans h))]
    cases jU r j<;>rfl
  ·rw [if_pos (by rw [Ii,decide_eq_false h];rfl)]
   show (match jU (r.filter _) j with | some w=>some w | none=>_)=_
   rw [ih]
   by_cases h2:j=k
   ·rw [if_pos h2,if_pos h2]
    simp only
    rw [if_neg (fun e=>h (e.trans h2))]
   ·rw [if_neg h2,if_neg h2];rfl
theorem wF:∀ (l:List bt) (k:aE 32 UInt8),jU l k=none↔∀ x∈l,x.bQ≠k
 | [],k=>by simp [jU]
 | x::r,k=>by
  have ih:=wF r k
  show (match jU r k with | some w=>some w | none=>_)=none↔_
  cases h:jU r k with
  | some w=>
   rw [h] at ih
   simp only [List.mem_cons,forall_eq_or_imp]
   constructor
   ·intro e;cases e
   ·intro e;exact absurd (ih.2 e.2) (by simp)
  | none=>
   simp only [List.mem_cons,forall_eq_or_imp]
   by_cases h2:x.bQ=k
   ·rw [if_pos h2]
    constructor
    ·intro e;cases e
    ·intro e;exact absurd h2 e.1
   ·rw [if_neg h2]
    exact ⟨fun _=>⟨h2,ih.1 h⟩,fun _=>rfl⟩
theorem Bl:∀ (l:List bt) (k:aE 32 UInt8) (w:List UInt8),(⟨dz k.1,w⟩:In)∈nv l↔jU l k=some w
 | [],k,w=>by simp [nv,jU]
 | x::r,k,w=>by
  have ih:=Bl r k w
  have hl:AK r x=true↔jU r x.bQ=none:=by
   rw [wF]
   unfold AK
   rw [List.all_eq_true]
   constructor
   ·intro h y hy e
    have:=h y hy
    rw [Ii,decide_eq_true e] at this;cases this
   ·intro h y hy
    rw [Ii,decide_eq_false (h y hy)];rfl
  rw [nv,List.mem_append,ih]
  show _↔(match jU r k with | some w=>some w | none=>_)=some w
  by_cases hx:x.bQ=k
  ·subst hx
   cases h:jU r x.bQ with
   | some z=>
    rw [if_neg (by rw [hl,h];simp)]
    simp
   | none=>
    rw [if_pos (hl.2 h),if_pos rfl]
    simp only [List.mem_singleton,In.mk.injEq,true_and,reduceCtorEq,or_false,Option.some.injEq]
    exact ⟨fun e=>e.symm,fun e=>e.symm⟩
  ·have hn:¬ (⟨dz k.1,w⟩:In)∈(if AK r x=true then [(⟨dz x.bQ.1,x.ay⟩:In)] else []):=by
    split
    ·rw [List.mem_singleton,In.mk.injEq]
     exact fun e=>hx (key_inj e.1).symm
    ·simp
   rw [if_neg hx]
   constructor
   ·intro h
    rw [h.resolve_left hn]
   ·intro h
    refine .inr ?_
    revert h
    cases jU r k with
    | some z=>exact fun h=>h
    | none=>exact fun h=>h
theorem KW (v:Nat) (l:List bt) (hn:l.length≤64) (hv:∀ x∈l,x.ay≠[]∧x.ay.length≤v) (Un:v≤200):WG v 64 (nv l) where
 wf:={
  len:=fun x hx=>by
   obtain ⟨y,hy,rfl⟩:=vg l x hx
   exact (Bk y.bQ).1
  KR:=fun x hx=>by
   obtain ⟨y,hy,rfl⟩:=vg l x hx
   exact zj _
  val:=fun x hx=>by
   obtain ⟨y,hy,rfl⟩:=vg l x hx
   exact (hv y hy).2
  nd:=M1 l
  cnt:=Nat.le_trans (J5 l) hn
  dep:=Nat.le_refl _
  top:=Un}
 ne x hx:=by
  obtain ⟨y,hy,rfl⟩:=vg l x hx
  exact (hv y hy).1
structure qh (t:aa) (m:List bt):Prop where
 tn:TN 64 t
 val:∀ k,look t (dz k.1)=jU m k
theorem qh.same {t:aa} {m:List bt} (h:qh t m):pg 64 t (nv m):=by
 intro s w hs
 rw [← J6 hs,h.val,Bl]
theorem qh.nil:qh .nil []:=⟨.inl rfl,fun k=>by rw [n6];rfl⟩
theorem qh.empty {t:aa} {m:List bt} (h:qh t m):t.isNil=decide (m=[]):=by
 rw [Bool.eq_iff_iff,zq,decide_eq_true_eq]
 constructor
 ·intro e
  subst e
  rw [List.eq_nil_iff_forall_not_mem]
  intro x hx
  have:=h.val x.bQ
  rw [n6] at this
  exact (wF m x.bQ).1 this.symm x hx rfl
 ·intro e
  subst e
  rcases h.tn with h1 | h1
  ·exact h1
  ·obtain ⟨s,w,h2,h3⟩:=h1.has
   have:=h.val (keyOf s h2)
   rw [J6,h3] at this
   cases this
theorem Rz (t:aa) (k:aE 32 UInt8):jx ⟨t⟩ k []=some (⟨.nil⟩,2):=rfl
theorem M4 {t:aa} {m:List bt} {k:aE 32 UInt8} {v:List UInt8} (h:qh t m) (hv:v≠[]) (hl:v.length≤65552):∃ t',jx ⟨t⟩ k v=some (⟨t'⟩,0)∧TW 64 t'∧∀ s,PQ 64 s→look t' s=if s=dz k.1 then some v else look t s:=by
 obtain ⟨t',h1,h2,h3⟩:=Rp v h.tn (Bk k) (Nat.le_refl _)
 refine ⟨t',?_,h2,h3⟩
 unfold jx
 rw [show (v==([]:List UInt8))=false from beq_eq_false_iff_ne.2 hv,decide_eq_false (by omega),Bool.or_self,cond_false,Ez,Option.bind_some,h1]
 rfl
theorem qh.put {t t':aa} {m:List bt} {k:aE 32 UInt8} {v:List UInt8} (h:qh t m) (h2:TW 64 t') (h3:∀ s,PQ 64 s→look t' s=if s=dz k.1 then some v else look t s) (m':List bt) (hm:∀ j,jU m' j=if j=k then some v else jU m j):qh t' m' where
 tn:= .inr h2
 val j:=by
  rw [h3 _ (Bk j),hm,h.val]
  by_cases e:j=k
  ·rw [if_pos e,if_pos (by rw [e])]
  ·rw [if_neg e,if_neg (fun e2=>e (key_inj e2))]
theorem DN {t:aa} {m:List bt} (k:aE 32 UInt8) (h:qh t m):iH ⟨t⟩ k=some (match jU m k with | some w=>(w,0) | none=>([],7)):=by
 obtain ⟨v,b,h1,h2⟩:=Rq h.tn (Bk k) (Nat.le_refl _)
 rw [h.val] at h2
 unfold iH
 rw [Ez,Option.bind_some,h1,Option.bind_some,h2]
 cases b<;>rfl
theorem Uo {t:aa} {m:List bt} {k:aE 32 UInt8} (h:qh t m) (hn:jU m k=none):gN ⟨t⟩ k=some (⟨.nil⟩,7):=by
 unfold gN
 rw [DN k h,hn];rfl
theorem M5 {t:aa} {m:List bt} {k:aE 32 UInt8} {w:List UInt8} (h:qh t m) (hn:jU m k=some w):∃ t',gN ⟨t⟩ k=some (⟨t'⟩,0)∧qh t' (wI m k):=by
 have hl:look t (dz k.1)≠none:=by rw [h.val,hn];simp
 rcases h.tn with rfl | ht
 ·rw [n6] at hl;exact absurd rfl hl
 ·obtain ⟨t',h1,h2,h3⟩:=Rs ht (Bk k) (Nat.le_refl _) hl
  refine ⟨t',?_,h2,fun j=>?_⟩
  ·unfold gN
   rw [DN k h,hn,Option.bind_some]
   show (q7 k).bind _=_
   rw [Ez,Option.bind_some,h1];rfl
  ·rw [h3 _ (Bk j),M3,h.val]
   by_cases e:j=k
   ·rw [if_pos e,if_pos (by rw [e])]
   ·rw [if_neg e,if_neg (fun e2=>e (key_inj e2))]
theorem PU (l:List bt) (hn:l.length≤1000000) (hv:∀ x∈l,x.ay≠[]∧x.ay.length≤65552):∃ t,s6 l=some ⟨t⟩∧qh t l:=by
 have main:∀ (k i:Nat) (t:aa),k+i=l.length→qh t (l.take i)→∀ u,∃ t',Comes (lB l) (.L1 (i:Int) u t) ⟨t'⟩∧qh t' l:=by
  intro k
  induction k with
  | zero=>
   intro i t hi h u
   rw [List.take_of_length_le (by omega)] at h
   refine ⟨t,Comes.stop ?_,h⟩
   simp only [lB]
   rw [decide_eq_false (by omega),cond_false]
  | succ k ih=>
   intro i t hi h u
   have hi2:i<l.length:=by omega
   obtain ⟨v1,v2⟩:=hv _ (fc l hi2)
   obtain ⟨t',g1,g2,g3⟩:=M4 (k:=(idx l (i:Int)).bQ) h v1 v2
   obtain ⟨t2,c1,c2⟩:=ih (i+1) t' (by omega) (h.put g2 g3 _ fun j=>by
    rw [nq l hi2,J7]
    by_cases e:j=(idx l (i:Int)).bQ
    ·rw [if_pos e,if_pos e.symm]
    ·rw [if_neg e,if_neg (fun e2=>e e2.symm)]) u
   refine ⟨t2,Comes.next ?_ c1,c2⟩
   simp only [lB]
   rw [decide_eq_true (by omega),cond_true,af (by omega),g1,Option.bind_some,decide_eq_true rfl,cond_true,af (by unfold bA;omega)]
   rfl
 obtain ⟨t,h1,h2⟩:=main l.length 0 .nil rfl (by rw [List.take_zero];exact .nil) .nil
 exact ⟨t,cN (Comes.next (by simp only [lB];rfl) h1),h2⟩
theorem qh.enc {t:aa} {m:List bt} {v:Nat} (h:qh t m) (hn:m.length≤64) (hv:∀ x∈m,x.ay≠[]∧x.ay.length≤v) (Un:v≤200):kf ⟨t⟩=some (iz (nv m))∧pJ (nv m)=some (iz (nv m))∧jy ⟨t⟩=some (lU (iz (nv m))):=by
 have hw:=KW v m hn hv Un
 exact ⟨Um h.tn hw h.same,by rw [PO hw.wf,AJ hw.wf],M0 h.tn hw h.same⟩
theorem J8 (l:List bt) (k:aE 32 UInt8) {i:Nat} (hi:i<l.length):wI (l.take (i+1)) k=wI (l.take i) k++(if (!((idx l (i:Int)).bQ.1==k.1))=true then [idx l (i:Int)] else []):=CK _ l hi
theorem AL (l:List bt) (k:aE 32 UInt8):(wI l k).length≤l.length:=List.length_filter_le _ _
theorem M6 (l:List bt) (k:aE 32 UInt8) (hn:l.length≤1000):pH l k=some (wI l k):=by
 refine cN (Comes.next (c':= .L1 (wI (l.take 0) k) ((0:Nat):Int)) (by simp only [iN];rfl) ?_)
 refine Comes.upto (fun i=>tc.L1 (wI (l.take i) k) (i:Int)) l.length (fun i hi=>?_) (Comes.stop ?_)
 ·have hl:=AL (l.take i) k
  rw [List.length_take] at hl
  simp only [iN]
  rw [decide_eq_true (by omega),cond_true,af (by omega),J8 l k hi]
  cases hb:(!((idx l (i:Int)).bQ.1==k.1)) with
  | true=>rw [cond_true,af (by omega),af (by simp only [List.length_singleton];omega),Option.bind_some,af (by unfold bA;omega),if_pos rfl];rfl
  | false=>rw [cond_false,Option.bind_some,af (by unfold bA;omega),if_neg (by simp),List.append_nil];rfl
 ·simp only [iN]
  rw [decide_eq_false (by omega),cond_false,List.take_length]
theorem KX (l:List bt) (k:aE 32 UInt8) (hn:l.length≤1000):r6 l k=some (wI l k):=by
 refine cN (Comes.next (c':= .L1 (wI (l.take 0) k) ((0:Nat):Int)) (by simp only [iu];rfl) ?_)
 refine Comes.upto (fun i=>r5.L1 (wI (l.take i) k) (i:Int)) l.length (fun i hi=>?_) (Comes.stop ?_)
 ·have hl:=AL (l.take i) k
  rw [List.length_take] at hl
  simp only [iu]
  rw [decide_eq_true (by omega),cond_true,af (by omega),J8 l k hi]
  cases hb:(!((idx l (i:Int)).bQ.1==k.1)) with
  | true=>rw [cond_true,af (by omega),af (by simp only [List.length_singleton];omega),Option.bind_some,af (by unfold bA;omega),if_pos rfl];rfl
  | false=>rw [cond_false,Option.bind_some,af (by unfold bA;omega),if_neg (by simp),List.append_nil];rfl
 ·simp only [iu]
  rw [decide_eq_false (by omega),cond_false,List.take_length]
theorem Up (l:List bt) (x:bt) (hn:l.length≤1000):n5 l x=some (wI l x.bQ++[x]):=by
 have:=AL l x.bQ
 unfold n5
 rw [KX l _ hn,Option.bind_some,af (by simp only [List.length_singleton];omega)]
def AM (l:List bt):Prop:=l.Pairwise fun x y=>x.bQ≠y.bQ
theorem AM.val {l:List bt} (h:AM l) {x:bt} (hx:x∈l):jU l x.bQ=some x.ay:=by
 induction l with
 | nil=>cases hx
 | cons y r ih=>
  obtain ⟨h1,h2⟩:=List.pairwise_cons.1 h
  show (match jU r x.bQ with | some w=>some w | none=>_)=_
  rcases List.mem_cons.1 hx with rfl | hx
  ·rw [(wF r x.bQ).2 fun z hz e=>h1 z hz e.symm]
   exact if_pos rfl
  ·rw [ih h2 hx]
theorem RA (l:List bt) (k:aE 32 UInt8) (hn:l.length≤1000) (hu:AM l):tB l k=some (match jU l k with | some w=>(w,true) | none=>([],false)):=by
 have:=Comes.first (step:=gi l k) (fun i=> .L1 (i:Int)) (fun i=>(idx l (i:Int)).bQ.1==k.1) l.length (fun i=>((idx l (i:Int)).ay,true)) (match jU l k with | some w=>(w,true) | none=>([],false))
 have hs:Comes (gi l k) (.L1 ((0:Nat):Int)) (match jU l k with | some w=>(w,true) | none=>([],false)):=by
  have main:∀ m i:Nat,m+i=l.length→(∀ x∈l.take i,x.bQ≠k)→Comes (gi l k) (.L1 (i:Int)) (match jU l k with | some w=>(w,true) | none=>([],false)):=by
   intro m
   induction m with
   | zero=>
    intro i hi h
    rw [List.take_of_length_le (by omega)] at h
    rw [(wF l k).2 h]
    refine Comes.stop ?_
    simp only [gi]
    rw [decide_eq_false (by omega),cond_false]
   | succ m ih=>
    intro i hi h
    have hi2:i<l.length:=by omega
    by_cases he:(idx l (i:Int)).bQ=k
    ·refine Comes.stop ?_
     rw [← he,hu.val (fc l hi2)]
     simp only [gi]
     rw [decide_eq_true (by omega),cond_true,af (by omega),Ii,decide_eq_true rfl,cond_true,af (by omega)]
    ·refine Comes.next ?_ (ih (i+1) (by omega) fun x hx=>?_)
     ·simp only [gi]
      rw [decide_eq_true (by omega),cond_true,af (by omega),Ii,decide_eq_false he,cond_false,af (by unfold bA;omega)]
      rfl
     ·rw [nq l hi2] at hx
      rcases List.mem_append.1 hx with hx | hx
      ·exact h x hx
      ·rw [List.mem_singleton.1 hx];exact he
  exact main l.length 0 rfl (by simp)
 exact cN (Comes.next (by simp only [gi];rfl) hs)
theorem AM.wo {l:List bt} (h:AM l) (k:aE 32 UInt8):AM (wI l k):=h.sublist List.filter_sublist
theorem AM.with {l:List bt} (h:AM l) (x:bt):AM (wI l x.bQ++[x]):=by
 unfold AM
 rw [List.pairwise_append]
 refine ⟨h.wo _,List.pairwise_singleton ..,fun y hy z hz=>?_⟩
 rw [List.mem_singleton.1 hz]
 have:=(List.mem_filter.1 hy).2
 rw [Ii] at this
 intro e
 rw [decide_eq_true e] at this;cases this
end Go.Proofs.YtlfjfoknbjcncaaGreat.K
namespace Go.Proofs.YtlfjfoknbjcncaaGreat.K
open Go
set_option linter.unusedVariables false
set_option linter.unusedSimpArgs false
def Pf (f:Fin 16→aa):List Tree:=((List.ofFn f).filter fun x=> !x.isNil).map Tree.mk
theorem M7 {α β:Type} [Inhabited α] (p:α→Bool) (g:α→β) (l:List α) {i:Nat} (hi:i<l.length):((l.take (i+1)).filter p).map g=((l.take i).filter p).map g++(if p (idx l (i:Int))=true then [g (idx l (i:Int))] else []):=by
 rw [CK p l hi,List.map_append]
 split<;>rfl
theorem RB {k:Int} {p v r:List UInt8} {f:Fin 16→aa} {n:Node} (hk:k≠ -1) (hn:ov (.node k p v f r)=some n):ow ⟨.node k p v f r⟩=some (n,Pf f):=by
 have hl:(List.ofFn f).length=16:=by simp
 refine cN (Comes.next (c':= .L1 ((((List.ofFn f).take 0).filter fun x=> !x.isNil).map Tree.mk) ((0:Nat):Int)) ?_ ?_)
 ·simp only [iq]
  show gO ((aa.node k p v f r).isNil=false→(aa.node k p v f r).isNil=false) (bif (aa.node k p v f r).isNil||decide (k= -1) then _ else _)=_
  rw [af (fun h=>h),decide_eq_false hk,show (aa.node k p v f r).isNil=false from rfl,Bool.or_self,cond_false,af rfl]
  rfl
 ·refine Comes.upto (fun i=>rY.L1 ((((List.ofFn f).take i).filter fun x=> !x.isNil).map Tree.mk) (i:Int)) 16 (fun i hi=>?_) (Comes.stop ?_)
  ·have hle:((((List.ofFn f).take i).filter fun x=> !x.isNil).map Tree.mk).length≤16:=by
    rw [List.length_map]
    have:=List.length_filter_le (fun x:aa=> !x.isNil) ((List.ofFn f).take i)
    rw [List.length_take] at this;omega
   simp only [iq]
   rw [M7 _ _ _ (show i<(List.ofFn f).length by omega)]
   rw [decide_eq_true (by omega),cond_true,af (by omega),show (aa.node k p v f r).at.b8.1=List.ofFn f from rfl]
   cases hb:(!(idx (List.ofFn f) (i:Int)).isNil) with
   | true=>rw [cond_true,af (by simp only [List.length_singleton];omega),af (by unfold bA;omega),if_pos rfl];rfl
   | false=>rw [cond_false,af (by unfold bA;omega),if_neg (by simp),List.append_nil];rfl
  ·simp only [iq]
   rw [decide_eq_false (by omega),cond_false,hn,List.take_of_length_le (by omega)]
   rfl
theorem RC {v d:Nat} {f:Fin 16→aa} {l:List In} (hb:TW (d+1) (gq f)) (hw:WG v (d+1) l) (hs:pg (d+1) (gq f) l):(Pf f).length=((List.range 16).filter fun c=> !(qR l c).isEmpty).length:=by
 obtain ⟨c1,c2,c3⟩:=MW hw.wf hb hs
 have hk:∀ c,f c≠ .nil→TW d (f c):=by
  generalize e:gq f=t at hb
  cases hb with
  | leaf _=>cases e
  | ext _ _ _ _=>cases e
  | @br d' _ g he hk h2=>
   have hg:f=g:=by unfold gq at e;injection e
   subst hg
   have:d'=d:=by omega
   subst this;exact hk
 have e1:∀ c (h:c<16),(!(f ⟨c,h⟩).isNil)=(!(qR l c).isEmpty):=by
  intro c h
  congr 1
  rw [Bool.eq_iff_iff,zq,List.isEmpty_iff]
  have h3:=c3 c h
  constructor
  ·intro e
   rw [e] at h3
   exact DM.1 (J0 (hw.H8 (by omega) c).wf h3)
  ·intro e
   rcases TN.H8 hk ⟨c,h⟩ with h4 | h4
   ·exact h4
   ·obtain ⟨s,w,h5,h6⟩:=h4.has
    have:=(h3 s w h5).1 h6
    rw [e] at this;cases this
 unfold Pf
 rw [List.length_map]
 have e2:List.ofFn f=(List.range 16).map fun c=>if h:c<16 then f ⟨c,h⟩ else .nil:=by
  apply List.ext_getElem
  ·simp
  ·intro i h1 h2
   have hi:i<16:=by rw [List.length_ofFn] at h1;exact h1
   rw [List.getElem_ofFn,List.getElem_map,List.getElem_range,dif_pos hi]
 rw [e2,List.filter_map,List.length_map]
 congr 1
 refine List.filter_congr fun c hc=>?_
 have hc:c<16:=by simpa using hc
 simp only [Function.comp]
 rw [dif_pos hc]
 exact e1 c hc
def Pg:aE 32 UInt8:=aE.rep 32 (0:UInt8)
def DO:aE 32 UInt8:=(aE.rep 32 (0:UInt8)).put (0:Int) (16:UInt8)
def DP:List bt:=[⟨Pg,[120]⟩,⟨DO,[121]⟩]
theorem Yp:wI DP Pg=[⟨DO,[121]⟩]:=rfl
theorem M8 (l:List bt) (h:l=DP∨l=[⟨DO,[121]⟩]):l.length≤64∧∀ x∈l,x.ay≠[]∧x.ay.length≤1:=by
 rcases h with rfl | rfl
 ·refine ⟨by decide,fun x hx=>?_⟩
  simp only [DP,List.mem_cons,List.not_mem_nil,or_false] at hx
  rcases hx with rfl | rfl<;>exact ⟨by simp,by simp⟩
 ·refine ⟨by simp,fun x hx=>?_⟩
  rw [List.mem_singleton.1 hx];exact ⟨by simp,by simp⟩
theorem ED:nk=some true:=by
 have hA:jU DP Pg=some [120]:=by decide
 have hB:jU DP DO=some [121]:=by decide
 have hB1:jU [⟨DO,[121]⟩] DO=some [121]:=by decide
 obtain ⟨n1,v1⟩:=M8 DP (.inl rfl)
 obtain ⟨n2,v2⟩:=M8 _ (.inr rfl)
 obtain ⟨t,t1,t2⟩:=PU DP (by omega) fun x hx=>⟨(v1 x hx).1,by have:=(v1 x hx).2;omega⟩
 obtain ⟨s,s1,s2⟩:=PU [⟨DO,[121]⟩] (by omega) fun x hx=>⟨(v2 x hx).1,by have:=(v2 x hx).2;omega⟩
 obtain ⟨u,u1,u2⟩:=M5 (k:=Pg) (w:=[120]) t2 hA
 rw [Yp] at u2
 have g1:=DN DO t2
 rw [hB] at g1
 have e1:=(u2.enc n2 v2 (by omega)).1
 have e2:=(s2.enc n2 v2 (by omega)).1
 have hw:=KW 1 DP n1 v1 (by omega)
 have Yk:=KW 1 _ n2 v2 (by omega)
 have ht:TW 64 t:=t2.tn.resolve_left fun e=>by
  have:=t2.empty
  rw [e] at this;cases this
 have hs:=t2.same
 have hm:∀ (k:aE 32 UInt8) (w:List UInt8),jU DP k=some w→(⟨dz k.1,w⟩:In)∈nv DP:=fun k w h=>(Bl DP k w).2 h
 have pA:dz Pg.1=0::(dz Pg.1).drop 1:=by decide
 have pB:dz DO.1=1::(dz DO.1).drop 1:=by decide
 have mA:=hm _ _ hA
 have mB:=hm _ _ hB
 rw [pA] at mA
 rw [pB] at mB
 obtain ⟨c1,_,c2⟩:=KV (p:=[]) hw.wf (show (0:UInt8)≠1 by decide) mA mB (fun x _=>rfl)
 obtain ⟨hN,hl⟩:=Rx ht hw hs
 have hk3:(eU (nv DP)).aW=3:=by
  unfold eU
  rw [if_neg (by omega),if_neg (by rw [c1];simp)]
 have hlk:(nv DP)=[⟨dz Pg.1,[120]⟩,⟨dz DO.1,[121]⟩]:=rfl
 have Yq:∃ ks,ow ⟨t⟩=some (eU (nv DP),ks)∧ks.length=2:=by
  cases ht with
  | @leaf _ p w hp=>
   have:=Ih hw.wf hp hs
   rw [this] at c2;simp at c2
  | @ext d' _ p f he tL EA hb=>
   obtain ⟨k1,_,_,_⟩:=J4 hw.wf he tL EA hb hs
   have LI:0<p.length:=List.length_pos_iff.2 tL
   rw [c1] at k1
   have k1:0=p.length:=k1
   omega
  | @br d' _ f he hkk h2=>
   obtain rfl:d'=63:=by omega
   refine ⟨_,RB (by decide) hN,?_⟩
   rw [RC (v:=1) (.br rfl hkk h2) hw hs,hlk]
   decide
 obtain ⟨ks,k1,k2⟩:=Yq
 have eb:=vf Yk.wf (by
  intro e
  have:=(Bl [⟨DO,[121]⟩] DO [121]).2 hB1
  rw [e] at this;cases this)
 have hz:(iz (nv [⟨DO,[121]⟩])==([]:List UInt8))=false:=by
  rw [beq_eq_false_iff_ne]
  intro e;rw [e] at eb;simp at eb
 unfold nk
 rw [show s6 ([(⟨(aE.rep 32 (0:UInt8)),([120]:List UInt8)⟩:bt),(⟨((aE.rep 32 (0:UInt8)).put (0:Int) (16:UInt8)),([121]:List UInt8)⟩:bt)]:List bt)=_ from t1,Option.bind_some]
 rw [show iH ⟨t⟩ ((aE.rep 32 (0:UInt8)).put (0:Int) (16:UInt8))=_ from g1,Option.bind_some]
 rw [show gN ⟨t⟩ (aE.rep 32 (0:UInt8))=_ from u1,Option.bind_some,k1,Option.bind_some]
 have q1:((([121],(0:Int)).1==([121]:List UInt8))&&decide (([121],(0:Int)).2=0))=true:=rfl
 simp only [beq_self_eq_true,decide_true,Bool.and_self,cond_true,e1,Option.bind_some,Bool.true_and]
 rw [show s6 ([(⟨((aE.rep 32 (0:UInt8)).put (0:Int) (16:UInt8)),([121]:List UInt8)⟩:bt)]:List bt)=_ from s1,Option.bind_some,e2,Option.bind_some]
 have k3:decide ((ks.length:Int)=2)=true:=by rw [k2];rfl
 simp only [hk3,k3,hz,beq_self_eq_true,decide_true,Bool.and_self,cond_true,Option.bind_some,Bool.true_and,Bool.not_false]
 rfl
end Go.Proofs.YtlfjfoknbjcncaaGreat.K
namespace Go.Proofs.YtlfjfoknbjcncaaGreat.K
open Go
set_option linter.unusedVariables false
set_option linter.unusedSimpArgs false
structure Ij (i:Nat) (m:List bt) (t:aa):Prop where
 held:qh t m
 uniq:AM m
 len:m.length≤i
 val:∀ x∈m,x.ay≠[]∧x.ay.length≤200
theorem DQ (l:List Act) {i:Nat} {m:List bt} {t:aa} (h:Ij (i+1) m t) (hi:i<30) (hk:Comes (cJ l) (.L1 m ((i+1:Nat):Int) t) true):Comes (cJ l) (.J2 m (i:Int) t) true:=by
 have hlen:=h.len
 obtain ⟨e1,e2,_⟩:=h.held.enc (by omega) h.val (Nat.le_refl _)
 refine Comes.next ?_ hk
 have he:=h.held.empty
 have he2:decide ((m.length:Int)=0)=decide (m=[]):=by
  rw [decide_eq_decide]
  constructor
  ·intro h;exact List.eq_nil_of_length_eq_zero (by omega)
  ·intro h;rw [h];rfl
 simp only [cJ]
 rw [e1,Option.bind_some,WK m (by omega),Option.bind_some,e2,Option.bind_some,beq_self_eq_true,show ((!true)==false)=true from rfl,cond_true]
 rw [show jq ⟨t⟩=some (decide (m=[])) by rw [← he];rfl,Option.bind_some,he2,beq_self_eq_true,show (!true|| !true)=false from rfl,cond_false,af (by unfold bA;omega)]
 rfl
theorem Uq (l:List Act):∀ (k i:Nat) (m:List bt) (t:aa),k+i=30→Ij i m t→Comes (cJ l) (.L1 m (i:Int) t) true:=by
 intro k
 induction k with
 | zero=>
  intro i m t hk h
  refine Comes.stop ?_
  simp only [cJ]
  rw [decide_eq_false (p:=(i:Int)<30) (by omega),Bool.and_false,cond_false,ED]
  rfl
 | succ k ih=>
  intro i m t hk h
  have hlen:=h.len
  by_cases hi:i<l.length
  ·by_cases hv:200<(idx l (i:Int)).ay.length
   ·refine Comes.stop ?_
    simp only [cJ]
    rw [decide_eq_true (p:=(i:Int)<(l.length:Int)) (by omega),decide_eq_true (by omega),Bool.and_self,cond_true,af (by omega),decide_eq_true (by omega),cond_true,ED]
    rfl
   ·have hF:=RA m (idx l (i:Int)).bQ (by omega) h.uniq
    generalize hx:idx l (i:Int)=x at hv hF
    have inv2:Ij (i+1) m t:=⟨h.held,h.uniq,by omega,h.val⟩
    have pre:∀ {c:r9⊕Bool},((tB m x.bQ).bind fun (x_7:((List UInt8)×Bool))=>
  (bif (decide ((x.aW)=(2:Int))) then
  ((gN (⟨t⟩:Tree) (x.bQ)).bind fun (x_10:(Tree×Int))=>
  ((bif ((((!(x_7.2==(decide ((x_10.2)=(0:Int)))))==false)&&((!(x_7).2)==true))&&((!decide ((x_10.2)=(7:Int)))==false)) then jq (x_10.1) else some default).bind fun (x_12:Bool)=>
  (bif ((!(x_7.2==(decide ((x_10.2)=(0:Int)))))||((!(x_7).2)&&((!decide ((x_10.2)=(7:Int)))||(!x_12)))) then
  some (.inr false)
  else
  (bif x_7.2 then
  ((pH m (x.bQ)).bind fun (x_16:(List bt))=>
  some (.inl (.J2 x_16 (i:Int) ((x_10.1).fp))))
  else
  some (.inl (.J2 m (i:Int) t))))))
  else
  (bif (decide ((x.aW)=(3:Int))) then
  ((iH (⟨t⟩:Tree) (x.bQ)).bind fun (x_19:((List UInt8)×Int))=>
  (bif (((!(x_19.1==x_7.1))||(!(x_7.2==(decide ((x_19.2)=(0:Int))))))||((!(x_7).2)&&(!decide ((x_19.2)=(7:Int))))) then
  some (.inr false)
  else
  some (.inl (.J2 m (i:Int) t))))
  else
  ((jx (⟨t⟩:Tree) (x.bQ) (x.ay)).bind fun (x_22:(Tree×Int))=>
  (bif (x.ay==([]:List UInt8)) then
  (bif (!decide ((x_22.2)=(2:Int))) then
  some (.inr false)
  else
  gO (bA ((i:Int)+(1:Int))) (
  some (.inl (.L1 m ((i:Int)+(1:Int)) t))))
  else
  (bif (!decide ((x_22.2)=(0:Int))) then
  some (.inr false)
  else
  ((n5 m (⟨x.bQ,x.ay⟩:bt)).bind fun (HH:(List bt))=>
  some (.inl (.J2 HH (i:Int) ((x_22.1).fp))))))))))=some c→cJ l (.L1 m (i:Int) t)=some c:=by
     intro c hc
     simp only [cJ]
     rw [decide_eq_true (p:=(i:Int)<(l.length:Int)) (by omega),decide_eq_true (by omega),Bool.and_self,cond_true,af (by omega),hx,decide_eq_false (by omega),cond_false]
     exact hc
    by_cases h2:x.aW=2
    ·cases hm:jU m x.bQ with
     | none=>
      rw [hm] at hF
      refine Comes.next (c':= .J2 m (i:Int) t) (pre ?_) (DQ l inv2 (by omega) (ih (i+1) m t (by omega) inv2))
      rw [hF,Option.bind_some,decide_eq_true h2,cond_true,Uo h.held hm]
      rfl
     | some w=>
      rw [hm] at hF
      obtain ⟨t',g1,g2⟩:=M5 h.held hm
      have M9:Ij (i+1) (wI m x.bQ) t':=⟨g2,h.uniq.wo _,by have:=AL m x.bQ;omega,fun y hy=>h.val y (List.mem_filter.1 hy).1⟩
      refine Comes.next (c':= .J2 (wI m x.bQ) (i:Int) t') (pre ?_) (DQ l M9 (by omega) (ih (i+1) _ t' (by omega) M9))
      rw [hF,Option.bind_some,decide_eq_true h2,cond_true,g1,M6 m _ (by omega)]
      rfl
    ·by_cases h3:x.aW=3
     ·refine Comes.next (c':= .J2 m (i:Int) t) (pre ?_) (DQ l inv2 (by omega) (ih (i+1) m t (by omega) inv2))
      rw [hF,Option.bind_some,decide_eq_false h2,cond_false,decide_eq_true h3,cond_true,DN _ h.held]
      cases jU m x.bQ with
      | none=>rfl
      | some w=>
       rw [Option.bind_some]
       simp only [beq_self_eq_true,decide_true,Bool.not_true,Bool.or_self,Bool.false_and,cond_false]
     ·by_cases hz:x.ay=[]
      ·refine Comes.next (c':= .L1 m ((i+1:Nat):Int) t) (pre ?_) (ih (i+1) m t (by omega) inv2)
       rw [hF,Option.bind_some,decide_eq_false h2,cond_false,decide_eq_false h3,cond_false,hz,Rz,Option.bind_some,af (by unfold bA;omega)]
       rfl
      ·obtain ⟨t',g1,g2,g3⟩:=M4 (k:=x.bQ) (v:=x.ay) h.held hz (by omega)
       have g4:qh t' (wI m x.bQ++[⟨x.bQ,x.ay⟩]):=h.held.put g2 g3 _ fun j=>by
        rw [J7,M3]
        by_cases e:j=x.bQ
        ·rw [if_pos e.symm,if_pos e]
        ·rw [if_neg e,if_neg e,if_neg (fun e2=>e e2.symm)]
       have M9:Ij (i+1) (wI m x.bQ++[⟨x.bQ,x.ay⟩]) t':=⟨g4,h.uniq.with ⟨x.bQ,x.ay⟩,by have:=AL m x.bQ;rw [List.length_append,List.length_singleton];omega,fun y hy=>by
        rcases List.mem_append.1 hy with hy | hy
        ·exact h.val y (List.mem_filter.1 hy).1
        ·rw [List.mem_singleton.1 hy];exact ⟨hz,by show x.ay.length≤200;omega⟩⟩
       refine Comes.next (c':= .J2 (wI m x.bQ++[⟨x.bQ,x.ay⟩]) (i:Int) t') (pre ?_) (DQ l M9 (by omega) (ih (i+1) _ t' (by omega) M9))
       rw [hF,Option.bind_some,decide_eq_false h2,cond_false,decide_eq_false h3,cond_false,g1,Option.bind_some,show (x.ay==([]:List UInt8))=false from beq_eq_false_iff_ne.2 hz,cond_false,decide_eq_true rfl,Bool.not_true,cond_false,Up m _ (by omega)]
       rfl
  ·refine Comes.stop ?_
   simp only [cJ]
   rw [decide_eq_false (p:=(i:Int)<(l.length:Int)) (by omega),Bool.false_and,cond_false,ED]
   rfl
theorem Ik (l:List Act):xk l=some true:=
 cN (Comes.next (by simp only [cJ];rfl) (Uq l 30 0 [] .nil rfl ⟨.nil, .nil,Nat.le_refl _,by simp⟩))
end Go.Proofs.YtlfjfoknbjcncaaGreat.K
namespace Go.Proofs.YtlfjfoknbjcncaaGreat.K
open Go Go.RowKit
set_option linter.unusedVariables false
theorem WL {l:List D} (h:kD (.st [(.int .i64),(.arr 32 (.int .u8)), .str]) l):∃ x:Act,l=yg x:=by
 unfold kD EM at h
 obtain ⟨a0,b0,rfl,h0,g0⟩:=h
 unfold EM at g0
 obtain ⟨a1,b1,rfl,h1,g1⟩:=g0
 unfold EM at g1
 obtain ⟨a2,b2,rfl,h2,g2⟩:=g1
 unfold EM at g2
 subst g2
 obtain ⟨f0,rfl⟩:=US h0
 obtain ⟨f1,rfl⟩:=(fun h=>UU (fun c h=>UA h) h) h1
 obtain ⟨f2,_,rfl⟩:=UT h2
 exact ⟨⟨f0,f1,f2⟩,by simp [yg]⟩
theorem IL {l:List D} (h:kD (.slice (.st [(.int .i64),(.arr 32 (.int .u8)), .str])) l):∃ x:(List Act),x.length≤maxLen∧l=[.slice ((x).map rK)]:=(fun h=>UW (c:=yg) (f:=rK) rfl SW (fun l h=>WL h) h) h
theorem IM (l:(List Act)):bE Tryz.prog 3 [.slice ((l).map rK)] (.val (.bool true)):=By l true (Ik l)
end Go.Proofs.YtlfjfoknbjcncaaGreat.K
