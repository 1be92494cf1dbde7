/- Package rlp: more items than may be; what is read, whatever the bytes. -/
import Derived.Test.YtlfjfoknbjcncaaGreatHG6
import Derived.Test.YtlfjfoknbjcncaaGreatHG4
import Derived.Test.YtlfjfoknbjcncaaGreatHG5
namespace Go.Proofs.YtlfjfoknbjcncaaGreat.K
open Go Go.RowKit
set_option linter.unusedSimpArgs false
set_option linter.unusedVariables false
theorem Tn {d c:Nat} (hd:d≤64) (hc:c=4096):fZ (d:Int) ⟨(c:Int)⟩=some (.inr 4,⟨((c+1:Nat):Int)⟩):=by
 unfold fZ
 simp only
 rw [ah (by unfold bf;omega),decide_eq_true (by omega),decide_eq_false (by omega)]
 rfl
def vC:Nat→List UInt8→Option Nat
 | v,[]=>some v
 | v,b::r=>if v<4294967296 then vC (v*256+b.toNat) r else none
def Eu (k:Nat):Option Nat→(Int×Int)⊕Int
 | none=> .inr 5
 | some v=>if 55<v then .inl ((v:Int),((1+k:Nat):Int)) else .inr 6
theorem Kh:∀ (l:List UInt8) (v w:Nat),v<2 ^ 40→vC v l=some w→w<2 ^ 40
 | [],v,w,hv,h=>by simp only [vC,Option.some.injEq] at h;omega
 | b::r,v,w,hv,h=>by
  have hb:b.toNat<256:=UInt8.toNat_lt _
  unfold vC at h
  split at h
  ·exact Kh r _ w (by omega) h
  ·cases h
theorem To (s:List UInt8) (first n:Nat) (k:Nat) (hs:((idx s (0:Int)).toNat:Int)-(first:Int)=((k+55:Nat):Int)) (hk:k≤9) (hlen:1+k≤s.length) (hl:s.length≤2 ^ 40) (j:Nat):∀ (i v:Nat),j+i=k→v<2 ^ 40→
  Comes (dL s (first:Int)) (.L1 (v:Int) (i:Int)) (Eu k (vC v (((s.drop 1).take k).drop i))):=by
 have Cz:((idx s (0:Int)).toNat:Int)-(first:Int)-55=(k:Int):=by omega
 have hd:((s.drop 1).take k).length=k:=by rw [List.length_take,List.length_drop];omega
 induction j with
 | zero=>
  intro i v hi hv
  obtain rfl:i=k:=by omega
  rw [List.drop_eq_nil_of_le (by omega)]
  refine Comes.stop ?_
  simp only [dL,Cz,vC,Eu]
  rw [decide_eq_false (by omega),cond_false]
  by_cases h:55<v
  ·rw [if_pos h,decide_eq_true (by omega),fM,Option.bind_some]
   simp only
   rw [ah (by unfold bf;omega),show (1:Int)+(i:Int)=((1+i:Nat):Int) by omega]
  ·rw [if_neg h,decide_eq_false (by omega)];rfl
 | succ j ih=>
  intro i v hi hv
  have h1:i<((s.drop 1).take k).length:=by omega
  have hg:idx s (1+(i:Int))=((s.drop 1).take k)[i]:=by
   rw [show (1:Int)+(i:Int)=((1+i:Nat):Int) by omega,uA (by omega)]
   simp [Nat.add_comm]
  rw [List.drop_eq_getElem_cons h1]
  have hb:(((s.drop 1).take k)[i]).toNat<256:=UInt8.toNat_lt _
  unfold vC
  by_cases Tp:v<4294967296
  ·rw [if_pos Tp]
   refine Comes.next ?_ (ih (i+1) (v*256+(((s.drop 1).take k)[i]).toNat) (by omega) (by omega))
   have hsh:wK (v:Int) 8=((v*256:Nat):Int):=by
    unfold wK
    rw [show min (8:Int).toNat 64=8 by decide];omega
   simp only [dL,Cz]
   rw [decide_eq_true (by omega),cond_true,decide_eq_true (by omega),fM,Option.bind_some]
   simp only
   rw [ah (by rw [hsh];unfold bf;omega),ah (by unfold bf;omega),ah (by omega),ah (by unfold bf;omega),hg,Kf _ _ (by omega) hb]
   rfl
  ·rw [if_neg Tp]
   refine Comes.stop ?_
   simp only [dL,Cz]
   rw [decide_eq_true (by omega),cond_true,decide_eq_false (by omega)]
   rfl
def sM (s:List UInt8) (n0:Nat):(Int×Int)⊕Int:=
 if n0≤55 then .inl ((n0:Int),1)
 else if s.length<1+(n0-55) then .inr 5
 else if (s.getD 1 0).toNat=0 then .inr 6
 else Eu (n0-55) (vC 0 ((s.drop 1).take (n0-55)))
theorem PG {s:List UInt8} (h:1<s.length):idx s (1:Int)=s.getD 1 0:=by
 show idx s ((1:Nat):Int)=_
 rw [uA h]
 simp [List.getD_eq_getElem?_getD,List.getElem?_eq_getElem h]
theorem Tq (s:List UInt8) (first n0:Nat) (hs:(s.getD 0 0).toNat=first+n0) (h0:0<s.length) (hn:n0≤63) (hl:s.length≤2 ^ 40):pq s (first:Int)=some (sM s n0):=by
 refine bZ ?_
 have hi:(((idx s (0:Int)).toNat:Nat):Int)-(first:Int)=(n0:Int):=by rw [tF h0];omega
 unfold sM
 by_cases h1:n0≤55
 ·rw [if_pos h1]
  refine Comes.stop ?_
  simp only [dL,hi]
  rw [ah (by omega),ah (by unfold bf;omega),decide_eq_true (by omega),cond_true]
 ·rw [if_neg h1]
  have Cz:(n0:Int)-55=((n0-55:Nat):Int):=by omega
  by_cases h2:s.length<1+(n0-55)
  ·rw [if_pos h2]
   refine Comes.stop ?_
   simp only [dL,hi,Cz]
   rw [ah (by omega),ah (by unfold bf;omega),decide_eq_false (by omega),cond_false,ah (by unfold bf;omega),decide_eq_false (by omega)]
   rfl
  ·rw [if_neg h2]
   by_cases h3:(s.getD 1 0).toNat=0
   ·rw [if_pos h3]
    refine Comes.stop ?_
    simp only [dL,hi,Cz]
    rw [ah (by omega),ah (by unfold bf;omega),decide_eq_false (by omega),cond_false,ah (by unfold bf;omega),decide_eq_true (by omega),fM,Option.bind_some]
    simp only
    rw [ah (by omega),PG (by omega),decide_eq_true (by omega)]
    rfl
   ·rw [if_neg h3]
    have:=To s first n0 (n0-55) (by rw [hi];omega) (by omega) (by omega) hl (n0-55) 0 0 rfl (by decide)
    rw [List.drop_zero] at this
    refine Comes.next ?_ this
    simp only [dL,hi,Cz]
    rw [ah (by omega),ah (by unfold bf;omega),decide_eq_false (by omega),cond_false,ah (by unfold bf;omega),decide_eq_true (by omega),fM,Option.bind_some]
    simp only
    rw [ah (by omega),PG (by omega),decide_eq_false (by omega),Bool.not_false,fM,Option.bind_some]
    rfl
def Gx:Item:=⟨false,[],[]⟩
theorem Tt (f:List UInt8→Int→Int→Option (Item×Int×Int×Int)) (s:List UInt8) (d l:Int) (k:Nat) (hs:(((idx s (0:Int)).toNat:Nat):Int).tmod 64=((k+55:Nat):Int)) (hk:k≤9) (hlen:1+k≤s.length) (hl:s.length≤2 ^ 40) (r:Item×Int×Int×Int)
  (hJ:∀ v:Nat,v<2 ^ 40→55<v→vC 0 ((s.drop 1).take k)=some v→Comes (bn f s d l) (.J1 (v:Int) ((1+k:Nat):Int)) r)
  (h5:vC 0 ((s.drop 1).take k)=none→r=(Gx,0,0,5)) (h6:∀ v,vC 0 ((s.drop 1).take k)=some v→¬ 55<v→r=(Gx,0,0,6)) (j:Nat):∀ (i v:Nat),j+i=k→v<2 ^ 40→vC 0 ((s.drop 1).take k)=vC v (((s.drop 1).take k).drop i)→
  Comes (bn f s d l) (.L2 (v:Int) ((i+1:Nat):Int)) r:=by
 have Cz:((k+55:Nat):Int)-55=(k:Int):=by omega
 have hd:((s.drop 1).take k).length=k:=by rw [List.length_take,List.length_drop];omega
 induction j with
 | zero=>
  intro i v hi hv he
  obtain rfl:i=k:=by omega
  have hz:((s.drop 1).take i).drop i=[]:=List.drop_eq_nil_of_le (by omega)
  rw [hz,show vC v []=some v from rfl] at he
  by_cases h:55<v
  ·refine Comes.next ?_ (hJ v hv h he)
   simp only [bn,hs,Cz]
   rw [decide_eq_false (by omega),cond_false,decide_eq_false (by omega),cond_false,ah (by unfold bf;omega),show (1:Int)+(i:Int)=((1+i:Nat):Int) by omega]
  ·rw [h6 v he h]
   refine Comes.stop ?_
   simp only [bn,hs,Cz]
   rw [decide_eq_false (by omega),cond_false,decide_eq_true (show (v:Int)<56 by omega),cond_true]
   rfl
 | succ j ih=>
  intro i v hi hv he
  have h1:i<((s.drop 1).take k).length:=by omega
  have hg:idx s ((i+1:Nat):Int)=((s.drop 1).take k)[i]:=by
   rw [uA (by omega)]
   simp [Nat.add_comm]
  rw [List.drop_eq_getElem_cons h1] at he
  have hb:(((s.drop 1).take k)[i]).toNat<256:=UInt8.toNat_lt _
  rw [vC] at he
  by_cases Tp:v<4294967296
  ·rw [if_pos Tp] at he
   have he':vC 0 ((s.drop 1).take k)=vC (v*256+(((s.drop 1).take k)[i]).toNat) (((s.drop 1).take k).drop (i+1)):=by
    exact he
   refine Comes.next ?_ (ih (i+1) (v*256+(((s.drop 1).take k)[i]).toNat) (by omega) (by omega) he')
   simp only [bn,hs,Cz]
   rw [decide_eq_true (by omega),cond_true,decide_eq_false (by omega),cond_false,ah (by unfold bf;omega),ah (by omega),ah (by rw [hg];unfold bf;omega),ah (by unfold bf;omega),hg]
   rw [show (256:Int)*(v:Int)+(((((s.drop 1).take k)[i]).toNat:Nat):Int)=((v*256+(((s.drop 1).take k)[i]).toNat:Nat):Int) by omega]
   rfl
  ·rw [if_neg Tp] at he
   have he':vC 0 ((s.drop 1).take k)=none:=he
   rw [h5 he']
   refine Comes.stop ?_
   simp only [bn,hs,Cz]
   rw [decide_eq_true (by omega),cond_true,decide_eq_true (by omega),cond_true]
   rfl
end Go.Proofs.YtlfjfoknbjcncaaGreat.K
namespace Go.Proofs.YtlfjfoknbjcncaaGreat.K
open Go Go.RowKit
set_option linter.unusedSimpArgs false
set_option linter.unusedVariables false
theorem Ir {α:Type} (s:List α) (k v:Nat):s.take k++(s.drop k).take v=s.take (k+v):=by rw [← List.take_add]
theorem MW:∀ (l:List UInt8) (v w:Nat),vC v l=some w→w=l.foldl (fun a b=>a*256+b.toNat) v
 | [],v,w,h=>by simp only [vC] at h;cases h;rfl
 | b::r,v,w,h=>by
  simp only [vC] at h
  split at h
  ·exact MW r _ w h
  ·cases h
theorem Ki:∀ (n:Nat) (l:List UInt8),l.length=n→(l=[]∨(l.getD 0 0).toNat≠0)→gP (o7 l)=l
 | 0,l,h,_=>by
  have:l=[]:=List.length_eq_zero_iff.1 h
  subst this;exact qk
 | n+1,l,h,h0=>by
  rcases List.eq_nil_or_concat l with e | ⟨L,b,e⟩
  ·subst e;simp at h
  ·rw [List.concat_eq_append] at e
   subst e
   have hl:L.length=n:=by simpa using h
   have Gj:((L++[b]).getD 0 0).toNat≠0:=h0.resolve_left (by simp)
   have hL:L=[]∨(L.getD 0 0).toNat≠0:=by
    cases L with
    | nil=>exact .inl rfl
    | cons x r=>exact .inr (by simpa using Gj)
   have ih:=Ki n L hl hL
   have hb:b.toNat<256:=UInt8.toNat_lt _
   rw [DB]
   have ne:o7 L*256+b.toNat≠0:=by
    intro e
    have e1:o7 L=0:=by omega
    have e2:b.toNat=0:=by omega
    rw [e1,qk] at ih
    subst ih
    exact Gj (by simpa using e2)
   rw [uB ne,show (o7 L*256+b.toNat)/256=o7 L by omega,show (o7 L*256+b.toNat)%256=b.toNat by omega,ih,UInt8.ofNat_toNat]
theorem MX {s:List UInt8} {n0 v k:Nat} (l:Bool) (h0:0<s.length) (hf:(s.getD 0 0).toNat=sS l+n0) (h:sM s n0= .inl ((v:Int),(k:Int))):s.take k=hd l v:=by
 have hlt:(s.getD 0 0).toNat<256:=UInt8.toNat_lt _
 obtain ⟨x,r,rfl⟩:∃ x r,s=x::r:=by
  cases s with
  | nil=>simp at h0
  | cons x r=>exact ⟨x,r,rfl⟩
 have hx:x.toNat=sS l+n0:=by simpa using hf
 have hx':x=UInt8.ofNat (sS l+n0):=by rw [← hx,UInt8.ofNat_toNat]
 have Un:x.toNat<256:=UInt8.toNat_lt _
 unfold sM at h
 split at h
 ·rename_i Tu
  simp only [Sum.inl.injEq,Prod.mk.injEq] at h
  have e1:v=n0:=by omega
  have e2:k=1:=by omega
  subst e1 e2
  unfold hd
  rw [if_pos (by omega),Nat.mod_eq_of_lt (by omega), ← hx'];rfl
 ·rename_i Tu
  split at h
  ·cases h
  ·rename_i hlen
   split at h
   ·cases h
   ·rename_i hnz
    cases hl:vC 0 (((x::r).drop 1).take (n0-55)) with
    | none=>rw [hl] at h;cases h
    | some w=>
     rw [hl] at h
     unfold Eu at h
     simp only at h
     split at h
     ·rename_i hw
      simp only [Sum.inl.injEq,Prod.mk.injEq] at h
      have e1:w=v:=by omega
      have e2:k=1+(n0-55):=by omega
      subst e1 e2
      have e3:=MW _ _ _ hl
      have Mv:(x::r).drop 1=r:=rfl
      rw [Mv] at e3
      have hrl:n0-55≤r.length:=by simp at hlen;omega
      have ZM:(r.getD 0 0).toNat≠0:=by simpa using hnz
      have e4:gP w=r.take (n0-55):=by
       have:=Ki _ (r.take (n0-55)) rfl (.inr (by
        have:(r.take (n0-55)).getD 0 0=r.getD 0 0:=by simp [List.getD_eq_getElem?_getD,List.getElem?_take,show 0<n0-55 by omega]
        rw [this];exact ZM))
       rw [show o7 (r.take (n0-55))=w from e3.symm] at this
       exact this
      unfold hd
      rw [if_neg (by omega),e4,List.length_take,Nat.min_eq_left hrl,show sS l+55+(n0-55)=sS l+n0 by omega,Nat.mod_eq_of_lt (by omega), ← hx',Nat.add_comm 1,List.take_succ_cons]
     ·cases h
theorem QO {s:List UInt8} {n0:Nat} (h0:0<s.length) (hn:n0≤63) {a b:Int} (h:sM s n0= .inl (a,b)):∃ v k:Nat,a=(v:Int)∧b=(k:Int)∧1≤k∧k≤s.length∧v<2 ^ 40:=by
 unfold sM at h
 split at h
 ·cases h
  exact ⟨n0,1,rfl,rfl,by omega,by omega,by omega⟩
 ·split at h
  ·cases h
  ·split at h
   ·cases h
   ·cases hl:vC 0 ((s.drop 1).take (n0-55)) with
    | none=>rw [hl] at h;cases h
    | some v=>
     rw [hl] at h
     unfold Eu at h
     simp only at h
     split at h
     ·cases h
      exact ⟨v,1+(n0-55),rfl,rfl,by omega,by omega,Kh _ 0 v (by omega) hl⟩
     ·cases h
theorem QS {s:List UInt8} {n0:Nat} {e:Int} (h:sM s n0= .inr e):e≠0:=by
 unfold sM at h
 split at h
 ·cases h
 ·split at h
  ·cases h;decide
  ·split at h
   ·cases h;decide
   ·cases hl:vC 0 ((s.drop 1).take (n0-55)) with
    | none=>rw [hl] at h;cases h;decide
    | some v=>
     rw [hl] at h
     unfold Eu at h
     simp only at h
     split at h
     ·cases h
     ·cases h;decide
theorem Is (f:List UInt8→Int→Int→Option (Item×Int×Int×Int)) (s:List UInt8) (d l:Nat) (n0:Nat) (hd:d≤64) (YK:1≤l) (P8:l≤4096) (h0:0<s.length) (hl:s.length≤2 ^ 40) (hb:128≤(s.getD 0 0).toNat) (hm:(s.getD 0 0).toNat%64=n0) (r:Item×Int×Int×Int)
  (hJ:∀ v k:Nat,sM s n0= .inl ((v:Int),(k:Int))→Comes (bn f s (d:Int) (l:Int)) (.J1 (v:Int) (k:Int)) r) (hE:∀ e,sM s n0= .inr e→r=(Gx,0,0,e)):Comes (bn f s (d:Int) (l:Int)) .S r:=by
 have hne:s≠[]:=List.length_pos_iff.1 h0
 have ht:(((idx s (0:Int)).toNat:Nat):Int).tmod 64=(n0:Int):=by
  rw [tF h0,Int.tmod_eq_emod_of_nonneg (by omega)];omega
 have hn:n0≤63:=by omega
 by_cases h1:n0≤55
 ·have hS:sM s n0= .inl ((n0:Int),((1:Nat):Int)):=by unfold sM;rw [if_pos h1];rfl
  refine Comes.next ?_ (hJ n0 1 hS)
  simp only [bn,ht]
  rw [decide_eq_false (by omega),cond_false,decide_eq_false (by omega),cond_false,ah (by unfold bf;omega),mW hne,cond_false,ah (by omega),tF h0,decide_eq_false (by omega),cond_false,decide_eq_false (by omega),cond_false]
  rfl
 ·have Cz:(n0:Int)-55=((n0-55:Nat):Int):=by omega
  by_cases h2:s.length<1+(n0-55)
  ·have hS:sM s n0= .inr 5:=by unfold sM;rw [if_neg h1,if_pos h2]
   rw [hE 5 hS]
   refine Comes.stop ?_
   simp only [bn,ht,Cz]
   rw [decide_eq_false (by omega),cond_false,decide_eq_false (by omega),cond_false,ah (by unfold bf;omega),mW hne,cond_false,ah (by omega),tF h0,decide_eq_false (by omega),cond_false,decide_eq_true (by omega),cond_true,ah (by unfold bf;omega),ah (by unfold bf;omega),decide_eq_true (by omega),cond_true]
   rfl
  ·by_cases h3:(s.getD 1 0).toNat=0
   ·have hS:sM s n0= .inr 6:=by unfold sM;rw [if_neg h1,if_neg h2,if_pos h3]
    rw [hE 6 hS]
    refine Comes.stop ?_
    simp only [bn,ht,Cz]
    rw [decide_eq_false (by omega),cond_false,decide_eq_false (by omega),cond_false,ah (by unfold bf;omega),mW hne,cond_false,ah (by omega),tF h0,decide_eq_false (by omega),cond_false,decide_eq_true (by omega),cond_true,ah (by unfold bf;omega),ah (by unfold bf;omega),decide_eq_false (by omega),cond_false,ah (by omega),PG (by omega),decide_eq_true (by omega),cond_true]
    rfl
   ·have hS:sM s n0=Eu (n0-55) (vC 0 ((s.drop 1).take (n0-55))):=by unfold sM;rw [if_neg h1,if_neg h2,if_neg h3]
    have key:=Tt f s (d:Int) (l:Int) (n0-55) (by rw [ht];omega) (by omega) (by omega) hl r
     (fun v hv Tu he=>hJ v (1+(n0-55)) (by rw [hS,he];unfold Eu;simp only;rw [if_pos Tu]))
     (fun he=>hE 5 (by rw [hS,he];rfl)) (fun v he Tu=>hE 6 (by rw [hS,he];unfold Eu;simp only;rw [if_neg Tu])) (n0-55) 0 0 rfl (by decide) (by rw [List.drop_zero])
    refine Comes.next ?_ key
    simp only [bn,ht,Cz]
    rw [decide_eq_false (by omega),cond_false,decide_eq_false (by omega),cond_false,ah (by unfold bf;omega),mW hne,cond_false,ah (by omega),tF h0,decide_eq_false (by omega),cond_false,decide_eq_true (by omega),cond_true,ah (by unfold bf;omega),ah (by unfold bf;omega),decide_eq_false (by omega),cond_false,ah (by omega),PG (by omega),decide_eq_false (by omega),cond_false]
    rfl
def Ag (n:Nat) (s:List UInt8) (d c:Nat):Prop:=
 (∃ (x:Item) (k:Nat),1≤k∧k≤s.length∧c+lE x≤4096∧RT (n-1) x∧bI x=s.take k∧∀ m,n≤m→cK m s (d:Int) ⟨(c:Int)⟩=some (.inl (x,(k:Int)),⟨((c+lE x:Nat):Int)⟩)∧fu m s (d:Int) ((4096-c:Nat):Int)=some (x,(k:Int),((4096-(c+lE x):Nat):Int),0))∨
 (∃ (e:Int) (c':counter),e≠0∧∀ m,n≤m→cK m s (d:Int) ⟨(c:Int)⟩=some (.inr e,c')∧fu m s (d:Int) ((4096-c:Nat):Int)=some (Gx,0,0,e))
theorem Tv (n:Nat) (s:List UInt8) (d:Nat) (BA:d≤64) (c0:counter) (l0:Int) (v kk:Nat) (hkv:kk+v≤2 ^ 41) (ih:∀ (t:List UInt8) (c:Nat),c≤4096→t.length≤2 ^ 40→Ag n t (d+1) c):∀ (N:Nat) (xI:List UInt8) (acc:List Item) (c:Nat),xI.length≤N→xI.length≤2 ^ 40→c≤4096→acc.length≤c→
  (∃ l:List Item,c+mg l≤4096∧(∀ y∈l,RT (n-1) y)∧cu l=xI∧∀ m,n≤m→Comes (bu (cK m) s (d:Int) c0) (.L2 (v:Int) (kk:Int) xI (c:Int) acc) (.inl (⟨true,[],acc++l⟩,((kk+v:Nat):Int)),⟨((c+mg l:Nat):Int)⟩)∧
   Comes (bn (fu m) s (d:Int) l0) (.L3 ((4096-c:Nat):Int) (v:Int) (kk:Int) xI acc) (⟨true,[],acc++l⟩,((kk+v:Nat):Int),((4096-(c+mg l):Nat):Int),0))∨
  (∃ (e:Int) (c':counter),e≠0∧∀ m,n≤m→Comes (bu (cK m) s (d:Int) c0) (.L2 (v:Int) (kk:Int) xI (c:Int) acc) (.inr e,c')∧
   Comes (bn (fu m) s (d:Int) l0) (.L3 ((4096-c:Nat):Int) (v:Int) (kk:Int) xI acc) (Gx,0,0,e)):=by
 intro N
 induction N with
 | zero=>
  intro xI acc c hN hl hc ha
  have:xI=[]:=List.length_eq_zero_iff.1 (by omega)
  subst this
  refine .inl ⟨[],by simp only [mg];omega,(fun y hy=>by simp at hy),(by simp only [cu]),fun m hm=>⟨Comes.stop ?_,Comes.stop ?_⟩⟩
  ·simp only [bu,mg,Nat.add_zero,List.append_nil]
   rw [show (!(([]:List UInt8)==[]))=false from rfl,cond_false,ah (by unfold bf;omega),show (kk:Int)+(v:Int)=((kk+v:Nat):Int) by omega]
  ·simp only [bn,mg,Nat.add_zero,List.append_nil]
   rw [show (!(([]:List UInt8)==[]))=false from rfl,cond_false,ah (by unfold bf;omega),show (kk:Int)+(v:Int)=((kk+v:Nat):Int) by omega]
 | succ N iN=>
  intro xI acc c hN hl hc ha
  by_cases hne:xI=[]
  ·subst hne
   exact iN [] acc c (by simp) hl hc ha
  ·have Mv:(d:Int)+1=((d+1:Nat):Int):=by omega
   rcases ih xI c hc hl with ⟨x,k,k1,k2,k3,k4,k5,hx⟩ | ⟨e,c',he,hx⟩
   ·have hx1:=Cb x
    have Le:sub xI (k:Int) (xI.length:Int)=xI.drop k:=by
     unfold sub;rw [Int.toNat_natCast,List.take_of_length_le (by rw [List.length_drop];omega)]
    have hrl:(xI.drop k).length≤N:=by rw [List.length_drop];omega
    have g1:∀ m,n≤m→bu (cK m) s (d:Int) c0 (.L2 (v:Int) (kk:Int) xI (c:Int) acc)=some (.inl (.L2 (v:Int) (kk:Int) (xI.drop k) ((c+lE x:Nat):Int) (acc++[x]))):=by
     intro m hm
     simp only [bu]
     rw [mW hne,Bool.not_false,cond_true,ah (by unfold bf;omega),Mv,(hx m hm).1,Option.bind_some]
     simp only
     rw [ah (by simp only [List.length_singleton];omega),ah (by omega),Le]
    have g2:∀ m,n≤m→bn (fu m) s (d:Int) l0 (.L3 ((4096-c:Nat):Int) (v:Int) (kk:Int) xI acc)=some (.inl (.L3 ((4096-(c+lE x):Nat):Int) (v:Int) (kk:Int) (xI.drop k) (acc++[x]))):=by
     intro m hm
     simp only [bn]
     rw [mW hne,Bool.not_false,cond_true,ah (by unfold bf;omega),Mv,(hx m hm).2,Option.bind_some]
     rw [show (!decide ((0:Int)=0))=false from rfl,cond_false,ah (by simp only [List.length_singleton];omega),ah (by show 0≤(k:Int)∧(k:Int)≤(xI.length:Int)∧_;omega),Le]
    rcases iN (xI.drop k) (acc++[x]) (c+lE x) hrl (by rw [List.length_drop];omega) k3 (by rw [List.length_append,List.length_singleton];omega) with ⟨l,l1,l3,l4,l2⟩ | ⟨e,c',he,l2⟩
    ·refine .inl ⟨x::l,by simp only [mg];omega,(fun y hy=>(List.mem_cons.1 hy).elim (fun e=>e▸k4) (l3 y)),(by simp only [cu];rw [k5,l4,List.take_append_drop]),fun m hm=>?_⟩
     have:=l2 m hm
     rw [List.append_assoc,List.singleton_append] at this
     simp only [mg, ← Nat.add_assoc]
     exact ⟨Comes.next (g1 m hm) this.1,Comes.next (g2 m hm) this.2⟩
    ·exact .inr ⟨e,c',he,fun m hm=>⟨Comes.next (g1 m hm) (l2 m hm).1,Comes.next (g2 m hm) (l2 m hm).2⟩⟩
   ·refine .inr ⟨e,c',he,fun m hm=>⟨Comes.stop ?_,Comes.stop ?_⟩⟩
    ·simp only [bu]
     rw [mW hne,Bool.not_false,cond_true,ah (by unfold bf;omega),Mv,(hx m hm).1,Option.bind_some]
    ·simp only [bn]
     rw [mW hne,Bool.not_false,cond_true,ah (by unfold bf;omega),Mv,(hx m hm).2,Option.bind_some]
     simp only
     rw [decide_eq_false he]
     rfl
theorem Tw:∀ (n:Nat) (s:List UInt8) (d c:Nat),0<n→d+n=66→c≤4096→s.length≤2 ^ 40→Ag n s d c
 | 0,_,_,_,h,_,_,_=>by omega
 | n+1,s,d,c,_,hd,hc,hl=>by
  have up:∀ {R:((Item×Int)⊕Int)×counter} {Q:Item×Int×Int×Int},(∀ m,n≤m→Comes (bu (cK m) s (d:Int) ⟨(c:Int)⟩) .S R∧Comes (bn (fu m) s (d:Int) ((4096-c:Nat):Int)) .S Q)→
    ∀ m,n+1≤m→cK m s (d:Int) ⟨(c:Int)⟩=some R∧fu m s (d:Int) ((4096-c:Nat):Int)=some Q:=by
   intro R Q h m hm
   obtain ⟨k,rfl⟩:∃ k,m=k+1:=⟨m-1,by omega⟩
   exact ⟨bZ (h k (by omega)).1,bZ (h k (by omega)).2⟩
  have ZO:d≤64→∀ t:List UInt8,RT n ⟨false,t,[]⟩:=by
   intro h t
   obtain ⟨j,rfl⟩:∃ j,n=j+1:=⟨n-1,by omega⟩
   exact ⟨fun _=>rfl,fun h=>by simp at h,fun y hy=>by simp at hy⟩
  by_cases Wm:d=65
  ·subst Wm
   refine .inr ⟨17,⟨((c+1:Nat):Int)⟩,by decide,up fun m hm=>⟨Comes.stop ?_,Comes.stop ?_⟩⟩
   ·have:fZ ((65:Nat):Int) ⟨(c:Int)⟩=some (.inr 17,⟨((c+1:Nat):Int)⟩):=by
     unfold fZ
     simp only
     rw [ah (by unfold bf;omega)]
     rfl
    simp only [bu,this,Option.bind_some]
   ·simp only [bn]
    rfl
  ·have BA:d≤64:=by omega
   by_cases hc6:c=4096
   ·refine .inr ⟨4,⟨((c+1:Nat):Int)⟩,by decide,up fun m hm=>⟨Comes.stop ?_,Comes.stop ?_⟩⟩
    ·simp only [bu,Tn (d:=d) BA hc6,Option.bind_some]
    ·simp only [bn]
     rw [decide_eq_false (by omega),cond_false,decide_eq_true (by omega),cond_true]
     rfl
   ·have h1:=Ll (d:=d) (c:=c) BA (by omega)
    by_cases hne:s=[]
    ·subst hne
     refine .inr ⟨5,⟨((c+1:Nat):Int)⟩,by decide,up fun m hm=>⟨Comes.stop ?_,Comes.stop ?_⟩⟩
     ·simp only [bu,h1,Option.bind_some]
      rfl
     ·simp only [bn]
      rw [decide_eq_false (by omega),cond_false,decide_eq_false (by omega),cond_false,ah (by unfold bf;omega)]
      rfl
    ·have h0:0<s.length:=List.length_pos_iff.2 hne
     by_cases hb:(s.getD 0 0).toNat<128
     ·
      have vU:∀ t,lE (⟨false,t,[]⟩:Item)=1:=by intro t;rw [rE];rfl
      have e1:sub s 0 1=s.take 1:=by unfold sub;simp
      have e2:(s.take 1).length=1∧((s.take 1).getD 0 0).toNat<128:=by
       refine ⟨by rw [List.length_take];omega,?_⟩
       have:(s.take 1).getD 0 0=s.getD 0 0:=by simp [List.getD_eq_getElem?_getD,List.getElem?_take]
       rw [this];exact hb
      refine .inl ⟨⟨false,sub s 0 1,[]⟩,1,by omega,by omega,by rw [vU];omega,ZO BA _,by rw [nE,e1];simp only;rw [if_pos trivial,if_pos e2],up fun m hm=>⟨Comes.stop ?_,Comes.stop ?_⟩⟩
      ·simp only [bu,h1,Option.bind_some,mW hne,Bool.not_false,fM]
       rw [ah (by omega),tF h0,decide_eq_true (by omega),cond_true,ah (by omega),vU]
       rfl
      ·simp only [bn]
       rw [decide_eq_false (by omega),cond_false,decide_eq_false (by omega),cond_false,ah (by unfold bf;omega),mW hne,cond_false,ah (by omega),tF h0,decide_eq_true (by omega),cond_true,ah (by omega),vU,
        show ((4096-c:Nat):Int)-1=((4096-(c+1):Nat):Int) by omega]
       rfl
     ·have abj:(s.getD 0 0).toNat<256:=UInt8.toNat_lt _
      obtain ⟨first,n0,Wn,hn0,hm,hsel⟩:∃ first n0:Nat,(s.getD 0 0).toNat=first+n0∧n0≤63∧(s.getD 0 0).toNat%64=n0∧(bif decide ((192:Int)≤(((s.getD 0 0).toNat:Nat):Int)) then some (192:Int) else some 128)=some (first:Int):=by
       by_cases ZP:192≤(s.getD 0 0).toNat
       ·exact ⟨192,(s.getD 0 0).toNat-192,by omega,by omega,by omega,by rw [decide_eq_true (by omega)];rfl⟩
       ·exact ⟨128,(s.getD 0 0).toNat-128,by omega,by omega,by omega,by rw [decide_eq_false (by omega)];rfl⟩
      have hL:=Tq s first n0 Wn h0 hn0 hl
      have hlI:((4096-c:Nat):Int)-1=((4096-(c+1):Nat):Int):=by omega
      have gS:∀ m,bu (cK m) s (d:Int) ⟨(c:Int)⟩ .S=(match sM s n0 with
        | .inl sj=>
         gO (bf ((s.length:Int)-sj.2)) ((gK (decide (sj.1≤(s.length:Int)-sj.2)) 5).bind fun xx=>match xx with
          | .inl _=>gO (bf (sj.2+sj.1)) (gO (0≤sj.2∧sj.2≤sj.2+sj.1∧sj.2+sj.1≤(s.length:Int)) (
            bif !decide ((192:Int)≤(((s.getD 0 0).toNat:Nat):Int)) then
             gO ((!decide (sj.1=1))=false→(0:Int)≤0∧0<((sub s sj.2 (sj.2+sj.1)).length:Int)) ((gK ((!decide (sj.1=1))||decide ((128:Int)≤(((idx (sub s sj.2 (sj.2+sj.1)) 0).toNat:Nat):Int))) 6).bind fun xx=>match xx with
              | .inl _=>(gL (sub s sj.2 (sj.2+sj.1))).bind fun X6=>gO (bf (sj.2+sj.1)) (some (.inr (.inl (X6,sj.2+sj.1),⟨((c+1:Nat):Int)⟩)))
              | .inr X7=>some (.inr (.inr X7,⟨((c+1:Nat):Int)⟩)))
            else some (.inl (.L2 sj.1 sj.2 (sub s sj.2 (sj.2+sj.1)) ((c+1:Nat):Int) []))))
          | .inr e28=>some (.inr (.inr e28,⟨((c+1:Nat):Int)⟩)))
        | .inr e22=>some (.inr (.inr e22,⟨((c+1:Nat):Int)⟩))):=by
       intro m
       simp only [bu,h1,Option.bind_some,mW hne,Bool.not_false,fM]
       rw [ah (by omega),tF h0,decide_eq_false (by omega),cond_false,ah (by omega),hsel,Option.bind_some,hL,Option.bind_some]
       rfl
      cases hS:sM s n0 with
      | inr e=>
       refine .inr ⟨e,⟨((c+1:Nat):Int)⟩,QS hS,up fun m hm'=>⟨Comes.stop ?_,Is _ s d (4096-c) n0 BA (by omega) (by omega) h0 hl (by omega) hm _ (fun v k h=>by rw [hS] at h;cases h) (fun e' h=>by rw [hS] at h;cases h;rfl)⟩⟩
       rw [gS,hS]
      | inl p=>
       obtain ⟨a,b⟩:=p
       obtain ⟨v,k,rfl,rfl,k1,k2,hv⟩:=QO h0 hn0 hS
       have rd:∀ m (r:Item×Int×Int×Int),Comes (bn (fu m) s (d:Int) ((4096-c:Nat):Int)) (.J1 (v:Int) (k:Int)) r→Comes (bn (fu m) s (d:Int) ((4096-c:Nat):Int)) .S r:=by
        intro m r h
        refine Is _ s d (4096-c) n0 BA (by omega) (by omega) h0 hl (by omega) hm r (fun v' k' h'=>?_) (fun e' h'=>by rw [hS] at h';cases h')
        rw [hS] at h'
        simp only [Sum.inl.injEq,Prod.mk.injEq] at h'
        rw [← h'.1, ← h'.2];exact h
       by_cases FN:s.length<k+v
       ·refine .inr ⟨5,⟨((c+1:Nat):Int)⟩,by decide,up fun m hm'=>⟨Comes.stop ?_,rd m _ (Comes.stop ?_)⟩⟩
        ·rw [gS,hS]
         simp only
         rw [ah (by unfold bf;omega),decide_eq_false (by omega)]
         rfl
        ·simp only [bn]
         rw [ah (by unfold bf;omega),decide_eq_true (by omega),cond_true]
         rfl
       ·have X8:(k:Int)+(v:Int)=((k+v:Nat):Int):=by omega
        have hsub:sub s (k:Int) ((k:Int)+(v:Int))=(s.drop k).take v:=by
         unfold sub;rw [X8,show (((k+v:Nat):Int)-(k:Int)).toNat=v by omega,Int.toNat_natCast]
        have RR:(sub s (k:Int) ((k:Int)+(v:Int))).length=v:=by
         unfold sub
         rw [List.length_take,List.length_drop];omega
        have J1:∀ m,bn (fu m) s (d:Int) ((4096-c:Nat):Int) (.J1 (v:Int) (k:Int))=(bif !decide ((192:Int)≤(((s.getD 0 0).toNat:Nat):Int)) then
          gO (decide ((v:Int)=1)=true→(0:Int)≤0∧0<((sub s (k:Int) ((k:Int)+(v:Int))).length:Int)) (bif decide ((v:Int)=1)&&decide ((((idx (sub s (k:Int) ((k:Int)+(v:Int))) 0).toNat:Nat):Int)<128) then some (.inr (Gx,0,0,6))
           else gO (bf ((k:Int)+(v:Int))) (some (.inr (⟨false,sub s (k:Int) ((k:Int)+(v:Int)),[]⟩,(k:Int)+(v:Int),((4096-(c+1):Nat):Int),0))))
          else some (.inl (.L3 ((4096-(c+1):Nat):Int) (v:Int) (k:Int) (sub s (k:Int) ((k:Int)+(v:Int))) []))):=by
         intro m
         simp only [bn]
         rw [ah (by unfold bf;omega),decide_eq_false (by omega),cond_false,ah (by unfold bf;omega),ah (by omega),tF h0,hlI]
         rfl
        have G1:∀ m,bu (cK m) s (d:Int) ⟨(c:Int)⟩ .S=(bif !decide ((192:Int)≤(((s.getD 0 0).toNat:Nat):Int)) then
             gO ((!decide ((v:Int)=1))=false→(0:Int)≤0∧0<((sub s (k:Int) ((k:Int)+(v:Int))).length:Int)) ((gK ((!decide ((v:Int)=1))||decide ((128:Int)≤(((idx (sub s (k:Int) ((k:Int)+(v:Int))) 0).toNat:Nat):Int))) 6).bind fun xx=>match xx with
              | .inl _=>(gL (sub s (k:Int) ((k:Int)+(v:Int)))).bind fun X6=>gO (bf ((k:Int)+(v:Int))) (some (.inr (.inl (X6,(k:Int)+(v:Int)),⟨((c+1:Nat):Int)⟩)))
              | .inr X7=>some (.inr (.inr X7,⟨((c+1:Nat):Int)⟩)))
            else some (.inl (.L2 (v:Int) (k:Int) (sub s (k:Int) ((k:Int)+(v:Int))) ((c+1:Nat):Int) []))):=by
         intro m
         rw [gS,hS]
         simp only
         rw [ah (by unfold bf;omega),decide_eq_true (by omega),fM,Option.bind_some]
         simp only
         rw [ah (by unfold bf;omega),ah (by omega)]
        by_cases ZP:192≤(s.getD 0 0).toNat
        ·rcases Tv n s d BA ⟨(c:Int)⟩ ((4096-c:Nat):Int) v k (by omega) (fun t c hc ht=>Tw n t (d+1) c (by omega) (by omega) hc ht) _ (sub s (k:Int) ((k:Int)+(v:Int))) [] (c+1) (Nat.le_refl _) (by omega) (by omega) (by simp) with ⟨l,l1,l3,l4,l2⟩ | ⟨e,c',he,l2⟩
         ·have vU:c+lE (⟨true,[],l⟩:Item)=c+1+mg l:=by rw [rE];show c+(1+mg l)=_;omega
          have rtl:RT n ⟨true,[],l⟩:=by
           obtain ⟨j,rfl⟩:∃ j,n=j+1:=⟨n-1,by omega⟩
           exact ⟨fun h=>by simp at h,fun _=>rfl,l3⟩
          have hh:=MX true h0 (by show _=192+n0;omega) hS
          refine .inl ⟨⟨true,[],l⟩,k+v,by omega,by omega,by omega,rtl,by rw [nE];simp only;rw [if_neg (by simp),l4,RR, ← hh,hsub,Ir],up fun m hm'=>?_⟩
          have:=l2 m hm'
          rw [List.nil_append] at this
          rw [vU]
          exact ⟨Comes.next (by rw [G1,decide_eq_true (by omega)];rfl) this.1,rd m _ (Comes.next (by rw [J1,decide_eq_true (by omega)];rfl) this.2)⟩
         ·exact .inr ⟨e,c',he,up fun m hm'=>⟨Comes.next (by rw [G1,decide_eq_true (by omega)];rfl) (l2 m hm').1,rd m _ (Comes.next (by rw [J1,decide_eq_true (by omega)];rfl) (l2 m hm').2)⟩⟩
        ·by_cases ZQ:v=1∧(idx (sub s (k:Int) ((k:Int)+(v:Int))) 0).toNat<128
         ·refine .inr ⟨6,⟨((c+1:Nat):Int)⟩,by decide,up fun m hm'=>⟨Comes.stop ?_,rd m _ (Comes.stop ?_)⟩⟩
          ·rw [G1,decide_eq_false (by omega),Bool.not_false,cond_true,ah (fun _=>by omega),decide_eq_true (by omega),decide_eq_false (by omega)]
           rfl
          ·rw [J1,decide_eq_false (by omega),Bool.not_false,cond_true,ah (fun _=>by omega),decide_eq_true (by omega),decide_eq_true (by omega)]
           rfl
         ·have vU:∀ t,lE (⟨false,t,[]⟩:Item)=1:=by intro t;rw [rE];rfl
          have hh:=MX false h0 (by show _=128+n0;omega) hS
          have X9:¬ ((sub s (k:Int) ((k:Int)+(v:Int))).length=1∧((sub s (k:Int) ((k:Int)+(v:Int))).getD 0 0).toNat<128):=by
           rw [RR];intro ⟨q1,q2⟩;exact ZQ ⟨q1,by rw [tF (by omega)];exact q2⟩
          refine .inl ⟨⟨false,sub s (k:Int) ((k:Int)+(v:Int)),[]⟩,k+v,by omega,by omega,by rw [vU];omega,ZO BA _,by rw [nE];simp only;rw [if_pos trivial,if_neg X9,RR, ← hh,hsub,Ir],up fun m hm'=>⟨Comes.stop ?_,rd m _ (Comes.stop ?_)⟩⟩
          ·have e1:((!decide ((v:Int)=1))||decide ((128:Int)≤(((idx (sub s (k:Int) ((k:Int)+(v:Int))) 0).toNat:Nat):Int)))=true:=by
            simp only [Bool.or_eq_true,Bool.not_eq_true',decide_eq_false_iff_not,decide_eq_true_eq];omega
           rw [G1,decide_eq_false (by omega),Bool.not_false,cond_true,ah (fun h=>by simp at h;omega),e1,fM,Option.bind_some]
           simp only [gL,Option.bind_some]
           rw [ah (by unfold bf;omega),vU,X8]
          ·have e1:(decide ((v:Int)=1)&&decide ((((idx (sub s (k:Int) ((k:Int)+(v:Int))) 0).toNat:Nat):Int)<128))=false:=by
            simp only [Bool.and_eq_false_iff,decide_eq_false_iff_not];omega
           rw [J1,decide_eq_false (by omega),Bool.not_false,cond_true,ah (fun h=>by have:=of_decide_eq_true h;omega),e1,cond_false,ah (by unfold bf;omega),vU,X8]
theorem QT (s:List UInt8) (hl:s.length≤2 ^ 40):(∃ (x:Item) (k:Nat) (a:Int),lE x≤4096∧RT 65 x∧bI x=s.take k∧k≤s.length∧oL s=some (x,(k:Int),0)∧k8 s 0 4096=some (x,(k:Int),a,0))∨
  (∃ e:Int,e≠0∧oL s=some (Gx,0,e)∧k8 s 0 4096=some (Gx,0,0,e)):=by
 rcases Tw 66 s 0 0 (by decide) rfl (by decide) hl with ⟨x,k,k1,k2,k3,k4,k5,h⟩ | ⟨e,c',he,h⟩
 ·have h1:mN s 0 ⟨0⟩=some (.inl (x,(k:Int)),⟨((0+lE x:Nat):Int)⟩):=jY 66 fun m hm=>(h m hm).1
  have h2:k8 s 0 4096=some (x,(k:Int),((4096-(0+lE x):Nat):Int),0):=jY 66 fun m hm=>(h m hm).2
  refine .inl ⟨x,k,_,by omega,k4,k5,k2,?_,h2⟩
  unfold oL
  rw [h1];rfl
 ·have h1:mN s 0 ⟨0⟩=some (.inr e,c'):=jY 66 fun m hm=>(h m hm).1
  have h2:k8 s 0 4096=some (Gx,0,0,e):=jY 66 fun m hm=>(h m hm).2
  refine .inr ⟨e,he,?_,h2⟩
  unfold oL
  rw [h1];rfl
end Go.Proofs.YtlfjfoknbjcncaaGreat.K
namespace Go.Proofs.YtlfjfoknbjcncaaGreat.K
open Go
theorem DC {l:List UInt8} {i:Nat} (h:i<l.length):l.drop i=l.getD i 0::l.drop (i+1):=by
 rw [List.drop_eq_getElem_cons h,List.getD_eq_getElem?_getD,List.getElem?_eq_getElem h]
 rfl
def common:List UInt8→List UInt8→Nat
 | a::r,b::q=>if a=b then common r q+1 else 0
 | _,_=>0
theorem z5 {a b:List UInt8} {i:Nat} (h1:i<a.length) (h2:i<b.length):common (a.drop i) (b.drop i)=if (a.getD i 0).toNat=(b.getD i 0).toNat then common (a.drop (i+1)) (b.drop (i+1))+1 else 0:=by
 rw [DC h1,DC h2,common]
 simp only [UInt8.toNat_inj]
theorem ya {a b:List UInt8} {i:Nat} (h:¬ (i<a.length∧i<b.length)):common (a.drop i) (b.drop i)=0:=by
 by_cases h1:i<a.length
 ·rw [show b.drop i=[] from List.drop_eq_nil_of_le (by omega)]
  cases a.drop i<;>rfl
 ·rw [show a.drop i=[] from List.drop_eq_nil_of_le (by omega)]
  rfl
def right (l:List UInt8):Bool:= !(l.any fun b=>decide (15<b.toNat))
theorem BB {x:UInt8} {r:List UInt8}:right (x::r)=(!(decide (15<x.toNat))&&right r):=by simp [right]
def fj:List UInt8→List UInt8
 | a::b::r=>(a*16||| b)::fj r
 | _=>[]
theorem yF {l:List UInt8} (h:l.length<2):fj l=[]:=by
 cases l with
 | nil=>rfl
 | cons a r=>cases r with
  | nil=>rfl
  | cons b q=>simp at h;omega
def dO:List UInt8→List UInt8
 | []=>[]
 | c::r=>c/16::c%16::dO r
theorem mX:∀ ks:List UInt8,(dO ks).length=2*ks.length
 | []=>rfl
 | c::r=>by simp only [dO,List.length_cons,mX r];omega
def cJ (p:List UInt8) (leaf:Bool):List UInt8:=
 if p.length%2=1 then fj ((if leaf then 3 else 1)::p) else fj ((if leaf then 2 else 0)::0::p)
def AH (p:List UInt8):Bool:=right p&&decide (p.length≤64)
theorem sN:∀ l:List UInt8,(fj l).length=l.length/2
 | []=>rfl
 | [_]=>by simp [fj]
 | a::b::r=>by simp only [fj,List.length_cons,sN r];omega
theorem It {p:List UInt8} (h:right p=true) (h2:p.length≤64):AH p=true:=by simp [AH,h,h2]
theorem zb {p:List UInt8} (h:right p=true) (i:Nat):(p.getD i 0).toNat<16:=by
 by_cases hi:i<p.length
 ·rw [List.getD_eq_getElem?_getD,List.getElem?_eq_getElem hi]
  simp only [right,Bool.not_eq_true',List.any_eq_false,decide_eq_true_eq] at h
  have:=h p[i] (List.getElem_mem hi)
  simp only [Option.getD_some]
  omega
 ·rw [List.getD_eq_getElem?_getD,List.getElem?_eq_none (by omega)]
  decide
theorem GH {a b:UInt8} (h:b.toNat<16):16*a+b=a*16||| b:=by
 apply UInt8.toNat_inj.1
 rw [UInt8.toNat_or,UInt8.toNat_add,UInt8.toNat_mul,UInt8.toNat_mul]
 have e:(16:UInt8).toNat=16:=rfl
 rw [e]
 have h1:a.toNat<256:=a.toNat_lt
 have h2:a.toNat*16%2 ^ 8=2 ^ 4*(a.toNat%16):=by omega
 rw [h2, ← Nat.two_pow_add_eq_or_of_lt (show b.toNat<2 ^ 4 by omega)]
 omega
theorem Fm {p:List UInt8} (h:p.length%2=0):cJ p true=[32]++fj (p.drop 0):=by
 rw [cJ,if_neg (by omega)];rfl
theorem Ev {p:List UInt8} (h:p.length%2=0):cJ p false=[0]++fj (p.drop 0):=by
 rw [cJ,if_neg (by omega)];rfl
theorem ofNat_add {b:UInt8} {n:Nat} (h:b.toNat<16) (hn:n<200):UInt8.ofNat ((n:Int)+(b.toNat:Int)).toNat=UInt8.ofNat n+b:=by
 apply UInt8.toNat_inj.1
 rw [UInt8.toNat_add,UInt8.toNat_ofNat',UInt8.toNat_ofNat']
 omega
theorem Ew {p:List UInt8} (m:UInt8) (h:p.length%2=1) (h2:(p.getD 0 0).toNat<16):fj (m::p)=(16*m+p.getD 0 0)::fj (p.drop 1):=by
 have e:p=p.getD 0 0::p.drop 1:=by have:=DC (l:=p) (i:=0) (by omega);simpa using this
 rw [GH h2]
 conv=>lhs;rw [e]
 rfl
theorem Gy {p:List UInt8} (h:p.length%2=1) (h2:(p.getD 0 0).toNat<16):cJ p true=[UInt8.ofNat (48+((p.getD 0 0).toNat:Int)).toNat]++fj (p.drop 1):=by
 rw [cJ,if_pos h]
 have e:=ofNat_add (n:=48) h2 (by omega)
 simp only [if_true]
 rw [Ew 3 h h2]
 exact congrArg (· ::fj (p.drop 1)) e.symm
theorem Fo {p:List UInt8} (h:p.length%2=1) (h2:(p.getD 0 0).toNat<16):cJ p false=[UInt8.ofNat (16+((p.getD 0 0).toNat:Int)).toNat]++fj (p.drop 1):=by
 rw [cJ,if_pos h]
 have e:=ofNat_add (n:=16) h2 (by omega)
 simp only [if_false,Bool.false_eq_true]
 rw [Ew 1 h h2]
 exact congrArg (· ::fj (p.drop 1)) e.symm
def nZ (c:UInt8) (n:Nat):Bool:=decide (3<c.toNat/16)||(decide (c.toNat/16%2=0)&&decide (c.toNat%16≠0))||decide (64+(2-c.toNat/16%2)<2*n)
def xu:List UInt8→Int
 | []=>5
 | c::r=>if nZ c (r.length+1) then 6 else 0
def pR:List UInt8→List UInt8
 | []=>[]
 | c::r=>if nZ c (r.length+1) then [] else (dO (c::r)).drop (2-c.toNat/16%2)
def xw:List UInt8→Bool
 | []=>false
 | c::r=>if nZ c (r.length+1) then false else decide (2≤c.toNat/16)
theorem CT:∀ (a b:List UInt8),dO (a++b)=dO a++dO b
 | [],b=>rfl
 | x::r,b=>by simp only [List.cons_append,dO,CT r b]
theorem BC {l:List UInt8} {i:Nat} (h:i<l.length):dO (l.take (i+1))=dO (l.take i)++[l.getD i 0/16,l.getD i 0%16]:=by
 rw [List.take_add_one,CT,List.getD_eq_getElem?_getD,List.getElem?_eq_getElem h]
 rfl
theorem QU {c:UInt8} {r o:List UInt8} {i:Nat} (f:o=dO ((c::r).take i)) (hi:0<i):o.getD 0 0=c/16∧o.getD 1 0=c%16:=by
 obtain ⟨j,rfl⟩:∃ j,i=j+1:=⟨i-1,by omega⟩
 subst f
 exact ⟨rfl,rfl⟩
theorem oU (c:UInt8):(c/16).toNat=c.toNat/16:=by rw [UInt8.toNat_div];rfl
theorem oV (c:UInt8):(c%16).toNat=c.toNat%16:=by rw [UInt8.toNat_mod];rfl
theorem oE (c:UInt8) (n:Nat):nZ c n=true↔(3<c.toNat/16∨(c.toNat/16%2=0∧c.toNat%16≠0)∨64+(2-c.toNat/16%2)<2*n):=by
 simp [nZ,or_assoc]
theorem rN {p:List UInt8} (h:AH p=true):right p=true∧p.length≤64:=by simpa [AH] using h
theorem z6 (p:List UInt8) (leaf:Bool):(cJ p leaf).length=p.length/2+1:=by
 unfold cJ
 split
 ·rw [sN,List.length_cons];omega
 ·rw [sN,List.length_cons,List.length_cons];omega
theorem BD {a b:UInt8} (ha:a.toNat<16) (hb:b.toNat<16):(a*16||| b)/16=a∧(a*16||| b)%16=b:=by
 rw [← GH hb]
 have e:(16*a+b).toNat=16*a.toNat+b.toNat:=by
  rw [UInt8.toNat_add,UInt8.toNat_mul]
  show (16*a.toNat%256+b.toNat)%256=_
  omega
 constructor
 ·apply UInt8.toNat_inj.1
  rw [oU,e];omega
 ·apply UInt8.toNat_inj.1
  rw [oV,e];omega
theorem Iu (c:UInt8):(c/16*16||| c%16)=c:=by
 have h:(c%16).toNat<16:=by rw [oV];omega
 rw [← GH h]
 apply UInt8.toNat_inj.1
 rw [UInt8.toNat_add,UInt8.toNat_mul,oU,oV]
 have:=c.toNat_lt
 show (16*(c.toNat/16)%256+c.toNat%16)%256=_
 omega
theorem BE {x:UInt8} {r:List UInt8} (h:right (x::r)=true):x.toNat<16∧right r=true:=by
 rw [BB] at h
 simp at h
 exact ⟨by omega,h.2⟩
theorem wv:∀ (q:List UInt8),q.length%2=0→right q=true→dO (fj q)=q
 | [],_,_=>rfl
 | [_],h,_=>by simp at h
 | a::b::r,h,hr=>by
  obtain ⟨h1,h2⟩:=BE hr
  obtain ⟨h3,h4⟩:=BE h2
  obtain ⟨e1,e2⟩:=BD h1 h3
  rw [fj,dO,e1,e2,wv r (by simp at h;omega) h4]
theorem oW:∀ (k:List UInt8),fj (dO k)=k
 | []=>rfl
 | c::r=>by rw [dO,fj,Iu,oW r]
theorem tG:∀ (k:List UInt8),right (dO k)=true
 | []=>rfl
 | c::r=>by
  have h1:(c/16).toNat<16:=by rw [oU];have:=c.toNat_lt;omega
  have h2:(c%16).toNat<16:=by rw [oV];omega
  rw [dO,BB,BB,tG r,decide_eq_false (by omega),decide_eq_false (by omega)]
  rfl
theorem MY (m x:UInt8) (q:List UInt8) (hm:m.toNat<4) (ho:m.toNat%2=1) (hx:x.toNat<16) (hq:right q=true) (he:q.length%2=0) (hl:q.length<64):
  pR ((m*16||| x)::fj q)=x::q∧xw ((m*16||| x)::fj q)=decide (2≤m.toNat)∧xu ((m*16||| x)::fj q)=0:=by
 obtain ⟨e1,e2⟩:=BD (show m.toNat<16 by omega) hx
 have e3:=congrArg UInt8.toNat e1
 have e4:=congrArg UInt8.toNat e2
 rw [oU] at e3
 rw [oV] at e4
 have hb:nZ (m*16||| x) ((fj q).length+1)=false:=by
  rw [Bool.eq_false_iff,ne_eq,oE,e3,e4,sN]
  omega
 simp only [pR,xw,xu,hb,Bool.false_eq_true,if_false,e3,ho,dO,e1,e2,wv q he hq,List.drop_succ_cons,List.drop_zero,and_true]
theorem MZ (m:UInt8) (q:List UInt8) (hm:m.toNat<4) (ho:m.toNat%2=0) (hq:right q=true) (he:q.length%2=0) (hl:q.length≤64):
  pR ((m*16||| 0)::fj q)=q∧xw ((m*16||| 0)::fj q)=decide (2≤m.toNat)∧xu ((m*16||| 0)::fj q)=0:=by
 obtain ⟨e1,e2⟩:=BD (show m.toNat<16 by omega) (show (0:UInt8).toNat<16 by decide)
 have e3:=congrArg UInt8.toNat e1
 have e4:=congrArg UInt8.toNat e2
 rw [oU] at e3
 rw [oV] at e4
 have e5:(0:UInt8).toNat=0:=rfl
 have hb:nZ (m*16||| 0) ((fj q).length+1)=false:=by
  rw [Bool.eq_false_iff,ne_eq,oE,e3,e4,sN,e5]
  omega
 simp only [pR,xw,xu,hb,Bool.false_eq_true,if_false,e3,ho,dO,e1,e2,wv q he hq,Nat.sub_zero,List.drop_succ_cons,List.drop_zero,and_true]
theorem Cd {p:List UInt8} (h:AH p=true) (leaf:Bool):pR (cJ p leaf)=p∧xw (cJ p leaf)=leaf∧xu (cJ p leaf)=0:=by
 obtain ⟨h1,h2⟩:=rN h
 unfold cJ
 split
 ·rename_i ho
  cases p with
  | nil=>simp at ho
  | cons x q=>
   obtain ⟨h3,h4⟩:=BE h1
   simp at ho h2
   cases leaf
   ·exact MY 1 x q (by decide) (by decide) h3 h4 (by omega) (by omega)
   ·exact MY 3 x q (by decide) (by decide) h3 h4 (by omega) (by omega)
 ·cases leaf
  ·exact MZ 0 p (by decide) (by decide) h1 (by omega) h2
  ·exact MZ 2 p (by decide) (by decide) h1 (by omega) h2
theorem F7 {p:List UInt8} (h:right p=true) (k:Nat):right (p.drop k)=true:=by
 unfold right at h ⊢
 simp only [Bool.not_eq_true',List.any_eq_false] at h ⊢
 exact fun x hx=>h x (List.mem_of_mem_drop hx)
theorem Lm {c:UInt8} {r:List UInt8} (h:nZ c (r.length+1)=false):xu (c::r)=0∧right (pR (c::r))=true∧(pR (c::r)).length≤64∧cJ (pR (c::r)) (xw (c::r))=c::r:=by
 have hb:=h
 rw [Bool.eq_false_iff,ne_eq,oE] at hb
 have hm:(c/16).toNat=c.toNat/16:=oU c
 have hx:(c%16).toNat=c.toNat%16:=oV c
 have hj:=Iu c
 refine ⟨by simp [xu,h],?_,?_,?_⟩
 ·simp only [pR,h,Bool.false_eq_true,if_false]
  exact F7 (tG _) _
 ·simp only [pR,h,Bool.false_eq_true,if_false,List.length_drop,mX,List.length_cons]
  omega
 ·simp only [pR,xw,h,Bool.false_eq_true,if_false]
  rcases Nat.mod_two_eq_zero_or_one (c.toNat/16) with h0 | h0
  ·have hx0:c%16=0:=by apply UInt8.toNat_inj.1;rw [hx];show _=0;omega
   rw [h0,show 2-0=1+1 from rfl]
   simp only [dO,List.drop_succ_cons,List.drop_zero]
   rw [cJ,if_neg (by rw [mX];omega),fj,oW]
   congr 1
   rw [← hj,hx0]
   congr 2
   apply UInt8.toNat_inj.1
   rw [hm]
   split
   ·rename_i hd;simp at hd;show 2=_;omega
   ·rename_i hd;simp at hd;show 0=_;omega
  ·rw [h0,show 2-1=0+1 from rfl]
   simp only [dO,List.drop_succ_cons,List.drop_zero]
   rw [cJ,if_pos (by rw [List.length_cons,mX];omega),fj,oW]
   congr 1
   refine Eq.trans ?_ hj
   congr 2
   apply UInt8.toNat_inj.1
   rw [hm]
   split
   ·rename_i hd;simp at hd;show 3=_;omega
   ·rename_i hd;simp at hd;show 1=_;omega
end Go.Proofs.YtlfjfoknbjcncaaGreat.K
namespace Go.Proofs.YtlfjfoknbjcncaaGreat.K
open Go
set_option linter.unusedVariables false
set_option linter.unusedSimpArgs false
theorem OS (v:List UInt8) (f:UInt8→Option Bool) (p:UInt8→Bool) (hf:∀ y∈v,f y=some (p y)) (hv:v.length≤1000000000):fT v f=some (v.any p):=by
 have hq:∀ i,i<v.length→f (idx v (i:Int))=some (p (idx v (i:Int))):=fun i hi=>hf _ (eg v hi)
 obtain ⟨r,hr,h⟩:=Comes.ex (step:=di v f) (fun i=> .L1 (i:Int)) (fun i=>p (idx v (i:Int))) v.length (fun i=>(i:Int)) (-1) (by
   intro i hi h
   simp only [di]
   rw [decide_eq_true (by omega),cond_true,ah (by omega),hq i hi,Option.bind_some,h,cond_false,ah (by unfold bf;omega)]
   rfl) (by
   intro i hi h
   simp only [di]
   rw [decide_eq_true (by omega),cond_true,ah (by omega),hq i hi,Option.bind_some,h,cond_true]) (by
   refine Comes.stop ?_
   simp only [di]
   rw [decide_eq_false (by omega),cond_false])
 have e:lz v f=some r:=bZ (Comes.next rfl hr)
 unfold fT
 rw [e,Option.bind_some]
 congr 1
 rcases h with ⟨i,hi,h1,_,rfl⟩ | ⟨h1,rfl⟩
 ·rw [decide_eq_true (by omega)];exact (List.any_eq_true.2 ⟨_,eg v hi,h1⟩).symm
 ·rw [decide_eq_false (by omega)];symm;rw [List.any_eq_false];intro x hx
  obtain ⟨i,hi,rfl⟩:=List.mem_iff_getElem.1 hx
  have:=h1 i hi
  rw [iU v hi] at this;simpa using this
theorem Iv (v:List (List UInt8)) (f:List UInt8→Option Bool) (p:List UInt8→Bool) (hf:∀ y∈v,f y=some (p y)) (hv:v.length≤1000000000):∃ r,h9 v f=some r∧((∃ i:Nat,r=(i:Int)∧i<v.length∧p (idx v (i:Int))=true∧∀ j,j<i→p (idx v (j:Int))=false)∨(r= -1∧∀ i,i<v.length→p (idx v (i:Int))=false)):=by
 have hq:∀ i,i<v.length→f (idx v (i:Int))=some (p (idx v (i:Int))):=fun i hi=>hf _ (eg v hi)
 obtain ⟨r,hr,h⟩:=Comes.ex (step:=cL v f) (fun i=> .L1 (i:Int)) (fun i=>p (idx v (i:Int))) v.length (fun i=>(i:Int)) (-1) (by
   intro i hi h
   simp only [cL]
   rw [decide_eq_true (by omega),cond_true,ah (by omega),hq i hi,Option.bind_some,h,cond_false,ah (by unfold bf;omega)]
   rfl) (by
   intro i hi h
   simp only [cL]
   rw [decide_eq_true (by omega),cond_true,ah (by omega),hq i hi,Option.bind_some,h,cond_true]) (by
   refine Comes.stop ?_
   simp only [cL]
   rw [decide_eq_false (by omega),cond_false])
 refine ⟨r,bZ (Comes.next rfl hr),?_⟩
 rcases h with ⟨i,hi,h1,h2,rfl⟩ | ⟨h1,rfl⟩
 ·exact .inl ⟨i,rfl,hi,h1,h2⟩
 ·exact .inr ⟨rfl,h1⟩
theorem Kj (p:List UInt8) (hp:p.length≤1000000000):qv p=some (right p):=by
 unfold qv
 rw [OS p _ (fun b=>decide (15<b.toNat)) (fun y _=>by
  simp only [qb]
  congr 1
  rw [Bool.eq_iff_iff];simp only [decide_eq_true_eq];omega) hp,Option.bind_some]
 rfl
theorem wD (a b:List UInt8) (ha:a.length≤1000000) (hb:b.length≤1000000):sC [a,b]=some (a++b):=by
 refine bZ (Comes.next (c':= .L1 [] 0) rfl (Comes.next (c':= .L1 a 1) ?_ (Comes.next (c':= .L1 (a++b) 2) ?_ (Comes.stop ?_))))
 ·simp only [mM]
  rw [decide_eq_true (by simp),cond_true,ah (by simp),ah (by show (0+a.length)*1≤_;omega),ah (by unfold bf;omega)]
  rfl
 ·simp only [mM]
  rw [decide_eq_true (by simp),cond_true,ah (by simp),ah (by show (a.length+b.length)*1≤_;omega),ah (by unfold bf;omega)]
  rfl
 ·simp only [mM]
  rw [decide_eq_false (by simp),cond_false]
theorem Ya (a:UInt8):um a 4=a*16:=by
 unfold um
 apply UInt8.toNat_inj.1
 rw [show min (4:Int).toNat 8=4 from rfl,UInt8.toNat_ofNat',UInt8.toNat_mul]
 rfl
theorem Tx (a:UInt8):oJ a 4=a/16:=by
 unfold oJ
 apply UInt8.toNat_inj.1
 have:=a.toNat_lt
 rw [show min (4:Int).toNat 8=4 from rfl,UInt8.toNat_ofNat',UInt8.toNat_div,show (16:UInt8).toNat=16 from rfl]
 exact Nat.mod_eq_of_lt (by omega)
theorem PI (a:UInt8):a&&& 15=a%16:=by
 apply UInt8.toNat_inj.1
 rw [UInt8.toNat_and,UInt8.toNat_mod]
 exact Nat.and_two_pow_sub_one_eq_mod a.toNat 4
theorem QV (p:List UInt8) (hp:p.length≤1000000):∀ (k i:Nat) (acc:List UInt8),p.length≤i+k→i≤p.length+1→acc.length≤i→Comes (kq p) (.L1 acc (i:Int)) (acc++fj (p.drop i)):=by
 intro k
 induction k with
 | zero=>
  intro i acc h h1 h2
  refine Comes.stop ?_
  simp only [kq]
  rw [ah (by unfold bf;omega),decide_eq_false (by omega),cond_false,yF (by rw [List.length_drop];omega),List.append_nil]
 | succ k ih=>
  intro i acc h h1 h2
  by_cases hi:i+1<p.length
  ·have:=ih (i+2) (acc++[(idx p (i:Int))*16||| idx p ((i+1:Nat):Int)]) (by omega) (by omega) (by simp;omega)
   rw [List.append_assoc] at this
   have e:fj (p.drop i)=[(idx p (i:Int))*16||| idx p ((i+1:Nat):Int)]++fj (p.drop (i+2)):=by
    rw [qz p (by omega:i<p.length),qz p hi];rfl
   rw [e]
   refine Comes.next ?_ this
   simp only [kq]
   rw [ah (by unfold bf;omega),decide_eq_true (by omega),cond_true,ah (by omega),ah (by unfold bf;omega),ah (by omega),ah (by simp only [List.length_singleton];omega),ah (by unfold bf;omega),Ya]
   rfl
  ·refine Comes.stop ?_
   simp only [kq]
   rw [ah (by unfold bf;omega),decide_eq_false (by omega),cond_false,yF (by rw [List.length_drop];omega),List.append_nil]
theorem Ce (p:List UInt8) (hp:p.length≤1000000):wg p=some (fj p):=by
 refine bZ (Comes.next rfl ?_)
 have:=QV p hp p.length 0 [] (by omega) (by omega) (by simp)
 simpa using this
theorem Iw (n:Nat):decide ((n:Int).tmod 2=1)=decide (n%2=1):=by
 rw [Bool.eq_iff_iff];simp only [decide_eq_true_eq]
 rw [Int.tmod_eq_emod_of_nonneg (by omega)];omega
theorem Ix {p:List UInt8} (h:AH p=true) (leaf:Bool):u5 p leaf=some (cJ p leaf,0):=by
 obtain ⟨h1,h2⟩:=rN h
 unfold u5
 rw [Kj p (by omega),Option.bind_some,h1,decide_eq_false (by omega),Iw]
 by_cases ho:p.length%2=1
 ·rw [decide_eq_true ho]
  unfold cJ
  rw [if_pos ho]
  cases leaf
  ·simp only [Bool.not_true,Bool.or_self,cond_false,Option.bind_some,cond_true]
   rw [wD _ _ (by simp) (by omega),Option.bind_some,Ce _ (by simp;omega)]
   rfl
  ·simp only [Bool.not_true,Bool.or_self,cond_false,Option.bind_some,cond_true]
   rw [wD _ _ (by simp) (by omega),Option.bind_some,Ce _ (by simp;omega)]
   rfl
 ·rw [decide_eq_false ho]
  unfold cJ
  rw [if_neg ho]
  cases leaf
  ·simp only [Bool.not_true,Bool.or_self,cond_false,Option.bind_some,cond_true]
   rw [wD _ _ (by simp) (by omega),Option.bind_some,Ce _ (by simp;omega)]
   rfl
  ·simp only [Bool.not_true,Bool.or_self,cond_false,Option.bind_some,cond_true]
   rw [wD _ _ (by simp) (by omega),Option.bind_some,Ce _ (by simp;omega)]
   rfl
theorem OT (s:List UInt8) (hs:s.length≤1000000):yt s=some (pR s,xw s,xu s):=by
 cases s with
 | nil=>exact bZ (Comes.stop rfl)
 | cons c r=>
  refine bZ (Comes.next (c':= .L1 0 []) rfl ?_)
  have hm:gl (((c::r).length:Nat):Int) 64=((min (c::r).length 64:Nat):Int):=by unfold gl;split<;>omega
  have h1:1≤min (c::r).length 64:=by simp only [List.length_cons];omega
  refine Comes.upto (step:=kG (c::r)) (fun i=> .L1 (i:Int) (dO ((c::r).take i))) (min (c::r).length 64) ?_ ?_
  ·intro i hi
   have hi':i<(c::r).length:=by omega
   have hl:(dO ((c::r).take i)).length≤2*i:=by rw [mX,List.length_take];omega
   simp only [kG]
   rw [hm,decide_eq_true (by omega),cond_true,ah (by omega)]
   unfold rL
   rw [ah (by simp only [List.length_cons,List.length_nil];omega),Option.bind_some,ah (by unfold bf;omega),Tx,PI,BC hi',iB]
   rfl
  ·have ho:(dO ((c::r).take (min (c::r).length 64))).length=2*min (c::r).length 64:=by
    rw [mX,List.length_take];omega
   obtain ⟨e0,e1⟩:=QU (c:=c) (r:=r) (i:=min (c::r).length 64) rfl (by omega)
   generalize hO:dO ((c::r).take (min (c::r).length 64))=o at ho e0 e1
   have i0:idx o (0:Int)=c/16:=by rw [← e0];rfl
   have i1:idx o (1:Int)=c%16:=by rw [← e1];rfl
   have hc:=c.toNat_lt
   have m2:((c/16%2).toNat:Int)=((c.toNat/16%2:Nat):Int):=by rw [UInt8.toNat_mod,oU];rfl
   have hL:(c::r).length=r.length+1:=rfl
   refine Comes.stop ?_
   simp only [kG]
   rw [hm,decide_eq_false (by omega),cond_false,ah (by omega),i0,i1,m2,oU,oV,ah (by unfold bf;omega),ah (fun _=>by omega),ah (fun _=>by unfold bf;omega),ah (fun _=>by unfold bf;omega)]
   by_cases hb:nZ c (r.length+1)=true
   ·have hb':=(oE _ _).1 hb
    have:((decide ((3:Int)<((c.toNat/16:Nat):Int))||(decide (((c.toNat/16%2:Nat):Int)=0)&& !decide (((c.toNat%16:Nat):Int)=0)))||decide ((64:Int)<2*(((c::r).length:Nat):Int)-(2-((c.toNat/16%2:Nat):Int))))=true:=by
     simp only [Bool.or_eq_true,Bool.and_eq_true,Bool.not_eq_true',decide_eq_true_eq,decide_eq_false_iff_not];omega
    rw [this,cond_true]
    simp only [pR,xw,xu,hb,if_true]
   ·have hb':nZ c (r.length+1)=false:=by simpa using hb
    have NS:=mt (oE c (r.length+1)).2 hb
    have:((decide ((3:Int)<((c.toNat/16:Nat):Int))||(decide (((c.toNat/16%2:Nat):Int)=0)&& !decide (((c.toNat%16:Nat):Int)=0)))||decide ((64:Int)<2*(((c::r).length:Nat):Int)-(2-((c.toNat/16%2:Nat):Int))))=false:=by
     simp only [Bool.or_eq_false_iff,Bool.and_eq_false_iff,Bool.not_eq_false',decide_eq_true_eq,decide_eq_false_iff_not];omega
    rw [this,cond_false,ah (by omega)]
    have hn:(c::r).take (min (c::r).length 64)=c::r:=List.take_of_length_le (by omega)
    rw [hn] at hO
    subst hO
    have e2:(2:Int)-((c.toNat/16%2:Nat):Int)=((2-c.toNat/16%2:Nat):Int):=by omega
    rw [e2,nD]
    simp only [pR,xw,xu,hb',Bool.false_eq_true,if_false]
    congr 4
    rw [Bool.eq_iff_iff];simp only [decide_eq_true_eq];omega
theorem OU (p:List UInt8) (hp:p.length≤1000000):tA p=some (right p):=by
 have h:=Comes.all (step:=je p) (fun i=> .L1 (i:Int)) (fun i=> !decide (15<(idx p (i:Int)).toNat)) p.length false true (by
   intro i hi h
   have h:¬ 15<(idx p (i:Int)).toNat:=by simpa using h
   simp only [je]
   rw [decide_eq_true (by omega),cond_true,ah (by omega),decide_eq_false (by omega),cond_false,ah (by unfold bf;omega)]
   rfl) (by
   intro i hi h
   have h:15<(idx p (i:Int)).toNat:=by simpa using h
   simp only [je]
   rw [decide_eq_true (by omega),cond_true,ah (by omega),decide_eq_true (by omega),cond_true]) (by
   refine Comes.stop ?_
   simp only [je]
   rw [decide_eq_false (by omega),cond_false])
 have e:tA p=some _:=bZ (Comes.next rfl h)
 rw [e,Io p (fun b=> !decide (15<b.toNat))]
 congr 1
 unfold right
 cases hh:p.any (fun b=>decide (15<b.toNat)) with
 | true=>
  have:(p.all fun b=> !decide (15<b.toNat))=false:=by
   rw [List.all_eq_false]
   obtain ⟨x,hx,hb⟩:=List.any_eq_true.1 hh
   exact ⟨x,hx,by rw [hb];simp⟩
  rw [this];rfl
 | false=>
  have:(p.all fun b=> !decide (15<b.toNat))=true:=by
   rw [List.all_eq_true]
   intro x hx
   have:=List.any_eq_false.1 hh x hx
   simpa using this
  rw [this];rfl
theorem Kk (p:List UInt8) (leaf:Bool) (hr:right p=true) (hp:p.length≤64):∀ (k i:Nat) (acc:List UInt8),p.length=i+2*k→acc.length≤i+1→Comes (gC p leaf) (.L3 acc (i:Int)) (acc++fj (p.drop i)):=by
 intro k
 induction k with
 | zero=>
  intro i acc h h2
  refine Comes.stop ?_
  simp only [gC]
  rw [decide_eq_false (by omega),cond_false,yF (by rw [List.length_drop];omega),List.append_nil]
 | succ k ih=>
  intro i acc h h2
  have:=ih (i+2) (acc++[(idx p (i:Int))*16||| idx p ((i+1:Nat):Int)]) (by omega) (by simp;omega)
  rw [List.append_assoc] at this
  have e:fj (p.drop i)=[(idx p (i:Int))*16||| idx p ((i+1:Nat):Int)]++fj (p.drop (i+2)):=by
   rw [qz p (by omega:i<p.length),qz p (by omega:i+1<p.length)];rfl
  rw [e]
  refine Comes.next ?_ this
  have hlt:(idx p ((i+1:Nat):Int)).toNat<16:=by rw [iB];exact zb hr _
  simp only [gC]
  rw [decide_eq_true (by omega),cond_true,ah (by omega),ah (by unfold bf;omega),ah (by omega),ah (by simp only [List.length_singleton];omega),ah (by unfold bf;omega), ← GH hlt]
  rfl
theorem zc {p:List UInt8} (h:AH p=true) (leaf:Bool):mC p leaf=some (cJ p leaf):=by
 obtain ⟨h1,h2⟩:=rN h
 have h0:(idx p (0:Int)).toNat<16:=zb h1 0
 have Gj:(p.getD 0 0).toNat<16:=zb h1 0
 have hg:idx p (0:Int)=p.getD 0 0:=rfl
 refine bZ ?_
 by_cases ho:p.length%2=1
 ·have hL:=fun a=>Kk p leaf h1 h2 (p.length/2) 1 [a] (by omega) (by simp)
  cases leaf
  ·rw [Fo ho Gj]
   refine Comes.next ?_ (hL _)
   simp only [gC,cond_false,Option.bind_some]
   rw [Iw,decide_eq_true ho,cond_true,ah (by unfold bf;omega),ah (by omega),ah (by unfold bf;omega),Option.bind_some,show (0:Int)+16+((idx p (0:Int)).toNat:Int)=((16+(p.getD 0 0).toNat:Nat):Int) by rw [hg];omega,xq]
   rw [show ((16:Int)+((p.getD 0 0).toNat:Int)).toNat=16+(p.getD 0 0).toNat by omega]
   rfl
  ·rw [Gy ho Gj]
   refine Comes.next ?_ (hL _)
   simp only [gC,cond_true,Option.bind_some]
   rw [Iw,decide_eq_true ho,cond_true,ah (by unfold bf;omega),ah (by omega),ah (by unfold bf;omega),Option.bind_some,show (32:Int)+16+((idx p (0:Int)).toNat:Int)=((48+(p.getD 0 0).toNat:Nat):Int) by rw [hg];omega,xq]
   rw [show ((48:Int)+((p.getD 0 0).toNat:Int)).toNat=48+(p.getD 0 0).toNat by omega]
   rfl
 ·have hL:=fun a=>Kk p leaf h1 h2 (p.length/2) 0 [a] (by omega) (by simp)
  cases leaf
  ·rw [Ev (by omega)]
   refine Comes.next ?_ (hL _)
   simp only [gC,cond_false,Option.bind_some]
   rw [Iw,decide_eq_false ho,cond_false,Option.bind_some]
   rfl
  ·rw [Fm (by omega)]
   refine Comes.next ?_ (hL _)
   simp only [gC,cond_true,Option.bind_some]
   rw [Iw,decide_eq_false ho,cond_false,Option.bind_some]
   rfl
end Go.Proofs.YtlfjfoknbjcncaaGreat.K
namespace Go.Proofs.YtlfjfoknbjcncaaGreat.K
open Go
set_option linter.unusedVariables false
set_option linter.unusedSimpArgs false
theorem RT.mono:∀ {n m:Nat} {x:Item},RT n x→n≤m→RT m x
 | n+1,m+1,x,h,hm=>⟨h.1,h.2.1,fun y hy=>RT.mono (h.2.2 y hy) (by omega)⟩
 | n+1,0,x,h,hm=>by omega
theorem Cf (x:Item):1≤(bI x).length:=List.length_pos_iff.2 (Es x)
theorem Iy:∀ (l:List Item) (y:Item),y∈l→(bI y).length≤(cu l).length
 | x::r,y,h=>by
  simp only [cu,List.length_append]
  rcases List.mem_cons.1 h with rfl | h
  ·omega
  ·have:=Iy r y h;omega
theorem DD:∀ l:List Item,l.length≤(cu l).length
 | []=>Nat.le_refl _
 | x::r=>by have:=DD r;have:=Cf x;simp only [cu,List.length_append,List.length_cons];omega
theorem DE:∀ a b:List Item,cu (a++b)=cu a++cu b
 | [],b=>by simp [cu]
 | x::r,b=>by simp only [List.cons_append,cu,DE r b,List.append_assoc]
theorem xy (l:List Item):bI ⟨true,[],l⟩=hd true (cu l).length++cu l:=by rw [nE];simp
theorem GI {x:Item} (h:x.bQ=true):bI x=hd true (cu x.fL).length++cu x.fL:=by rw [nE,if_neg (by simp [h])]
theorem PJ (l:Bool) (k:Nat):1≤(hd l k).length:=List.length_pos_iff.2 (Ip l k)
theorem Cg {x y:Item} (h:x.bQ=true) (hy:y∈x.fL):(bI y).length<(bI x).length:=by
 rw [GI h,List.length_append]
 have:=Iy _ _ hy;have:=PJ true (cu x.fL).length;omega
theorem Ln (x:Item) (h:x.bQ=false):x.fS.length≤(bI x).length:=by
 rw [nE,if_pos h]
 split
 ·exact Nat.le_refl _
 ·simp
theorem Kl:∀ l:List Item,(∀ y∈l,lE y≤(bI y).length)→mg l≤(cu l).length
 | [],_=>Nat.le_refl _
 | x::r,h=>by
  have:=Kl r fun y hy=>h y (List.mem_cons_of_mem _ hy)
  have:=h x (List.mem_cons_self ..)
  simp only [mg,cu,List.length_append];omega
theorem Iz:∀ (n:Nat) (x:Item),RT n x→lE x≤(bI x).length
 | n+1,x,h=>by
  rw [rE]
  cases hx:x.bQ with
  | false=>rw [h.1 hx];exact Cf x
  | true=>
   rw [GI hx,List.length_append]
   have:=Kl x.fL fun y hy=>Iz n y (h.2.2 y hy)
   have:=PJ true (cu x.fL).length;omega
theorem PK:∀ (n:Nat) (x:Item),RT n x→RT (bI x).length x
 | n+1,x,h=>by
  obtain ⟨j,hj⟩:∃ j,(bI x).length=j+1:=⟨(bI x).length-1,by have:=Cf x;omega⟩
  rw [hj]
  refine ⟨h.1,h.2.1,fun y hy=>?_⟩
  cases hx:x.bQ with
  | false=>rw [h.1 hx] at hy;cases hy
  | true=>
   have:=Cg hx hy
   exact (PK n y (h.2.2 y hy)).mono (by omega)
theorem PL:∀ (n:Nat) (x:Item),RT n x→(bI x).length≤2 ^ 32→Wh n x
 | n+1,x,h,hl=>by
  cases hx:x.bQ with
  | false=>
   have:=Ln x hx
   refine ⟨by rw [h.1 hx];simp,by omega,fun y hy=>?_⟩
   rw [h.1 hx] at hy;cases hy
  | true=>
   have:=DD x.fL
   have e:=GI hx
   have:(cu x.fL).length≤(bI x).length:=by rw [e,List.length_append];omega
   refine ⟨by omega,by rw [h.2.1 hx];simp,fun y hy=>PL n y (h.2.2 y hy) (by have:=Cg hx hy;omega)⟩
theorem z7 {n:Nat} {x:Item} (h:RT n x) (hn:n≤65) (hl:(bI x).length≤4096):mP x=some (bI x,0):=
 Wj x (PL n x h (by omega)) h hn (by omega) (by have:=Iz n x h;omega)
theorem z8 {n:Nat} {x:Item} (h:RT n x) (hn:n≤65) (hl:(bI x).length≤4096):gV (bI x)=some (x,0):=
 QN x h hn (by omega) (by have:=Iz n x h;omega)
theorem OV (s:List UInt8) (hl:s.length≤4000):
  (∃ x,RT 65 x∧bI x=s∧gV s=some (x,0)∧∃ a,k8 s 0 4096=some (x,(s.length:Int),a,0))∨
  (∃ e,e≠0∧gV s=some (Gx,e)∧∃ y k a f,k8 s 0 4096=some (y,k,a,f)∧((!decide (f=0))||(!decide (k=(s.length:Int))))=true):=by
 rcases QT s (by omega) with ⟨x,k,a,h1,h2,h3,h4,h5,h6⟩ | ⟨e,he,h1,h2⟩
 ·by_cases hk:k=s.length
  ·refine .inl ⟨x,h2,by rw [h3,hk,List.take_length],?_,a,by rw [h6,hk]⟩
   unfold gV
   rw [h5,Option.bind_some,hk]
   simp
  ·refine .inr ⟨6,by decide,?_,x,(k:Int),a,0,h6,?_⟩
   ·unfold gV
    rw [h5,Option.bind_some,show (!decide ((0:Int)=0))=false from rfl,cond_false,decide_eq_false (by show ¬ ((k:Int)=(s.length:Int));omega)]
    rfl
   ·rw [decide_eq_false (by omega:¬ ((k:Int)=(s.length:Int)))];rfl
 ·refine .inr ⟨e,he,?_,Gx,0,0,e,h2,by rw [decide_eq_false he];rfl⟩
  unfold gV
  rw [h1,Option.bind_some,decide_eq_false he]
  rfl
theorem Tz (f:Item→Option (List UInt8)) (x:Item) (hf:∀ y∈x.fL,f y=some (bI y)) (hl:(cu x.fL).length≤2 ^ 32):∀ (k i:Nat) (acc:List UInt8),k+i=x.fL.length→acc++cu (x.fL.drop i)=cu x.fL→
  Comes (jt f x) (.L1 acc (i:Int)) (hd true (cu x.fL).length++cu x.fL):=by
 have P2:=DD x.fL
 intro k
 induction k with
 | zero=>
  intro i acc h1 h2
  have e:acc=cu x.fL:=by rw [← h2,List.drop_eq_nil_of_le (by omega)];simp [cu]
  subst e
  have:=DA true (k:=(cu x.fL).length) hl
  refine Comes.stop ?_
  simp only [jt]
  rw [decide_eq_false (by omega),cond_false,Ca _ true (by omega),Option.bind_some,ah (by omega)]
 | succ k ih=>
  intro i acc h1 h2
  have hi:i<x.fL.length:=by omega
  rw [qz x.fL hi] at h2
  simp only [cu] at h2
  have hal:acc.length+(bI (idx x.fL (i:Int))).length≤2 ^ 32:=by
   have:=congrArg List.length h2
   simp only [List.length_append] at this
   omega
  refine Comes.next ?_ (ih (i+1) (acc++bI (idx x.fL (i:Int))) (by omega) (by rw [List.append_assoc];exact h2))
  simp only [jt]
  rw [decide_eq_true (by omega),cond_true,ah (by omega),hf _ (eg x.fL hi),Option.bind_some,ah (by omega),ah (by unfold bf;omega)]
  rfl
theorem Km:∀ (n m:Nat) (x:Item),RT n x→n≤m→(bI x).length≤2 ^ 32→ou m x=some (bI x)
 | n+1,m+1,x,h,hm,hl=>by
  show yz (ou m) x=_
  refine bZ ?_
  cases hx:x.bQ with
  | true=>
   have e:=GI hx
   have h2:(cu x.fL).length≤2 ^ 32:=by rw [e,List.length_append] at hl;omega
   rw [e]
   refine Comes.next (c':= .L1 [] 0) ?_ (Tz _ x (fun y hy=>Km n m y (h.2.2 y hy) (by omega) (by have:=Cg hx hy;omega)) h2 x.fL.length 0 [] (by omega) rfl)
   simp only [jt]
   rw [hx];rfl
  | false=>
   have hfl:=Ln x hx
   refine Comes.stop ?_
   simp only [jt]
   rw [hx,Bool.not_false,cond_true,ah (fun h=>by have:=of_decide_eq_true h;omega),nE,if_pos hx]
   by_cases h1:x.fS.length=1∧(x.fS.getD 0 0).toNat<128
   ·have DS:(idx x.fS (0:Int)).toNat<128:=h1.2
    rw [if_pos h1,decide_eq_true (by omega),decide_eq_true (by omega)]
    rfl
   ·rw [if_neg h1]
    have e:(decide ((x.fS.length:Int)=1)&&decide (((idx x.fS (0:Int)).toNat:Int)≤127))=false:=by
     rw [Bool.and_eq_false_iff,decide_eq_false_iff_not,decide_eq_false_iff_not]
     have hg:idx x.fS (0:Int)=x.fS.getD 0 0:=rfl
     rw [hg];omega
    have:=DA false (k:=x.fS.length) (by omega)
    rw [e,cond_false,Ca _ false (by omega),Option.bind_some,ah (by omega)]
theorem IA {n:Nat} {x:Item} (h:RT n x) (hl:(bI x).length≤2 ^ 32):wo x=some (bI x):=jY n fun m hm=>Km n m x h hm hl
theorem TA (s:List UInt8) (hs:s.length≤1000000):∃ p leaf ok,rA s=some (p,leaf,ok)∧((ok=true∧xu s=0∧p=pR s∧leaf=xw s)∨(ok=false∧xu s≠0)):=by
 cases s with
 | nil=>exact ⟨[],false,false,bZ (Comes.stop (by simp only [ij];rw [ah (fun h=>by simp at h)];rfl)), .inr ⟨rfl,by decide⟩⟩
 | cons c r=>
  have hc:=c.toNat_lt
  have i0:idx (c::r) (0:Int)=c:=rfl
  have hL:(c::r).length=r.length+1:=rfl
  by_cases Fp:64≤c.toNat
  ·refine ⟨[],false,false,bZ (Comes.stop ?_), .inr ⟨rfl,?_⟩⟩
   ·simp only [ij]
    rw [ah (fun _=>by omega),i0,decide_eq_true (by omega),Bool.or_true,cond_true]
   ·have:nZ c (r.length+1)=true:=(oE _ _).2 (by omega)
    simp only [xu,this,if_true];decide
  ·
   have m2:decide (((c/16%2).toNat:Int)=1)=decide (c.toNat/16%2=1):=by
    rw [Bool.eq_iff_iff];simp only [decide_eq_true_eq]
    rw [UInt8.toNat_mod,oU,show (2:UInt8).toNat=2 from rfl];omega
   let q:List UInt8:=if c.toNat/16%2=1 then [c%16] else []
   have hq1:q.length≤1:=by show (if c.toNat/16%2=1 then [c%16] else []).length≤1;split<;>simp
   have Yb:right q=true:=by
    have:(c%16).toNat<16:=by rw [oV];omega
    show right (if c.toNat/16%2=1 then [c%16] else [])=true
    split
    ·simp only [right,List.any_cons,List.any_nil];rw [decide_eq_false (by omega)];rfl
    ·rfl
   let n:=min r.length 39
   let p:=q++dO (r.take n)
   have Yc:decide ((32:Int)≤(c.toNat:Int))=decide (2≤c.toNat/16):=by
    rw [Bool.eq_iff_iff];simp only [decide_eq_true_eq];omega
   have BF:right p=true:=by
    have a:=Yb
    have b:=tG (r.take n)
    simp only [right,Bool.not_eq_true'] at a b ⊢
    show (q++dO (r.take n)).any _=false
    rw [List.any_append,a,b];rfl
   have Fq:p.length=q.length+2*n:=by
    show (q++dO (r.take n)).length=_
    rw [List.length_append,mX,List.length_take];omega
   have key:∀ ok,(bif (decide ((p.length:Int)≤64)==true) then mC p (decide (2≤c.toNat/16)) else some default).bind (fun x=>some (decide ((p.length:Int)≤64)&&(x==(c::r))))=some ok→rA (c::r)=some (p,decide (2≤c.toNat/16),ok):=by
    intro ok hok
    refine bZ (Comes.next (c':= .L2 q 1) ?_ ?_)
    ·simp only [ij]
     rw [ah (fun _=>by omega),i0,decide_eq_false (by omega),show ((c::r)==([]:List UInt8))=false from rfl,Bool.or_self,cond_false,ah (by omega),m2]
     by_cases h:c.toNat/16%2=1
     ·have eq:q=[c%16]:=if_pos h
      rw [decide_eq_true h,cond_true,ah (by omega),ah (by simp),eq]
      rfl
     ·have eq:q=[]:=if_neg h
      rw [decide_eq_false h,cond_false,eq]
      rfl
    ·have:=Comes.upto (step:=ij (c::r)) (fun i=> .L2 (q++dO (r.take i)) ((i+1:Nat):Int)) n (r:=(p,decide (2≤c.toNat/16),ok)) (by
      intro i hi
      have hi':i<r.length:=by omega
      have hl:(q++dO (r.take i)).length≤1+2*i:=by rw [List.length_append,mX,List.length_take];omega
      have ii:idx (c::r) ((i+1:Nat):Int)=r.getD i 0:=by rw [iB];rfl
      simp only [ij]
      rw [decide_eq_true (by omega:((i+1:Nat):Int)<(((c::r).length:Nat):Int)),decide_eq_true (by omega),Bool.and_self,cond_true,ah (by omega),ah (by omega),ii,ah (by simp only [List.length_cons,List.length_nil];omega),ah (by unfold bf;omega),BC hi',List.append_assoc]
      rfl) (by
      refine Comes.stop ?_
      simp only [ij]
      have e1:(decide (((n+1:Nat):Int)<(((c::r).length:Nat):Int))&&decide (((n+1:Nat):Int)<40))=false:=by
       rw [Bool.and_eq_false_iff,decide_eq_false_iff_not,decide_eq_false_iff_not]
       omega
      rw [e1,cond_false,ah (by omega),i0,Yc]
      show Option.bind (bif (decide ((p.length:Int)≤64)==true) then mC p (decide (2≤c.toNat/16)) else some default) _=_
      cases hx:(bif (decide ((p.length:Int)≤64)==true) then mC p (decide (2≤c.toNat/16)) else some default) with
      | none=>rw [hx] at hok;cases hok
      | some z=>
       rw [hx,Option.bind_some] at hok
       rw [Option.bind_some, ← Option.some.inj hok])
     have e0:q++dO (r.take 0)=q:=by simp [dO]
     rw [e0] at this
     exact this
   by_cases Wm:p.length≤64
   ·have hok:AH p=true:=It BF Wm
    have hp:=zc hok (decide (2≤c.toNat/16))
    refine ⟨p,decide (2≤c.toNat/16),cJ p (decide (2≤c.toNat/16))==(c::r),key _ ?_,?_⟩
    ·rw [decide_eq_true (by omega:(p.length:Int)≤64),show (true==true)=true from rfl,cond_true,hp,Option.bind_some,Bool.true_and]
    ·cases hh:(cJ p (decide (2≤c.toNat/16))==(c::r)) with
     | true=>
      have e:cJ p (decide (2≤c.toNat/16))=c::r:=by simpa using hh
      have:=Cd hok (decide (2≤c.toNat/16))
      rw [e] at this
      exact .inl ⟨rfl,this.2.2,this.1.symm,this.2.1.symm⟩
     | false=>
      refine .inr ⟨rfl,fun hE=>?_⟩
      have hb:nZ c (r.length+1)=false:=by
       cases hb:nZ c (r.length+1) with
       | false=>rfl
       | true=>simp only [xu,hb,if_true] at hE;exact absurd hE (by decide)
      have hg:=Lm hb
      have NS:¬ (nZ c (r.length+1)=true):=by rw [hb];simp
      have Yd:=mt (oE c (r.length+1)).2 NS
      have hn:r.take n=r:=List.take_of_length_le (by show r.length≤min r.length 39;omega)
      have ep:pR (c::r)=p:=by
       simp only [pR,hb,Bool.false_eq_true,if_false,dO]
       show _=q++dO (r.take n)
       rw [hn]
       by_cases h:c.toNat/16%2=1
       ·rw [show q=[c%16] from if_pos h,h];rfl
       ·rw [show q=[] from if_neg h,show c.toNat/16%2=0 by omega];rfl
      have el:xw (c::r)=decide (2≤c.toNat/16):=by simp only [xw,hb,Bool.false_eq_true,if_false]
      rw [ep,el] at hg
      rw [hg.2.2.2] at hh
      simp at hh
   ·refine ⟨p,decide (2≤c.toNat/16),false,key _ ?_, .inr ⟨rfl,fun hE=>?_⟩⟩
    ·rw [decide_eq_false (by omega:¬ ((p.length:Int)≤64)),show (false==true)=false from rfl,cond_false,Option.bind_some,Bool.false_and]
    ·have hb:nZ c (r.length+1)=false:=by
      cases hb:nZ c (r.length+1) with
      | false=>rfl
      | true=>simp only [xu,hb,if_true] at hE;exact absurd hE (by decide)
     have Yd:=mt (oE c (r.length+1)).2 (by rw [hb];simp)
     apply Wm
     rw [Fq]
     by_cases h:c.toNat/16%2=1
     ·rw [show q=[c%16] from if_pos h];simp only [List.length_singleton];omega
     ·rw [show q=[] from if_neg h];simp only [List.length_nil];omega
end Go.Proofs.YtlfjfoknbjcncaaGreat.K
namespace Go.Proofs.YtlfjfoknbjcncaaGreat.K
open Go
set_option linter.unusedVariables false
set_option linter.unusedSimpArgs false
def qA (k:List UInt8):Bool:= !(k==[])
def ve (n:Node):Nat:=(n.aC.1.filter qA).length
theorem pT (n:Node):n.aC.1.length=16:=n.aC.2
theorem z9 {α:Type} (p:α→Bool) (l:List α) (x:α):(l++[x]).filter p=l.filter p++(if p x=true then [x] else []):=by
 rw [List.filter_append,List.filter_cons,List.filter_nil]
theorem Wo (f:List UInt8→Option Bool) (v:List (List UInt8)) (hf:∀ y∈v,f y=some (!(qA y))) (hv:v.length≤1000000):∀ (k i j:Nat) (c:List (List UInt8)),k+j=v.length→c.length=v.length→c.drop j=v.drop j→c.take i=(v.take j).filter qA→i<j→
  i≤v.length→Comes (bU f v) (.L1 (i:Int) (j:Int) c) (v.filter qA):=by
 intro k
 induction k with
 | zero=>
  intro i j c h1 h2 h3 h4 h5 h6
  have e:c.take i=v.filter qA:=by rw [h4,List.take_of_length_le (by omega)]
  refine Comes.stop ?_
  simp only [bU]
  rw [decide_eq_false (by omega),cond_false,ah (by omega),ah h2.symm,ah (by omega),ah (by rw [List.length_take];omega),Int.toNat_natCast,e]
 | succ k ih=>
  intro i j c h1 h2 h3 h4 h5 h6
  have hj:j<v.length:=by omega
  have ZR:j<c.length:=by omega
  have hx:idx c (j:Int)=idx v (j:Int):=by
   have:=h3
   rw [qz c ZR,qz v hj] at this
   exact (List.cons.inj this).1
  have hd:c.drop (j+1)=v.drop (j+1):=by
   have:=h3
   rw [qz c ZR,qz v hj] at this
   exact (List.cons.inj this).2
  have ZS:=hf _ (eg v hj)
  cases hk:qA (idx v (j:Int)) with
  | true=>
   have hi:i<c.length:=by omega
   refine Comes.next (c':= .L1 ((i+1:Nat):Int) ((j+1:Nat):Int) (c.set i (idx v (j:Int)))) ?_ (ih (i+1) (j+1) _ (by omega) (by simp [h2]) ?_ ?_ (by omega) (by omega))
   ·simp only [bU]
    rw [decide_eq_true (by omega),cond_true,ah (by omega),ah (by omega),hx,ZS,Option.bind_some,hk,Bool.not_true,Bool.not_false,cond_true,ah (by omega),ah (by omega),ah (by unfold bf;omega),Option.bind_some]
    simp only
    rw [ah (by unfold bf;omega),Int.toNat_natCast]
    rfl
   ·rw [List.drop_set_of_lt (by omega),hd]
   ·have e1:(c.set i (idx v (j:Int))).take (i+1)=c.take i++[idx v (j:Int)]:=by
     rw [List.take_add_one,List.getElem?_set_self hi,List.take_set_of_le (Nat.le_refl _)];rfl
    rw [e1,h4,ng v hj,z9,if_pos hk]
  | false=>
   refine Comes.next (c':= .L1 (i:Int) ((j+1:Nat):Int) c) ?_ (ih i (j+1) _ (by omega) h2 hd ?_ (by omega) h6)
   ·simp only [bU]
    rw [decide_eq_true (by omega),cond_true,ah (by omega),ah (by omega),hx,ZS,Option.bind_some,hk,Bool.not_false,Bool.not_true,cond_false,Option.bind_some]
    simp only
    rw [ah (by unfold bf;omega)]
    rfl
   ·rw [h4,ng v hj,z9,if_neg (by rw [hk];simp),List.append_nil]
theorem Wp (f:List UInt8→Option Bool) (v:List (List UInt8)) (hf:∀ y∈v,f y=some (!(qA y))) (hv:v.length≤1000000):jz f v=some (v.filter qA):=by
 obtain ⟨r,hr,h⟩:=Iv v f (fun y=> !(qA y)) hf (by omega)
 refine bZ ?_
 rcases h with ⟨i,rfl,hi,h1,h2⟩ | ⟨rfl,h1⟩
 ·have hall:(v.take i).filter qA=v.take i:=by
   rw [List.filter_eq_self]
   intro x hx
   obtain ⟨j,hj,rfl⟩:=List.mem_iff_getElem.1 hx
   have hj':j<i:=by rw [List.length_take] at hj;omega
   have:=h2 j hj'
   rw [iU v (by omega)] at this
   rw [List.getElem_take];simpa using this
  refine Comes.next (c':= .L1 (i:Int) ((i+1:Nat):Int) v) ?_ (Wo f v hf hv (v.length-(i+1)) i (i+1) v (by omega) rfl rfl ?_ (by omega) (by omega))
  ·simp only [bU]
   rw [hr,Option.bind_some,decide_eq_false (by omega),cond_false,ah (by unfold bf;omega)]
   rfl
  ·have:qA (idx v (i:Int))=false:=by simpa using h1
   rw [ng v hi,z9,hall,if_neg (by rw [this];simp),List.append_nil]
 ·have hall:v.filter qA=v:=by
   rw [List.filter_eq_self]
   intro x hx
   obtain ⟨j,hj,rfl⟩:=List.mem_iff_getElem.1 hx
   have:=h1 j hj
   rw [iU v hj] at this
   simpa using this
  rw [hall]
  refine Comes.stop ?_
  simp only [bU]
  rw [hr,Option.bind_some]
  rfl
theorem IB (n:Node):nw n=some (n.aC.1.filter qA):=by
 have vf:=pT n
 unfold nw jc
 rw [ah (by omega),Option.bind_some,Wp _ _ (fun y _=>by simp [qd,qA]) (by omega)]
 rfl
theorem QX (n:Node):rB n=some ((ve n:Nat):Int):=by
 have vf:=pT n
 have h:=Comes.upto (step:=kN n) (fun i=> .L1 ((((n.aC.1.take i).filter qA).length:Nat):Int) (i:Int)) 16 (r:=((ve n:Nat):Int)) (by
  intro i hi
  have hle:((n.aC.1.take i).filter qA).length≤16:=by
   have:=List.length_filter_le qA (n.aC.1.take i)
   rw [List.length_take] at this;omega
  simp only [kN]
  rw [decide_eq_true (by omega),cond_true,ah (by omega),ng _ (by omega:i<n.aC.1.length),z9]
  cases hk:qA (idx n.aC.1 (i:Int)) with
  | true=>
   have hk':(!(idx n.aC.1 (i:Int)==[]))=true:=hk
   rw [hk',cond_true,ah (by unfold bf;omega),Option.bind_some,ah (by unfold bf;omega),if_pos rfl]
   simp only [List.length_append,List.length_singleton]
   rfl
  | false=>
   have hk':(!(idx n.aC.1 (i:Int)==[]))=false:=hk
   rw [hk',cond_false,Option.bind_some,ah (by unfold bf;omega),if_neg (by simp),List.append_nil]
   rfl) (by
  refine Comes.stop ?_
  simp only [kN]
  rw [decide_eq_false (by omega),cond_false,List.take_of_length_le (by omega)]
  rfl)
 exact bZ (Comes.next rfl h)
def mh (n:Node):Bool:=
 bif decide (n.aG=1) then ((!(n.aq==[]))&&decide ((n.aq.length:Int)≤65552))&&decide ((ve n:Int)=0)
 else bif decide (n.aG=2) then (((n.aq==[])&&decide ((0:Int)<(n.av.length:Int)))&&decide ((ve n:Int)=1))&&(!(idx n.aC.1 (0:Int)==[]))
 else bif decide (n.aG=3) then ((n.aq==[])&&decide ((n.av.length:Int)=0))&&decide ((1:Int)<(ve n:Int))
 else false
theorem QY (n:Node):q9 n=some (mh n):=by
 unfold q9 mh
 rw [IB,Option.bind_some]
 show _=_
 cases decide (n.aG=1)<;>cases decide (n.aG=2)<;>cases decide (n.aG=3)<;>rfl
def vg (R:List UInt8→Bool) (n:Node):Bool:=(AH n.av&&n.aC.1.all R)&&mh n
theorem M0 {α:Type} (p:α→Bool):∀ l:List α,(l.any fun x=> !(p x))= !(l.all p)
 | []=>rfl
 | x::r=>by simp [M0 p r]
theorem zd (self:List UInt8→Option Bool) (R:List UInt8→Bool) (n:Node) (hk:∀ k∈n.aC.1,self k=some (R k)) (hp:n.av.length≤1000000):od self n=some (if vg R n=true then 0 else 2):=by
 have vf:=pT n
 have hR:=Kj n.av (by omega)
 obtain ⟨r,hr,h⟩:=Iv n.aC.1 (fun y0=>kI self y0) (fun k=> !(R k)) (fun y hy=>by unfold kI;rw [hk y hy];rfl) (by omega)
 have hC:fc n.aC.1 (fun y0=>kI self y0)=some (!(n.aC.1.all R)):=by
  unfold fc
  rw [hr,Option.bind_some, ← M0]
  congr 1
  rcases h with ⟨i,rfl,hi,h1,_⟩ | ⟨rfl,h1⟩
  ·rw [decide_eq_true (by omega)];exact (List.any_eq_true.2 ⟨_,eg _ hi,h1⟩).symm
  ·rw [decide_eq_false (by omega)];symm;rw [List.any_eq_false];intro x hx
   obtain ⟨i,hi,rfl⟩:=List.mem_iff_getElem.1 hx
   have:=h1 i hi
   rw [iU _ hi] at this;simpa using this
 unfold od vg AH
 rw [QY,Option.bind_some,hR,hC]
 have hd:decide ((64:Int)<(n.av.length:Int))= !(decide (n.av.length≤64)):=by
  rw [Bool.eq_iff_iff];simp;omega
 rw [hd]
 cases mh n<;>cases right n.av<;>cases decide (n.av.length≤64)<;>cases n.aC.1.all R<;>rfl
theorem Wq (self:List UInt8→Option Bool) (R:List UInt8→Bool) (n:Node) (hk:∀ k∈n.aC.1,self k=some (R k)) (hp:n.av.length≤1000000):nP self n=some (vg R n):=by
 have vf:=pT n
 have hR:=OU n.av (by omega)
 have hd:decide ((64:Int)<(n.av.length:Int))= !(decide (n.av.length≤64)):=by
  rw [Bool.eq_iff_iff];simp;omega
 unfold vg AH
 cases hrl:right n.av&&decide (n.av.length≤64) with
 | false=>
  refine bZ (Comes.stop ?_)
  simp only [iP]
  rw [hR,Option.bind_some,hd]
  have:((!(right n.av))|| !(decide (n.av.length≤64)))=true:=by
   rw [← Bool.not_and,hrl];rfl
  rw [this,cond_true]
  rfl
 | true=>
  have h:=Comes.all (step:=iP self n) (fun i=> .L1 (i:Int)) (fun i=>R (idx n.aC.1 (i:Int))) 16 false (mh n) (by
   intro i hi h
   simp only [iP]
   rw [decide_eq_true (by omega),cond_true,ah (by omega),hk _ (eg _ (by omega)),Option.bind_some,h,Bool.not_true,cond_false,ah (by unfold bf;omega)]
   rfl) (by
   intro i hi h
   simp only [iP]
   rw [decide_eq_true (by omega),cond_true,ah (by omega),hk _ (eg _ (by omega)),Option.bind_some,h]
   rfl) (by
   refine Comes.stop ?_
   simp only [iP]
   rw [decide_eq_false (by omega),cond_false,QX]
   unfold mh
   have hv:decide ((1:Int)≤(n.aq.length:Int))= !(n.aq==[]):=by
    cases n.aq with
    | nil=>rfl
    | cons a r=>rw [decide_eq_true (by simp only [List.length_cons];omega)];rfl
   have hk2:decide ((2:Int)≤((ve n:Nat):Int))=decide ((1:Int)<(ve n:Int)):=by
    rw [Bool.eq_iff_iff];simp only [decide_eq_true_eq];omega
   rw [hv]
   cases decide (n.aG=1)<;>cases decide (n.aG=2)<;>cases decide (n.aG=3)<;>cases (n.aq==[])<;>cases decide ((n.aq.length:Int)≤65552)<;>cases decide ((0:Int)<(n.av.length:Int))<;>cases decide ((n.av.length:Int)=0)<;>cases (idx n.aC.1 (0:Int)==[])<;>simp only [Option.bind_some,Bool.not_true,Bool.not_false,Bool.and_true,Bool.and_false,Bool.true_and,Bool.false_and,cond_true,cond_false,Bool.and_self,beq_self_eq_true,Bool.false_beq,Bool.true_beq,hk2])
  have hall:=Io n.aC.1 R
  rw [vf] at hall
  rw [hall] at h
  refine bZ (Comes.next (c':= .L1 0) ?_ ?_)
  ·simp only [iP]
   rw [hR,Option.bind_some,hd]
   have:((!(right n.av))|| !(decide (n.av.length≤64)))=false:=by
    rw [← Bool.not_and,hrl];rfl
   rw [this,cond_false]
  ·rw [Bool.true_and]
   cases ha:n.aC.1.all R with
   | true=>rw [ha,cond_true] at h;rw [Bool.true_and];exact h
   | false=>rw [ha,cond_false] at h;rw [Bool.false_and];exact h
end Go.Proofs.YtlfjfoknbjcncaaGreat.K
namespace Go.Proofs.YtlfjfoknbjcncaaGreat.K
open Go
set_option linter.unusedVariables false
set_option linter.unusedSimpArgs false
def fV (s:List UInt8):Item:=⟨false,s,[]⟩
theorem Ex (s:List UInt8) (n:Nat):RT (n+1) (fV s):=by
 refine ⟨fun _=>rfl,fun h=>?_,fun y hy=>?_⟩
 ·exact absurd h (by simp [fV])
 ·exact absurd hy (by simp [fV])
theorem BG (s:List UInt8):bI (fV s)=if s.length=1∧(s.getD 0 0).toNat<128 then s else hd false s.length++s:=by
 rw [nE,if_pos (show (fV s).bQ=false from rfl)];rfl
theorem ze {s:List UInt8} (h:s.length≤100000):(bI (fV s)).length≤s.length+6:=by
 have:=DA false (k:=s.length) (by omega)
 rw [BG]
 split
 ·omega
 ·rw [List.length_append];omega
theorem IC:bI (fV [])=[128]:=by rw [BG];rfl
theorem tH {s:List UInt8} (h:s.length≤100000):mD s=some (bI (fV s)):=by
 unfold mD
 have:=IA (Ex s 0) (by have:=ze h;omega)
 rw [show (⟨false,s,[]⟩:Item)=fV s from rfl,this];rfl
noncomputable def ZT (k:List UInt8):Item:=((gV k).getD (Gx,1)).1
noncomputable def dz (k:List UInt8):Item:=if k=[]∨k.length=32 then fV k else ZT k
def good (k:List UInt8):Prop:=k=[]∨k.length=32∨(k.length<32∧∃ x,RT 65 x∧bI x=k∧x.bQ=true)
def kO (x:Item):List UInt8:=if x.bQ=true then bI x else x.fS
theorem nQ {k:List UInt8} (h:good k):RT 64 (dz k)∧(bI (dz k)).length≤33∧ny k=some (dz k)∧kO (dz k)=k∧k7 k=some (bI (dz k)):=by
 by_cases h0:k=[]∨k.length=32
 ·have e:dz k=fV k:=if_pos h0
  have hc:((k==[])||decide ((k.length:Int)=32))=true:=by
   rcases h0 with rfl | h0
   ·rfl
   ·rw [decide_eq_true (by omega),Bool.or_true]
  have hl:k.length≤32:=by
   rcases h0 with rfl | h0
   ·simp
   ·omega
  rw [e]
  refine ⟨Ex k 63,?_,?_,rfl,?_⟩
  ·rcases h0 with rfl | h0
   ·rw [IC];simp
   ·rw [BG,if_neg (by omega),List.length_append,Cc,if_pos (by omega)];omega
  ·unfold ny;rw [hc,cond_true];rfl
  ·unfold k7;rw [hc,cond_true,tH (by omega)];rfl
 ·obtain ⟨M1,x,h1,h2,h3⟩:=(h.resolve_left fun e=>h0 (.inl e)).resolve_left fun e=>h0 (.inr e)
  have hw:gV k=some (x,0):=by rw [← h2];exact z8 h1 (by omega) (by rw [h2];omega)
  have e:dz k=x:=by
   unfold dz ZT
   rw [if_neg h0,hw];rfl
  have hc:((k==[])||decide ((k.length:Int)=32))=false:=by
   rw [Bool.or_eq_false_iff]
   exact ⟨by rw [beq_eq_false_iff_ne];exact fun e=>h0 (.inl e),decide_eq_false (by omega)⟩
  rw [e]
  refine ⟨(PK _ _ h1).mono (by rw [h2];omega),by rw [h2];omega,?_,by unfold kO;rw [if_pos h3,h2],?_⟩
  ·unfold ny;rw [hc,cond_false,hw];rfl
  ·unfold k7;rw [hc,cond_false,h2]
noncomputable def gk (n:Node):Item:=
 if n.aG=1 then ⟨true,[],[fV (cJ n.av true),fV n.aq]⟩
 else if n.aG=2 then ⟨true,[],[fV (cJ n.av false),dz (idx n.aC.1 (0:Int))]⟩
 else ⟨true,[],n.aC.1.map dz++[fV []]⟩
theorem Fs {b:Nat}:∀ l:List Item,(∀ y∈l,(bI y).length≤b)→(cu l).length≤l.length*b
 | [],_=>by simp [cu]
 | x::r,h=>by
  have:=Fs r fun y hy=>h y (List.mem_cons_of_mem _ hy)
  have:=h x (List.mem_cons_self ..)
  simp only [cu,List.length_append,List.length_cons,Nat.succ_mul];omega
theorem Ch (n:Node) (hg:∀ k∈n.aC.1,good k) (hp:n.av.length≤64) (hv:n.aq.length≤3000):RT 65 (gk n)∧(bI (gk n)).length≤700+n.aq.length∧(gk n).bQ=true:=by
 have vf:=pT n
 have hP:∀ b,(bI (fV (cJ n.av b))).length≤39:=by
  intro b
  have:=ze (s:=cJ n.av b) (by rw [z6];omega)
  rw [z6] at this;omega
 have hV:=ze (s:=n.aq) (by omega)
 have Ye:∀ k,k≤2 ^ 32→(hd true k).length≤6:=fun k h=>DA true h
 unfold gk
 split
 ·refine ⟨⟨fun h=>(by cases h),fun _=>rfl,fun y hy=>?_⟩,?_,rfl⟩
  ·simp only [List.mem_cons,List.not_mem_nil,or_false] at hy
   rcases hy with rfl | rfl<;>exact Ex _ 63
  ·have e:(cu [fV (cJ n.av true),fV n.aq]).length=(bI (fV (cJ n.av true))).length+(bI (fV n.aq)).length:=by simp [cu]
   have:=hP true
   have:=Ye (cu [fV (cJ n.av true),fV n.aq]).length (by omega)
   rw [xy,List.length_append];omega
 ·split
  ·have TB:=nQ (hg _ (eg n.aC.1 (i:=0) (by omega)))
   have TB:RT 64 (dz (idx n.aC.1 (0:Int)))∧(bI (dz (idx n.aC.1 (0:Int)))).length≤33:=⟨TB.1,TB.2.1⟩
   refine ⟨⟨fun h=>(by cases h),fun _=>rfl,fun y hy=>?_⟩,?_,rfl⟩
   ·simp only [List.mem_cons,List.not_mem_nil,or_false] at hy
    rcases hy with rfl | rfl
    ·exact Ex _ 63
    ·exact TB.1
   ·have e:(cu [fV (cJ n.av false),dz (idx n.aC.1 (0:Int))]).length=(bI (fV (cJ n.av false))).length+(bI (dz (idx n.aC.1 (0:Int)))).length:=by simp [cu]
    have:=hP false
    have:=TB.2
    have:=Ye (cu [fV (cJ n.av false),dz (idx n.aC.1 (0:Int))]).length (by omega)
    rw [xy,List.length_append];omega
  ·have hall:∀ y∈n.aC.1.map dz++[fV []],RT 64 y∧(bI y).length≤33:=by
    intro y hy
    rcases List.mem_append.1 hy with hy | hy
    ·obtain ⟨k,hk,rfl⟩:=List.mem_map.1 hy
     have:=nQ (hg k hk)
     exact ⟨this.1,this.2.1⟩
    ·rw [List.mem_singleton] at hy;subst hy
     exact ⟨Ex _ 63,by rw [IC];simp⟩
   refine ⟨⟨fun h=>(by cases h),fun _=>rfl,fun y hy=>(hall y hy).1⟩,?_,rfl⟩
   have:=Fs _ fun y hy=>(hall y hy).2
   have hlen:(n.aC.1.map dz++[fV []]).length=17:=by simp [vf]
   rw [hlen] at this
   have:=Ye (cu (n.aC.1.map dz++[fV []])).length (by omega)
   rw [xy,List.length_append];omega
theorem ID (l:List Item) (h:l.length≤1000000):qc l=some ⟨true,[],l⟩:=by
 unfold qc
 rw [ah (by simp only [List.length_nil];omega)];rfl
theorem Aa {R:List UInt8→Bool} {n:Node} (h:vg R n=true):AH n.av=true∧(∀ k∈n.aC.1,R k=true)∧mh n=true:=by
 unfold vg at h
 rw [Bool.and_eq_true,Bool.and_eq_true] at h
 exact ⟨h.1.1,fun k hk=>List.all_eq_true.1 h.1.2 k hk,h.2⟩
theorem BH {n:Node} (h:mh n=true):n.aG=1∨n.aG=2∨n.aG=3:=by
 unfold mh at h
 by_cases h1:n.aG=1
 ·exact .inl h1
 ·by_cases h2:n.aG=2
  ·exact .inr (.inl h2)
  ·by_cases h3:n.aG=3
   ·exact .inr (.inr h3)
   ·rw [decide_eq_false h1,decide_eq_false h2,decide_eq_false h3] at h;cases h
theorem Wr (self:List UInt8→Option Bool) (n:Node) (hg:∀ k∈n.aC.1,good k) (hN:RT 65 (⟨true,[],n.aC.1.map dz++[fV []]⟩:Item)) (hl:(bI (⟨true,[],n.aC.1.map dz++[fV []]⟩:Item)).length≤4096):
  Comes (hU self n) (.L1 [] 0) (bI (⟨true,[],n.aC.1.map dz++[fV []]⟩:Item),0):=by
 have vf:=pT n
 refine Comes.upto (step:=hU self n) (fun i=> .L1 ((n.aC.1.map dz).take i) (i:Int)) 16 ?_ ?_
 ·intro i hi
  have hi':i<n.aC.1.length:=by omega
  have TC:i<(n.aC.1.map dz).length:=by rw [List.length_map];omega
  have e:idx (n.aC.1.map dz) (i:Int)=dz (idx n.aC.1 (i:Int)):=by rw [iU _ TC,iU _ hi',List.getElem_map]
  simp only [hU]
  rw [decide_eq_true (by omega),cond_true,ah (by omega),(nQ (hg _ (eg _ hi'))).2.2.1,Option.bind_some,ah (by rw [List.length_take];simp only [List.length_singleton];omega),ah (by unfold bf;omega),ng _ TC,e]
  rfl
 ·refine Comes.stop ?_
  simp only [hU]
  rw [decide_eq_false (by omega),cond_false,List.take_of_length_le (by rw [List.length_map];omega)]
  simp only [gL,Option.bind_some]
  rw [ah (by rw [List.length_map];simp only [List.length_singleton];omega),ID _ (by simp;omega),Option.bind_some,show (⟨false,[],[]⟩:Item)=fV [] from rfl,z7 hN (by omega) hl]
  rfl
theorem M3 (self:List UInt8→Option Bool) (R:List UInt8→Bool) (n:Node) (hk:∀ k∈n.aC.1,self k=some (R k)) (hg:∀ k∈n.aC.1,R k=true→good k) (hp:n.av.length≤1000000) (hv:n.aq.length≤3000):
  wh self n=some (if vg R n=true then (bI (gk n),0) else ([],2)):=by
 have vf:=pT n
 refine bZ ?_
 by_cases hc:vg R n=true
 ·obtain ⟨c1,c2,c3⟩:=Aa hc
  have Yf:∀ k∈n.aC.1,good k:=fun k h=>hg k h (c2 k h)
  obtain ⟨r1,r2,r3⟩:=Ch n Yf (rN c1).2 hv
  rw [if_pos hc]
  by_cases h1:n.aG=1
  ·have e:gk n=⟨true,[],[fV (cJ n.av true),fV n.aq]⟩:=if_pos h1
   refine Comes.stop ?_
   simp only [hU]
   rw [zd self R n hk hp,if_pos hc,Option.bind_some,show (!decide ((0:Int)=0))=false from rfl,cond_false,decide_eq_true h1,Ix c1,Option.bind_some,cond_true]
   simp only [gL,Option.bind_some]
   rw [ID _ (by simp),Option.bind_some]
   show (mP ⟨true,[],[fV (cJ n.av true),fV n.aq]⟩).bind _=_
   rw [← e,z7 r1 (by omega) (by omega)]
   rfl
  ·by_cases h2:n.aG=2
   ·have e:gk n=⟨true,[],[fV (cJ n.av false),dz (idx n.aC.1 (0:Int))]⟩:=by unfold gk;rw [if_neg h1,if_pos h2]
    have hi:=nQ (Yf _ (eg n.aC.1 (i:=0) (by omega)))
    refine Comes.stop ?_
    simp only [hU]
    rw [zd self R n hk hp,if_pos hc,Option.bind_some,show (!decide ((0:Int)=0))=false from rfl,cond_false,decide_eq_false h1,Ix c1,Option.bind_some,cond_false,decide_eq_true h2,cond_true]
    simp only [gL,Option.bind_some]
    rw [show ny (idx n.aC.1 (0:Int))=some (dz (idx n.aC.1 (0:Int))) from hi.2.2.1,Option.bind_some,ID _ (by simp),Option.bind_some]
    show (mP ⟨true,[],[fV (cJ n.av false),dz (idx n.aC.1 (0:Int))]⟩).bind _=_
    rw [← e,z7 r1 (by omega) (by omega)]
    rfl
   ·have e:gk n=⟨true,[],n.aC.1.map dz++[fV []]⟩:=by unfold gk;rw [if_neg h1,if_neg h2]
    rw [e] at r1 r2 ⊢
    refine Comes.next (c':= .L1 [] 0) ?_ (Wr self n Yf r1 (by omega))
    simp only [hU]
    rw [zd self R n hk hp,if_pos hc,Option.bind_some,show (!decide ((0:Int)=0))=false from rfl,cond_false,decide_eq_false h1,Ix c1,Option.bind_some,cond_false,decide_eq_false h2,cond_false]
 ·rw [if_neg hc]
  refine Comes.stop ?_
  simp only [hU]
  rw [zd self R n hk hp,if_neg hc,Option.bind_some]
  rfl
theorem Ko (R:List UInt8→Bool) (n:Node) (hc:vg R n=true) (hg:∀ k∈n.aC.1,good k) (hv:n.aq.length≤3000):mc n=some (bI (gk n)):=by
 have vf:=pT n
 obtain ⟨c1,c2,c3⟩:=Aa hc
 obtain ⟨r1,r2,r3⟩:=Ch n hg (rN c1).2 hv
 have Fq:∀ b,(cJ n.av b).length≤33:=by intro b;rw [z6];have:=(rN c1).2;omega
 have hJ:∀ l:List Item,gk n=⟨true,[],l⟩→Comes (cR n) (.J3 (cu l)) (bI (gk n)):=by
  intro l e
  rw [e,xy,List.length_append] at r2
  refine Comes.stop ?_
  simp only [cR]
  rw [Ca _ true (by omega),Option.bind_some,ah (by omega),e,xy]
 refine bZ ?_
 by_cases h1:n.aG=1
 ·have e:gk n=⟨true,[],[fV (cJ n.av true),fV n.aq]⟩:=if_pos h1
  have:=ze (s:=cJ n.av true) (by have:=Fq true;omega)
  have:=ze (s:=n.aq) (by omega)
  have:=Fq true
  have ei:cu [fV (cJ n.av true),fV n.aq]=bI (fV (cJ n.av true))++bI (fV n.aq):=by simp [cu]
  refine Comes.next ?_ (hJ _ e)
  simp only [cR]
  rw [decide_eq_true h1,cond_true,zc c1,Option.bind_some,tH (by omega),Option.bind_some,tH (by omega),Option.bind_some,ah (by omega),Option.bind_some,decide_eq_false (by omega),cond_false,Option.bind_some,decide_eq_false (by omega),cond_false,ei]
 ·by_cases h2:n.aG=2
  ·have e:gk n=⟨true,[],[fV (cJ n.av false),dz (idx n.aC.1 (0:Int))]⟩:=by unfold gk;rw [if_neg h1,if_pos h2]
   have hi:=nQ (hg _ (eg n.aC.1 (i:=0) (by omega)))
   have hi2:(bI (dz (idx n.aC.1 (0:Int)))).length≤33:=hi.2.1
   have:=ze (s:=cJ n.av false) (by have:=Fq false;omega)
   have:=Fq false
   have ei:cu [fV (cJ n.av false),dz (idx n.aC.1 (0:Int))]=bI (fV (cJ n.av false))++bI (dz (idx n.aC.1 (0:Int))):=by simp [cu]
   refine Comes.next ?_ (hJ _ e)
   simp only [cR]
   rw [decide_eq_false h1,cond_false,Option.bind_some,decide_eq_true h2,cond_true,zc c1,Option.bind_some,tH (by omega),Option.bind_some,show k7 (idx n.aC.1 (0:Int))=some (bI (dz (idx n.aC.1 (0:Int)))) from hi.2.2.2.2,Option.bind_some,ah (by omega),Option.bind_some,decide_eq_false (by omega),cond_false,ei]
  ·have h3:n.aG=3:=((BH c3).resolve_left h1).resolve_left h2
   have e:gk n=⟨true,[],n.aC.1.map dz++[fV []]⟩:=by unfold gk;rw [if_neg h1,if_neg h2]
   have ei:cu (n.aC.1.map dz++[fV []])=cu (n.aC.1.map dz)++[128]:=by
    rw [DE];simp only [cu,IC,List.append_nil]
   have hlen:∀ i,(cu ((n.aC.1.map dz).take i)).length≤16*33:=by
    intro i
    have:=Fs (b:=33) ((n.aC.1.map dz).take i) (fun y hy=>by
     obtain ⟨k,hk,rfl⟩:=List.mem_map.1 (List.mem_of_mem_take hy)
     exact (nQ (hg k hk)).2.1)
    have h2:((n.aC.1.map dz).take i).length≤16:=by rw [List.length_take,List.length_map];omega
    exact Nat.le_trans this (Nat.mul_le_mul_right 33 h2)
   refine Comes.next (c':= .L4 [] 0) ?_ ?_
   ·simp only [cR]
    rw [decide_eq_false h1,cond_false,Option.bind_some,decide_eq_false h2,cond_false,Option.bind_some,decide_eq_true h3,cond_true]
   ·refine Comes.upto (step:=cR n) (fun i=> .L4 (cu ((n.aC.1.map dz).take i)) (i:Int)) 16 ?_ ?_
    ·intro i hi
     have hi':i<n.aC.1.length:=by omega
     have TC:i<(n.aC.1.map dz).length:=by rw [List.length_map];omega
     have ex:idx (n.aC.1.map dz) (i:Int)=dz (idx n.aC.1 (i:Int)):=by rw [iU _ TC,iU _ hi',List.getElem_map]
     have hi:=nQ (hg _ (eg _ hi'))
     have:=hlen i
     have:=hi.2.1
     simp only [cR]
     rw [decide_eq_true (by omega),cond_true,ah (by omega),hi.2.2.2.2,Option.bind_some,ah (by omega),ah (by unfold bf;omega),ng _ TC,ex,DE]
     simp only [cu,List.append_nil]
     rfl
    ·have:=hlen 16
     refine Comes.next ?_ (hJ _ e)
     simp only [cR]
     rw [decide_eq_false (by omega),cond_false,ah (by simp only [List.length_singleton];omega),List.take_of_length_le (by rw [List.length_map];omega),ei]
end Go.Proofs.YtlfjfoknbjcncaaGreat.K
namespace Go.Proofs.YtlfjfoknbjcncaaGreat.K
open Go
set_option linter.unusedVariables false
set_option linter.unusedSimpArgs false
set_option linter.unusedSectionVars false
def Lo:Node:=⟨0,[],[],aD.rep 16 []⟩
def K1 (k:List UInt8):aD 16 (List UInt8):=(aD.rep 16 []).put 0 k
def Ab (a b:Item):Node:=if xw a.fS=true then ⟨1,pR a.fS,b.fS,aD.rep 16 []⟩ else ⟨2,pR a.fS,[],K1 (kO b)⟩
def zf (l:List Item):Nat→aD 16 (List UInt8)
 | 0=>aD.rep 16 []
 | i+1=>(zf l i).put (i:Int) (kO (idx l (i:Int)))
theorem IE (l:List Item):∀ i,i≤16→i≤l.length→(zf l i).1.take i=(l.take i).map kO
 | 0,_,_=>by simp
 | i+1,h,h2=>by
  have hi:i<(zf l i).1.length:=by rw [(zf l i).2];omega
  show ((zf l i).1.set (i:Int).toNat (kO (idx l (i:Int)))).take (i+1)=_
  rw [Int.toNat_natCast,List.take_add_one,List.getElem?_set_self hi,List.take_set_of_le (Nat.le_refl _),IE l i (by omega) (by omega),ng l (by omega),List.map_append]
  rfl
theorem Kp (l:List Item) (h:16≤l.length):(zf l 16).1=(l.take 16).map kO:=by
 have:=IE l 16 (Nat.le_refl _) h
 rwa [List.take_of_length_le (by rw [(zf l 16).2];exact Nat.le_refl _)] at this
def gh (x:Item):Node:=
 if x.fL.length=2 then Ab (idx x.fL (0:Int)) (idx x.fL (1:Int))
 else if x.fL.length=17 then ⟨3,[],[],zf x.fL 16⟩
 else Lo
theorem TD (p v:List UInt8) (h:p.length≤1000000):th p v=some ⟨1,p,v,aD.rep 16 []⟩:=by
 unfold th cA
 rw [ah (by simp only [List.length_nil];omega),Option.bind_some];rfl
theorem Ws (p k:List UInt8) (h:p.length≤1000000):u7 p k=some ⟨2,p,[],K1 k⟩:=by
 unfold u7 cA
 rw [ah (by simp only [List.length_nil];omega),Option.bind_some];rfl
theorem CU {n:Nat} {y:Item} (h:RT n y) (hn:n≤65) (hl:(bI y).length≤4096):lK y=some (kO y):=by
 unfold lK kO
 cases hy:y.bQ with
 | false=>rfl
 | true=>
  rw [Bool.not_true,cond_false,z7 h hn hl];rfl
theorem Kq (s:List UInt8):(pR s).length≤2*s.length:=by
 cases s with
 | nil=>simp [pR]
 | cons c r=>
  simp only [pR]
  split
  ·simp
  ·rw [List.length_drop,mX];omega
theorem TE {n:Nat} (a:Item) {b:Item} (ha:a.fS.length≤100000) (h:RT n b) (hn:n≤65) (hl:(bI b).length≤4096):tj a b=some (Ab a b):=by
 have:=Kq a.fS
 unfold tj Ab
 rw [OT _ (by omega),Option.bind_some]
 cases hu:xw a.fS with
 | true=>
  simp only [cond_true,if_true]
  rw [TD _ _ (by omega)];rfl
 | false=>
  simp only [cond_false,Bool.false_eq_true,if_false]
  rw [CU h hn hl,Option.bind_some,Ws _ _ (by omega)];rfl
section
variable {x:Item} {s:List UInt8} (hx:RT 65 x) (he:bI x=s)
include hx he
theorem TF (h:x.fL≠[]):x.bQ=true:=by
 cases hh:x.bQ with
 | true=>rfl
 | false=>exact absurd (hx.1 hh) h
theorem Ci {y:Item} (hy:y∈x.fL):RT 64 y∧(bI y).length<s.length∧(kO y).length<s.length∧y.fS.length<s.length:=by
 have hL:=TF hx he (by intro e;rw [e] at hy;cases hy)
 have h1:=Cg hL hy
 rw [he] at h1
 have hR:RT 64 y:=hx.2.2 y hy
 have h2:y.fS.length≤(bI y).length:=by
  cases hh:y.bQ with
  | false=>exact Ln y hh
  | true=>rw [hR.2.1 hh];simp
 refine ⟨hR,h1,?_,by omega⟩
 unfold kO
 split<;>omega
theorem M4:(∀ k∈(gh x).aC.1,k.length<s.length)∧(gh x).av.length≤2*s.length∧(gh x).aq.length≤s.length:=by
 have hs:0<s.length:=by rw [← he];exact Cf x
 have rep:∀ k∈(aD.rep 16 ([]:List UInt8)).1,k.length<s.length:=by
  intro k hk
  have:k=[]:=List.eq_of_mem_replicate hk
  subst this;exact hs
 unfold gh
 split
 ·rename_i h
  have ha:=Ci hx he (eg x.fL (i:=0) (by omega))
  have hb:=Ci hx he (eg x.fL (i:=1) (by omega))
  have hp:=Kq (idx x.fL (0:Int)).fS
  have ha3:(idx x.fL (0:Int)).fS.length<s.length:=ha.2.2.2
  have Yd:(idx x.fL (1:Int)).fS.length<s.length:=hb.2.2.2
  have NS:(kO (idx x.fL (1:Int))).length<s.length:=hb.2.2.1
  unfold Ab
  split
  ·exact ⟨rep,by show (pR (idx x.fL (0:Int)).fS).length≤_;omega,Nat.le_of_lt Yd⟩
  ·refine ⟨fun k hk=>?_,by show (pR (idx x.fL (0:Int)).fS).length≤_;omega,Nat.zero_le _⟩
   rcases List.mem_or_eq_of_mem_set hk with hk | rfl
   ·exact rep k hk
   ·exact NS
 ·split
  ·rename_i h
   refine ⟨fun k hk=>?_,Nat.zero_le _,Nat.zero_le _⟩
   have hk:k∈(zf x.fL 16).1:=hk
   rw [Kp _ (by omega)] at hk
   obtain ⟨y,hy,rfl⟩:=List.mem_map.1 hk
   exact (Ci hx he (List.mem_of_mem_take hy)).2.2.1
  ·exact ⟨rep,Nat.zero_le _,Nat.zero_le _⟩
end
open Classical in
noncomputable def TG (R:List UInt8→Bool) (s:List UInt8) (x:Item):Bool:=decide (vg R (gh x)=true∧bI (gk (gh x))=s)
theorem IF {R:List UInt8→Bool} {s:List UInt8} {x:Item}:TG R s x=true↔(vg R (gh x)=true∧bI (gk (gh x))=s):=by unfold TG;exact decide_eq_true_iff
theorem PM {R:List UInt8→Bool} {s:List UInt8} {x:Item} (h:¬ (vg R (gh x)=true∧bI (gk (gh x))=s)):TG R s x=false:=by
 rw [Bool.eq_false_iff,ne_eq,IF];exact h
section
variable {x:Item} {s:List UInt8} (hx:RT 65 x) (he:bI x=s) (hl:s.length≤1500) {self:List UInt8→Option Bool} {R:List UInt8→Bool}
 (dZ:∀ k∈(gh x).aC.1,self k=some (R k)) (nH:∀ k∈(gh x).aC.1,R k=true→good k)
include hx he hl dZ nH
theorem TH:Comes (fU self s) (.J1 (gh x).aG (gh x).av (gh x).aq (gh x).aC) (if TG R s x=true then (gh x,0) else (Lo,6)):=by
 obtain ⟨k1,k2,k3⟩:=M4 hx he
 have hP:=M3 self R (gh x) dZ nH (by omega) (by omega)
 refine Comes.stop ?_
 simp only [fU]
 rw [show (⟨(gh x).aG,(gh x).av,(gh x).aq,(gh x).aC⟩:Node)=gh x from rfl,hP,Option.bind_some]
 by_cases hc:vg R (gh x)=true
 ·rw [if_pos hc]
  by_cases hb:bI (gk (gh x))=s
  ·rw [if_pos (IF.2 ⟨hc,hb⟩)]
   simp only [hb,beq_self_eq_true,Bool.not_true,decide_true,Bool.or_self,cond_false]
  ·rw [if_neg (by rw [PM (fun h=>hb h.2)];simp)]
   have:(bI (gk (gh x))==s)=false:=by rw [beq_eq_false_iff_ne];exact hb
   simp only [this,Bool.not_false,Bool.or_true,cond_true]
   rfl
 ·rw [if_neg hc,if_neg (by rw [PM (fun h=>hc h.1)];simp)]
  rfl
theorem TI (hw:gV s=some (x,0)):tq self s=some (if TG R s x=true then (gh x,0) else (Lo,6)):=by
 have hJ:=TH hx he hl dZ nH
 refine bZ ?_
 by_cases h2:x.fL.length=2
 ·have ha:RT 64 (idx x.fL (0:Int))∧(bI (idx x.fL (0:Int))).length<s.length∧(kO (idx x.fL (0:Int))).length<s.length∧(idx x.fL (0:Int)).fS.length<s.length:=Ci hx he (eg x.fL (i:=0) (by omega))
  have hb:RT 64 (idx x.fL (1:Int))∧(bI (idx x.fL (1:Int))).length<s.length∧(kO (idx x.fL (1:Int))).length<s.length∧(idx x.fL (1:Int)).fS.length<s.length:=Ci hx he (eg x.fL (i:=1) (by omega))
  have e:gh x=Ab (idx x.fL (0:Int)) (idx x.fL (1:Int)):=if_pos h2
  refine Comes.next ?_ hJ
  simp only [fU,hw,Option.bind_some,decide_true,Bool.not_true,cond_false]
  rw [decide_eq_true (by omega),cond_true,ah (by omega),ah (by omega)]
  have:=TE (n:=64) (idx x.fL (0:Int)) (b:=idx x.fL (1:Int)) (by have:=ha.2.2.2;omega) hb.1 (by omega) (by have:=hb.2.1;omega)
  rw [this,Option.bind_some,e]
 ·by_cases ZW:x.fL.length=17
  ·have e:gh x=⟨3,[],[],zf x.fL 16⟩:=by unfold gh;rw [if_neg h2,if_pos ZW]
   rw [e] at hJ
   refine Comes.next (c':= .L2 0 x.bQ x.fS x.fL (aD.rep 16 [])) ?_ ?_
   ·simp only [fU,hw,Option.bind_some,decide_true,Bool.not_true,cond_false]
    rw [decide_eq_false (by omega),cond_false,decide_eq_true (by omega),cond_true]
   ·rw [e]
    refine Comes.upto (step:=fU self s) (fun i=> .L2 (i:Int) x.bQ x.fS x.fL (zf x.fL i)) 16 ?_ ?_
    ·intro i hi
     have hk:=Ci hx he (eg x.fL (i:=i) (by omega))
     simp only [fU]
     rw [decide_eq_true (by omega),cond_true,ah (by omega),CU hk.1 (by omega) (by have:=hk.2.1;omega),Option.bind_some,ah (by omega),ah (by unfold bf;omega)]
     rfl
    ·refine Comes.next ?_ hJ
     simp only [fU]
     rw [decide_eq_false (by omega),cond_false]
     rfl
  ·have e:gh x=Lo:=by unfold gh;rw [if_neg h2,if_neg ZW]
   rw [e] at hJ
   rw [e]
   refine Comes.next ?_ hJ
   simp only [fU,hw,Option.bind_some,decide_true,Bool.not_true,cond_false]
   rw [decide_eq_false (by omega),cond_false,decide_eq_false (by omega),cond_false]
   rfl
end
theorem M5 {s:List UInt8} (h0:¬ (s=[]∨s.length=32)):((s==[])||decide ((s.length:Int)=32))=false:=by
 rw [Bool.or_eq_false_iff]
 exact ⟨by rw [beq_eq_false_iff_ne];exact fun e=>h0 (.inl e),decide_eq_false (by omega)⟩
theorem Cj {s:List UInt8} (h0:s=[]∨s.length=32):((s==[])||decide ((s.length:Int)=32))=true:=by
 rcases h0 with rfl | h
 ·rfl
 ·rw [decide_eq_true (by omega),Bool.or_true]
theorem QZ {s:List UInt8} (self:List UInt8→Option Bool) {n:Node} {e:Int} {b:Bool} (h0:¬ (s=[]∨s.length=32)) (h:tq self s=some (n,e)) (hb:(decide ((s.length:Int)<32)&&decide (e=0))=b):eZ self s=some b:=by
 unfold eZ
 rw [M5 h0,cond_false,h,Option.bind_some, ← hb]
theorem TJ {n:Node} (h:ve n=0):n.aC=aD.rep 16 []:=by
 apply Subtype.ext
 show n.aC.1=List.replicate 16 []
 rw [List.eq_replicate_iff]
 refine ⟨n.aC.2,fun k hk=>?_⟩
 have h2:=List.length_eq_zero_iff.1 h
 rw [List.filter_eq_nil_iff] at h2
 have:=h2 k hk
 simpa [qA] using this
theorem TK {n:Node} (h:ve n=1) (h0:idx n.aC.1 (0:Int)≠[]):n.aC=K1 (idx n.aC.1 (0:Int)):=by
 apply Subtype.ext
 have vf:=pT n
 obtain ⟨a,r,e⟩:∃ a r,n.aC.1=a::r:=by
  cases hh:n.aC.1 with
  | nil=>rw [hh] at vf;cases vf
  | cons a r=>exact ⟨a,r,rfl⟩
 unfold ve at h
 rw [e] at h h0 vf ⊢
 have ha:idx (a::r) (0:Int)=a:=rfl
 rw [ha] at h0 ⊢
 have hne:qA a=true:=by simpa [qA] using h0
 rw [List.filter_cons,if_pos hne,List.length_cons] at h
 have h2:=List.length_eq_zero_iff.1 (by omega:(r.filter qA).length=0)
 rw [List.filter_eq_nil_iff] at h2
 have hr:r=List.replicate 15 []:=by
  rw [List.eq_replicate_iff]
  refine ⟨by simpa using vf,fun k hk=>?_⟩
  have:=h2 k hk
  simpa [qA] using this
 rw [hr];rfl
theorem Jo {R:List UInt8→Bool} {n:Node} (hc:vg R n=true) (hg:∀ k∈n.aC.1,good k):gh (gk n)=n:=by
 have vf:=pT n
 obtain ⟨c1,c2,c3⟩:=Aa hc
 obtain ⟨kind,path,value,kids⟩:=n
 rcases BH c3 with h | h | h
 ·simp only at h
  subst h
  have e:gk ⟨1,path,value,kids⟩=⟨true,[],[fV (cJ path true),fV value]⟩:=by unfold gk;rw [if_pos rfl]
  have hs:ve ⟨1,path,value,kids⟩=0:=by
   simp only [mh,decide_true,cond_true,Bool.and_eq_true,decide_eq_true_eq] at c3
   omega
  have hk:kids=aD.rep 16 []:=TJ hs
  obtain ⟨p1,p2,_⟩:=Cd c1 true
  simp only at p1 p2
  rw [e]
  show Ab (fV (cJ path true)) (fV value)=_
  unfold Ab
  rw [show (fV (cJ path true)).fS=cJ path true from rfl,if_pos p2,p1,hk]
  rfl
 ·simp only at h
  subst h
  have e:gk ⟨2,path,value,kids⟩=⟨true,[],[fV (cJ path false),dz (idx kids.1 (0:Int))]⟩:=by unfold gk;rw [if_neg (by show ¬ ((2:Int)=1);decide),if_pos rfl]
  simp only [mh,show decide ((2:Int)=1)=false from rfl,decide_true,cond_true,cond_false,Bool.and_eq_true,decide_eq_true_eq,beq_iff_eq,Bool.not_eq_true',beq_eq_false_iff_ne] at c3
  have hk:kids=K1 (idx kids.1 (0:Int)):=TK (n:=⟨2,path,value,kids⟩) (by omega) c3.2
  have hv:value=[]:=c3.1.1.1
  obtain ⟨p1,p2,_⟩:=Cd c1 false
  simp only at p1 p2
  have Yg:=(nQ (hg _ (eg kids.1 (i:=0) (by rw [kids.2];omega)))).2.2.2.1
  have Yg:kO (dz (idx kids.1 (0:Int)))=idx kids.1 (0:Int):=Yg
  rw [e]
  show Ab (fV (cJ path false)) (dz (idx kids.1 (0:Int)))=_
  unfold Ab
  rw [show (fV (cJ path false)).fS=cJ path false from rfl,if_neg (by rw [p2];simp),p1,Yg, ← hk,hv]
 ·simp only at h
  subst h
  have e:gk ⟨3,path,value,kids⟩=⟨true,[],kids.1.map dz++[fV []]⟩:=by
   unfold gk
   rw [if_neg (by show ¬ ((3:Int)=1);decide),if_neg (by show ¬ ((3:Int)=2);decide)]
  simp only [mh,show decide ((3:Int)=1)=false from rfl,show decide ((3:Int)=2)=false from rfl,decide_true,cond_true,cond_false,Bool.and_eq_true,decide_eq_true_eq,beq_iff_eq] at c3
  have hv:value=[]:=c3.1.1
  have hp:path=[]:=List.length_eq_zero_iff.1 (by omega)
  have hlen:(kids.1.map dz).length=16:=by rw [List.length_map,kids.2]
  have hk:zf (kids.1.map dz++[fV []]) 16=kids:=by
   apply Subtype.ext
   rw [Kp _ (by rw [List.length_append,hlen];omega),List.take_append_of_le_length (by omega),List.take_of_length_le (by omega),List.map_map]
   conv=>rhs;rw [← List.map_id kids.1]
   exact List.map_congr_left fun k hk=>(nQ (hg k hk)).2.2.2.1
  rw [e]
  generalize hl:kids.1.map dz++[fV []]=l at hk
  have ZX:l.length=17:=by rw [← hl,List.length_append,hlen];rfl
  unfold gh
  rw [if_neg (by show ¬ (l.length=2);omega),if_pos (by show l.length=17;exact ZX),hv,hp]
  show (⟨3,[],[],zf l 16⟩:Node)=_
  rw [hk]
end Go.Proofs.YtlfjfoknbjcncaaGreat.K
namespace Go.Proofs.YtlfjfoknbjcncaaGreat.K
open Go
theorem M6 {l:List UInt8} {i:Nat} (h:i<l.length):l.drop i=l.getD i 0::l.drop (i+1):=by
 rw [List.drop_eq_getElem_cons h,List.getD_eq_getElem?_getD,List.getElem?_eq_getElem h]
 rfl
def jS (x:Wd) (n:Nat):Wd:=x.rotateRight n
def Kr (a b c d:UInt8):Wd:=(((a.toBitVec.setWidth 32 <<< 24)||| (b.toBitVec.setWidth 32 <<< 16))||| (c.toBitVec.setWidth 32 <<< 8))||| d.toBitVec.setWidth 32
def zg (x:Wd) (a b c:Nat) (shift:Bool):Wd:=if shift then (jS x a^^^jS x b)^^^(x >>> c) else (jS x a^^^jS x b)^^^jS x c
def qV (s:List UInt8) (i:Nat):Wd:=
 if h:i<16 then Kr (s.getD (4*i) 0) (s.getD (4*i+1) 0) (s.getD (4*i+2) 0) (s.getD (4*i+3) 0)
 else qV s (i-16)+zg (qV s (i-15)) 7 18 3 true+qV s (i-7)+zg (qV s (i-2)) 17 19 10 true
termination_by i
def ku (s:List UInt8) (n:Nat):List Wd:=(List.range n).map (qV s)
theorem xB (s:List UInt8) (n:Nat):(ku s n).length=n:=by simp [ku]
theorem sn {s:List UInt8} {n i:Nat} (h:i<n):(ku s n).getD i 0=qV s i:=by
 rw [ku,List.getD_eq_getElem?_getD,List.getElem?_map,List.getElem?_range h]
 rfl
theorem F8 (s:List UInt8) (n:Nat):ku s (n+1)=ku s n++[qV s n]:=by simp [ku,List.range_succ]
def xC (s:List UInt8) (n:Nat):List Wd:=ku s n++List.replicate (64-n) 0
theorem Q0 {s:List UInt8} {n:Nat} (h:n≤64):(xC s n).length=64:=by simp [xC,xB];omega
theorem Q1 {s:List UInt8} {n i:Nat} (h:i<n):(xC s n).getD i 0=qV s i:=by
 rw [xC,List.getD_eq_getElem?_getD,List.getElem?_append_left (by rw [xB];exact h), ← List.getD_eq_getElem?_getD,sn h]
theorem Ks {s:List UInt8} {n:Nat} (h:n<64):(xC s n).set n (qV s n)=xC s (n+1):=by
 rw [xC,xC,F8,List.set_append_right _ _ (by rw [xB];exact Nat.le_refl _),xB,Nat.sub_self,List.append_assoc]
 congr 1
 rw [show 64-n=(64-(n+1))+1 by omega,List.replicate_succ]
 rfl
def F9:List Wd:=[1116352408,1899447441,3049323471,3921009573,961987163,1508970993,2453635748,2870763221,3624381080,310598401,607225278,1426881987,1925078388,2162078206,2614888103,3248222580,3835390401,4022224774,264347078,604807628,770255983,1249150122,1555081692,1996064986,2554220882,2821834349,2952996808,3210313671,3336571891,3584528711,113926993,338241895,666307205,773529912,1294757372,1396182291,1695183700,1986661051,2177026350,2456956037,2730485921,2820302411,3259730800,3345764771,3516065817,3600352804,4094571909,275423344,430227734,506948616,659060556,883997877,958139571,1322822218,1537002063,1747873779,1955562222,2024104815,2227730452,2361852424,2428436474,2756734187,3204031479,3329325298]
def M7:List Wd:=[1779033703,3144134277,1013904242,2773480762,1359893119,2600822924,528734635,1541459225]
theorem PN (x:Wd) (n:Nat) (h:0<n∧n<32):jS x n=(x <<< (32-n))||| (x >>> n):=by
 rw [jS,BitVec.rotateRight_def,Nat.mod_eq_of_lt h.2,BitVec.or_comm]
theorem Ey (x:Wd) (r i:Nat) (hr:r<32) (hi:i<32):(x.rotateRight r).getLsbD i=x.getLsbD (if i+r<32 then i+r else i+r-32):=by
 rw [BitVec.getLsbD_rotateRight,Nat.mod_eq_of_lt hr]
 by_cases h:i+r<32
 ·rw [if_pos h,decide_eq_true (show i<32-r by omega),cond_true,Nat.add_comm]
 ·rw [if_neg h,decide_eq_false (show ¬ i<32-r by omega),cond_false,decide_eq_true hi,Bool.true_and,show i-(32-r)=i+r-32 by omega]
theorem Q2 (x:Wd) (n:Nat) (h:n<31):jS (jS x n) 1=jS x (n+1):=by
 unfold jS
 apply BitVec.eq_of_getLsbD_eq
 intro i hi
 rw [Ey _ _ _ (by omega) hi,Ey _ _ _ (by omega) hi,Ey _ _ _ (by omega) (by split<;>omega)]
 congr 1
 repeat' split
 all_goals omega
theorem TL (x:Wd):((x.toNat/2+x.toNat%2*2147483648:Nat))=(jS x 1).toNat:=by
 have h:=PN x 1 (by omega)
 have e:(x <<< 31)&&& (x >>> 1)=0#32:=by
  apply BitVec.eq_of_getLsbD_eq
  intro i hi
  rw [BitVec.getLsbD_and,BitVec.getLsbD_shiftLeft,BitVec.getLsbD_ushiftRight,BitVec.getLsbD_zero]
  by_cases h1:i<31
  ·simp [h1]
  ·rw [BitVec.getLsbD_of_ge x (1+i) (by omega)];simp
 rw [h, ← BitVec.add_eq_or_of_and_eq_zero _ _ e,BitVec.toNat_add,BitVec.toNat_shiftLeft,BitVec.toNat_ushiftRight,Nat.shiftLeft_eq,Nat.shiftRight_eq_div_pow]
 have:=x.isLt
 omega
theorem OW (x:Wd):jS x 0=x:=by
 unfold jS
 apply BitVec.eq_of_getLsbD_eq
 intro i hi
 rw [Ey _ _ _ (by omega) hi,if_pos (by omega),Nat.add_zero]
theorem Q3 (x:Wd) (i:Nat):((x >>> i).toNat:Int)/2=((x >>> (i+1)).toNat:Int):=by
 rw [BitVec.toNat_ushiftRight,BitVec.toNat_ushiftRight,Nat.shiftRight_succ]
 omega
theorem OX (s:List UInt8):List.replicate 64 0=xC s 0:=rfl
theorem M8 {s:List UInt8} {i:Nat} (h:i<16):qV s i=Kr (s.getD (4*i) 0) (s.getD (4*i+1) 0) (s.getD (4*i+2) 0) (s.getD (4*i+3) 0):=by rw [qV,dif_pos h]
theorem Ku {s:List UInt8} {i:Nat} (h:16≤i):qV s i=qV s (i-16)+zg (qV s (i-15)) 7 18 3 true+qV s (i-7)+zg (qV s (i-2)) 17 19 10 true:=by rw [qV,dif_neg (by omega)]
theorem OY (s:List UInt8):xC s 64=ku s 64:=by simp [xC]
def ZY (s:List UInt8) (i:Nat) (v:List Wd):List Wd:=
  [(v.getD 7 0+zg (v.getD 4 0) 6 11 25 false+((v.getD 4 0&&& v.getD 5 0)^^^(~~~(v.getD 4 0)&&& v.getD 6 0))+F9.getD i 0+qV s i)+(zg (v.getD 0 0) 2 13 22 false+(((v.getD 0 0&&& v.getD 1 0)^^^(v.getD 0 0&&& v.getD 2 0))^^^(v.getD 1 0&&& v.getD 2 0))),
   v.getD 0 0,v.getD 1 0,v.getD 2 0,
   v.getD 3 0+(v.getD 7 0+zg (v.getD 4 0) 6 11 25 false+((v.getD 4 0&&& v.getD 5 0)^^^(~~~(v.getD 4 0)&&& v.getD 6 0))+F9.getD i 0+qV s i),v.getD 4 0,v.getD 5 0,v.getD 6 0]
def vh (s:List UInt8) (h:List Wd):Nat→List Wd
 | 0=>h
 | n+1=>ZY s n (vh s h n)
theorem OZ (s:List UInt8) (h:List Wd) (n:Nat):vh s h (n+1)=ZY s n (vh s h n):=rfl
theorem zh (s:List UInt8) (h:List Wd) (n:Nat) (hh:h.length=8):(vh s h n).length=8:=by
 cases n with
 | zero=>exact hh
 | succ n=>rfl
def vi (h v:List Wd) (n:Nat):List Wd:=List.zipWith (· +·) (h.take n) (v.take n)++h.drop n
theorem O0 (h v:List Wd):vi h v 0=h:=by simp [vi]
theorem Ft (h v:List Wd) (n:Nat) (hh:h.length=8) (hv:v.length=8) (hn:n≤8):(vi h v n).length=8:=by simp [vi,hh,hv];omega
theorem Q4 {h v:List Wd} {i:Nat} (hi:i<h.length) (hv:h.length=v.length):(vi h v i).getD i 0=h.getD i 0:=by
 rw [vi,List.getD_eq_getElem?_getD,List.getElem?_append_right (by simp;omega),List.getD_eq_getElem?_getD]
 congr 1
 rw [List.getElem?_drop]
 congr 1
 simp
 omega
theorem Q5 {h v:List Wd} {i:Nat} (hi:i<h.length) (hv:h.length=v.length):(vi h v i).set i ((vi h v i).getD i 0+v.getD i 0)=vi h v (i+1):=by
 rw [Q4 hi hv,vi,vi,List.set_append_right _ _ (by simp;omega)]
 have e:(List.zipWith (· +·) (h.take i) (v.take i)).length=i:=by simp;omega
 have e1:h.drop i=h.getD i 0::h.drop (i+1):=by
  rw [List.drop_eq_getElem_cons hi,List.getD_eq_getElem?_getD,List.getElem?_eq_getElem hi];rfl
 have e2:h.take (i+1)=h.take i++[h.getD i 0]:=by
  rw [List.take_add_one,List.getD_eq_getElem?_getD,List.getElem?_eq_getElem hi];rfl
 have e3:v.take (i+1)=v.take i++[v.getD i 0]:=by
  rw [List.take_add_one,List.getD_eq_getElem?_getD,List.getElem?_eq_getElem (by omega)];rfl
 rw [e,Nat.sub_self,e1,List.set_cons_zero,e2,e3,List.zipWith_append (by simp;omega)]
 simp
def tI (h:List Wd) (s:List UInt8):List Wd:=vi h (vh s h 64) 8
theorem Lp {h:List Wd} {s:List UInt8} (hh:h.length=8):(tI h s).length=8:=Ft h _ 8 hh (zh s h 64 hh) (by omega)
def Ez (m w:Nat):List UInt8:=(List.range w).map fun i=>UInt8.ofNat (m/256 ^ i)
theorem EA (m w:Nat):(Ez m w).length=w:=by simp [Ez]
def tJ (n:Nat):Nat:=(119-n%64)%64
def vD (s:List UInt8):List UInt8:=s++128::List.replicate (tJ s.length) 0
def tK (s:List UInt8):List UInt8:=vD s++(Ez (s.length*8) 8).reverse
theorem DF (s:List UInt8):(vD s).length=s.length+1+tJ s.length:=by simp [vD];omega
theorem IG (s:List UInt8):(tK s).length%64=0∧(tK s).length≤s.length+72:=by
 have:=DF s
 have h2:(tK s).length=(vD s).length+8:=by simp [tK,EA]
 rw [h2,this]
 unfold tJ
 omega
theorem div_pow (m i:Nat):m/256 ^ i/256=m/256 ^ (i+1):=by rw [Nat.div_div_eq_div_mul,Nat.pow_succ]
theorem Kv (n:Nat):List.replicate n (0:UInt8)++[0]=List.replicate (n+1) 0:=by rw [List.replicate_succ']
theorem Q6 {l:List UInt8} {j:Nat} (h:j<l.length):(l.drop (j+1)).reverse++[l.getD j 0]=(l.drop j).reverse:=by
 rw [M6 h,List.reverse_cons]
def tL (h:List Wd) (t:List UInt8):List Wd:=
 if t.length<64 then h else tL (tI h (t.take 64)) (t.drop 64)
termination_by t.length
decreasing_by simp;omega
def W0 (s:List UInt8):List Wd:=tL M7 (tK s)
def vV (h:List Wd) (i:Nat):UInt8:=UInt8.ofNat (h.getD (i/4) 0 >>> (24-8*(i%4))).toNat
def Ga (s:List UInt8):List UInt8:=(List.range 32).map (vV (W0 s))
theorem zi (s:List UInt8):(Ga s).length=32:=by simp [Ga]
theorem CV (h:List Wd) {t:List UInt8} (ht:64≤t.length):tL h t=tL (tI h (t.take 64)) (t.drop 64):=by rw [tL,if_neg (by omega)]
theorem EB {h g:List Wd} {t:List UInt8} (f:tL h t=g) (ht:t=[]):h=g:=by rw [← f,ht,tL];rfl
def II (s:List UInt8) (a:Nat):Nat→Nat
 | 0=>0
 | j+1=>256*II s a j+(s.getD (a+j) 0).toNat
theorem Lq (s:List UInt8) (a j:Nat) (h:j≤4):II s a j<4294967296:=by
 have b0:=n7 (s.getD (a+0) 0)
 have b1:=n7 (s.getD (a+1) 0)
 have b2:=n7 (s.getD (a+2) 0)
 have b3:=n7 (s.getD (a+3) 0)
 match j,h with
 | 0,_=>show 0<_;omega
 | 1,_=>show 256*0+(s.getD (a+0) 0).toNat<_;omega
 | 2,_=>show 256*(256*0+(s.getD (a+0) 0).toNat)+(s.getD (a+1) 0).toNat<_;omega
 | 3,_=>show 256*(256*(256*0+(s.getD (a+0) 0).toNat)+(s.getD (a+1) 0).toNat)+(s.getD (a+2) 0).toNat<_;omega
 | 4,_=>show 256*(256*(256*(256*0+(s.getD (a+0) 0).toNat)+(s.getD (a+1) 0).toNat)+(s.getD (a+2) 0).toNat)+(s.getD (a+3) 0).toNat<_;omega
theorem Fu (x y:Wd) (k:Nat) (hk:k<32) (h:y.toNat<2 ^ k):((x <<< k)||| y).toNat=(x <<< k).toNat+y.toNat:=by
  have e:(x <<< k)&&& y=0#32:=by
    apply BitVec.eq_of_getLsbD_eq
    intro i hi
    rw [BitVec.getLsbD_and,BitVec.getLsbD_shiftLeft,BitVec.getLsbD_zero]
    by_cases h1:i<k
    · simp [h1]
    · have:y.getLsbD i=false:=by
        rw [BitVec.getLsbD,Nat.testBit_lt_two_pow (Nat.lt_of_lt_of_le h (Nat.pow_le_pow_right (by omega) (by omega)))]
      simp [this]
  rw [← BitVec.add_eq_or_of_and_eq_zero _ _ e,BitVec.toNat_add,Nat.mod_eq_of_lt]
  rw [BitVec.toNat_shiftLeft,Nat.shiftLeft_eq]
  obtain ⟨m,hm⟩:∃ m,2 ^ 32=2 ^ k*m:=⟨2 ^ (32-k),by rw [← Nat.pow_add];congr 1;omega⟩
  rw [hm,Nat.mul_comm x.toNat,Nat.mul_mod_mul_left]
  have hm0:0<m:=by
                         rcases Nat.eq_zero_or_pos m with h0 | h0;· rw [h0] at hm;simp at hm
                         · exact h0
  have:=Nat.mod_lt x.toNat hm0
  calc 2 ^ k*(x.toNat%m)+y.toNat<2 ^ k*(x.toNat%m)+2 ^ k:=by omega
    _=2 ^ k*(x.toNat%m+1):=by rw [Nat.mul_add,Nat.mul_one]
    _≤2 ^ k*m:=Nat.mul_le_mul_left _ (by omega)
theorem Q7 (a b c d:UInt8):(Kr a b c d).toNat=256*(256*(256*(256*0+a.toNat)+b.toNat)+c.toNat)+d.toNat:=by
 have ha:=n7 a
 have hb:=n7 b
 have hc:=n7 c
 have hd:=n7 d
 have w:∀ x:UInt8,(x.toBitVec.setWidth 32).toNat=x.toNat:=fun x=>by
  rw [BitVec.toNat_setWidth];have:=n7 x;exact Nat.mod_eq_of_lt (by show x.toNat<_;omega)
 have s24:(a.toBitVec.setWidth 32 <<< 24).toNat=a.toNat*16777216:=by rw [BitVec.toNat_shiftLeft,w,Nat.shiftLeft_eq];omega
 have s16:(b.toBitVec.setWidth 32 <<< 16).toNat=b.toNat*65536:=by rw [BitVec.toNat_shiftLeft,w,Nat.shiftLeft_eq];omega
 have s8:(c.toBitVec.setWidth 32 <<< 8).toNat=c.toNat*256:=by rw [BitVec.toNat_shiftLeft,w,Nat.shiftLeft_eq];omega
 unfold Kr
 rw [BitVec.or_assoc,BitVec.or_assoc]
 have e1:((c.toBitVec.setWidth 32 <<< 8)||| d.toBitVec.setWidth 32).toNat=c.toNat*256+d.toNat:=by rw [Fu _ _ 8 (by omega) (by rw [w];omega),s8,w]
 have e2:((b.toBitVec.setWidth 32 <<< 16)||| ((c.toBitVec.setWidth 32 <<< 8)||| d.toBitVec.setWidth 32)).toNat=b.toNat*65536+(c.toNat*256+d.toNat):=by rw [Fu _ _ 16 (by omega) (by rw [e1];omega),s16,e1]
 rw [Fu _ _ 24 (by omega) (by rw [e2];omega),s24,e2]
 omega
theorem Q8 {s:List UInt8} {i j:Nat} (hi:i<16) (hj:j=4):((II s (4*i) j:Nat):Int)=((qV s i).toNat:Int):=by
 rw [hj,M8 hi,Q7]
 rfl
theorem Yh {s:List UInt8} {i:Nat} (h:16≤i):(ku s i).getD (i-16) 0+((jS ((ku s i).getD (i-15) 0) 7^^^jS ((ku s i).getD (i-15) 0) 18)^^^((ku s i).getD (i-15) 0 >>> 3))+(ku s i).getD (i-7) 0+
  ((jS ((ku s i).getD (i-2) 0) 17^^^jS ((ku s i).getD (i-2) 0) 19)^^^((ku s i).getD (i-2) 0 >>> 10))=qV s i:=by
 rw [sn (by omega),sn (by omega),sn (by omega),sn (by omega),Ku h]
 rfl
theorem TM (e f g:Wd):(e&&& f)||| (~~~e&&& g)=(e&&& f)^^^(~~~e&&& g):=by
 apply BitVec.eq_of_getLsbD_eq
 intro i hi
 simp only [BitVec.getLsbD_or,BitVec.getLsbD_xor,BitVec.getLsbD_and,BitVec.getLsbD_not,hi,decide_true,Bool.true_and]
 cases e.getLsbD i<;>cases f.getLsbD i<;>cases g.getLsbD i<;>rfl
theorem TO (a b c:Wd):((a&&& b)||| (a&&& c))||| (b&&& c)=((a&&& b)^^^(a&&& c))^^^(b&&& c):=by
 apply BitVec.eq_of_getLsbD_eq
 intro i hi
 simp only [BitVec.getLsbD_or,BitVec.getLsbD_xor,BitVec.getLsbD_and]
 cases a.getLsbD i<;>cases b.getLsbD i<;>cases c.getLsbD i<;>rfl
def EC (h v:List Wd) (i:Nat):List Wd:=(List.range i).map fun j=>h.getD j 0+v.getD j 0
theorem Q9 (h v:List Wd) (i:Nat):(EC h v i).length=i:=by simp [EC]
theorem O1 (h v:List Wd) (i:Nat):EC h v (i+1)=EC h v i++[h.getD i 0+v.getD i 0]:=by simp [EC,List.range_succ]
theorem O2 (h:List Wd) (s:List UInt8) (hh:h.length=8):EC h (vh s h 64) 8=tI h s:=by
 have hv:=zh s h 64 hh
 unfold tI
 generalize vh s h 64=v at*
 match h,v,hh,hv with
 | [a0,a1,a2,a3,a4,a5,a6,a7],[b0,b1,b2,b3,b4,b5,b6,b7],_,_=>rfl
theorem Kw (m i:Nat):Ez m (i+1)=Ez m i++[UInt8.ofNat (m/256 ^ i)]:=by simp [Ez,List.range_succ]
theorem TP (m i:Nat):[UInt8.ofNat (m/256 ^ i)]++(Ez m i).reverse=(Ez m (i+1)).reverse:=by rw [Kw,List.reverse_append];rfl
theorem TQ (h:List Wd) (i:Nat):UInt8.ofNat ((h.getD (i/4) 0).toNat/256 ^ (3-i%4))=vV h i:=by
 unfold vV
 rw [BitVec.toNat_ushiftRight,Nat.shiftRight_eq_div_pow,show (256:Nat)=2 ^ 8 from rfl, ← Nat.pow_mul,show 8*(3-i%4)=24-8*(i%4) by omega]
end Go.Proofs.YtlfjfoknbjcncaaGreat.K
namespace Go.Proofs.YtlfjfoknbjcncaaGreat.K
open Go
set_option linter.unusedVariables false
set_option linter.unusedSimpArgs false
theorem TR (n:Nat) (a:aD 8 UInt8) (i:Nat) (h:i<8) (ha:a.1=Dz n i++List.replicate (8-i) 0) (b:UInt8) (hb:b=UInt8.ofNat (n/256 ^ i%256)):(a.put (i:Int) b).1=Dz n (i+1)++List.replicate (8-(i+1)) 0:=by
 subst hb
 show a.1.set (i:Int).toNat _=_
 rw [ha,Int.toNat_natCast,Fi,List.set_append_right _ _ (by simp),MS,Nat.sub_self,show 8-i=(8-(i+1))+1 by omega,List.replicate_succ,List.set_cons_zero]
 simp
theorem Wt (n:BitVec 64) (w:Nat) (hw:w≤8):x7 n (w:Int)=some (Dz n.toNat w):=by
 have hm:gl (jj (w:Int) 0) 8=(w:Int):=by unfold gl jj;repeat' split<;>omega
 refine bZ (.next rfl ?_)
 have key:∀ i,i≤w→(∀ a:aD 8 UInt8,a.1=Dz n.toNat i++List.replicate (8-i) 0→Comes (lB n (w:Int)) (.L1 (BitVec.ofNat 64 (n.toNat/256 ^ i)) (i:Int) a) (Dz n.toNat w))→Comes (lB n (w:Int)) (.L1 n 0 (aD.rep 8 0)) (Dz n.toNat w):=by
  intro i
  induction i with
  | zero=>
   intro _ h
   have:=h (aD.rep 8 0) rfl
   simpa using this
  | succ i ih=>
   intro hi h
   refine ih (by omega) fun a ha=> .next ?_ (h (a.put (i:Int) (UInt8.ofNat (n.toNat/256 ^ i%256))) (TR n.toNat a i (by omega) ha _ rfl))
   simp only [lB]
   have h2:n.toNat/256 ^ i<2 ^ 64:=Nat.lt_of_le_of_lt (Nat.div_le_self _ _) n.isLt
   have e2:qY (BitVec.ofNat 64 (n.toNat/256 ^ i)) (8:Int)=BitVec.ofNat 64 (n.toNat/256 ^ (i+1)):=by
    apply BitVec.eq_of_toNat_eq
    show (BitVec.ofNat 64 (n.toNat/256 ^ i) >>> 8).toNat=_
    rw [BitVec.toNat_ushiftRight,BitVec.toNat_ofNat,BitVec.toNat_ofNat,Nat.mod_eq_of_lt h2,Nat.mod_eq_of_lt (Nat.lt_of_le_of_lt (Nat.div_le_self _ _) n.isLt),Nat.pow_succ, ← Nat.div_div_eq_div_mul,Nat.shiftRight_eq_div_pow]
   rw [hm,decide_eq_true (by omega),cond_true,ah (by omega),ah (by unfold bf;omega),e2,xq,BitVec.toNat_ofNat,Nat.mod_eq_of_lt h2,uN]
   rfl
 refine key w (Nat.le_refl _) fun a ha=> .stop ?_
 simp only [lB]
 rw [hm,decide_eq_false (by omega),cond_false,ah (by omega),Er,ha,List.take_left' (by simp)]
end Go.Proofs.YtlfjfoknbjcncaaGreat.K
namespace Go.Proofs.YtlfjfoknbjcncaaGreat.K
open Go
set_option linter.unusedVariables false
set_option linter.unusedSimpArgs false
theorem Ra:∀ n:Fin 32,0<n.val→((BitVec.ofInt 64 (0-(n.val:Int)))&&& (31:BitVec 64)).toNat=32-n.val∧((32:BitVec 64)-((BitVec.ofInt 64 (0-(n.val:Int)))&&& (31:BitVec 64))).toNat=n.val:=by decide
theorem TS (x:BitVec 32) (n:Nat) (h:0<n∧n<32):iT x (0-(n:Int))=some (jS x n):=by
 obtain ⟨h1,h2⟩:=Ra ⟨n,h.2⟩ h.1
 simp only at h1 h2
 unfold iT
 rw [ah (by omega),ah (by omega),h1,h2,PN x n h]
 unfold sx qY
 rw [show min (((32-n:Nat):Int)).toNat 32=32-n by omega,show min ((n:Int)).toNat 32=n by omega]
theorem IJ (x:BitVec 32) (n:Nat) (h:0<n∧n<32):l7 (n:Int) x=some (jS x n):=by
 unfold l7
 rw [ah (by unfold bf;omega),TS x n h];rfl
theorem GJ (x:BitVec 32) (a b c:Nat) (s:Bool) (ha:0<a∧a<32) (hb:0<b∧b<32) (hc:0<c∧c<32):lR x (a:Int) (b:Int) (c:Int) s=some (zg x a b c s):=by
 unfold lR zg
 rw [IJ x a ha,IJ x b hb,IJ x c hc]
 cases s with
 | true=>
  simp only [cond_true,Option.bind_some,if_true]
  rw [ah (by omega)]
  unfold qY
  rw [show min ((c:Int)).toNat 32=c by omega]
 | false=>rfl
theorem TU (s:List UInt8) (h:4≤s.length):va s=some (Kr (s.getD 0 0) (s.getD 1 0) (s.getD 2 0) (s.getD 3 0)):=by
 have e:∀ b:UInt8,BitVec.ofInt 32 ((b.toNat:Nat):Int)=b.toBitVec.setWidth 32:=by
  intro b
  apply BitVec.eq_of_toNat_eq
  have:=b.toNat_lt
  rw [BitVec.toNat_setWidth,BitVec.toNat_ofInt]
  show ((b.toNat:Int)%(2 ^ 32:Nat)).toNat=b.toNat%2 ^ 32
  omega
 unfold va Kr
 rw [ah (by omega),ah (by omega),ah (by omega),ah (by omega),e,e,e,e]
 rfl
theorem Rb (s:List UInt8) (h:s.length=64):∃ r:aD 64 (BitVec 32),r.1=ku s 64∧zQ s=some r:=by
 have P:∀ n,n≤64→(xC s n).length=64:=fun n h=>Q0 h
 let A:Nat→aD 64 (BitVec 32):=fun n=>if h:n≤64 then ⟨xC s n,P n h⟩ else aD.rep 64 0
 have hA:∀ n,n≤64→(A n).1=xC s n:=by intro n h;show (if h:n≤64 then (⟨xC s n,P n h⟩:aD 64 (BitVec 32)) else aD.rep 64 0).1=_;rw [dif_pos h]
 have get:∀ n i,n≤64→i<n→idx (A n).1 (i:Int)=qV s i:=by
  intro n i h1 h2
  rw [hA n h1,iB];exact Q1 h2
 refine ⟨A 64,by rw [hA 64 (Nat.le_refl _),OY],bZ (Comes.next (c':= .L1 0 (A 0)) ?_ ?_)⟩
 ·have:A 0=aD.rep 64 0:=Subtype.ext ((hA 0 (by omega)).trans (OX s).symm)
  rw [this];rfl
 ·refine Comes.upto (step:=gq s) (fun i=> .L1 (i:Int) (A i)) 16 ?_ ?_
  ·intro i hi
   have e1:(4:Int)*(i:Int)=((4*i:Nat):Int):=by omega
   have hw:=TU (s.drop (4*i)) (by rw [List.length_drop];omega)
   have g:∀ k,(s.drop (4*i)).getD k 0=s.getD (4*i+k) 0:=by intro k;simp [List.getD_eq_getElem?_getD]
   rw [g,g,g,g,Nat.add_zero, ← M8 hi] at hw
   have hn:(A i).put (i:Int) (qV s i)=A (i+1):=by
    apply Subtype.ext
    show (A i).1.set (i:Int).toNat (qV s i)=_
    rw [Int.toNat_natCast,hA i (by omega),hA (i+1) (by omega),Ks (by omega)]
   simp only [gq]
   rw [decide_eq_true (by omega),cond_true,ah (by unfold bf;omega),ah (by omega),e1,nD,hw,Option.bind_some,ah (by omega),ah (by unfold bf;omega),hn]
   rfl
  ·refine Comes.next (c':= .L2 16 (A 16)) ?_ ?_
   ·simp only [gq]
    rw [decide_eq_false (by omega),cond_false]
   ·have:=Comes.upto (step:=gq s) (fun j=> .L2 ((16+j:Nat):Int) (A (16+j))) 48 (r:=A 64) (by
     intro j hj
     have d16:((16+j:Nat):Int)-16=((16+j-16:Nat):Int):=by omega
     have d15:((16+j:Nat):Int)-15=((16+j-15:Nat):Int):=by omega
     have d7:((16+j:Nat):Int)-7=((16+j-7:Nat):Int):=by omega
     have d2:((16+j:Nat):Int)-2=((16+j-2:Nat):Int):=by omega
     have hn:(A (16+j)).put ((16+j:Nat):Int) (qV s (16+j))=A (16+j+1):=by
      apply Subtype.ext
      show (A (16+j)).1.set ((16+j:Nat):Int).toNat (qV s (16+j))=_
      rw [Int.toNat_natCast,hA (16+j) (by omega),hA (16+j+1) (by omega),Ks (by omega)]
     simp only [gq]
     rw [decide_eq_true (by omega),cond_true,d16,d15,d7,d2,ah (by unfold bf;omega),ah (by omega),ah (by unfold bf;omega),ah (by omega),get _ _ (by omega) (by omega),get _ _ (by omega) (by omega),get _ _ (by omega) (by omega),get _ _ (by omega) (by omega)]
     rw [show lR (qV s (16+j-15)) 7 18 3 true=some (zg (qV s (16+j-15)) 7 18 3 true) from GJ _ 7 18 3 true (by omega) (by omega) (by omega),Option.bind_some,ah (by unfold bf;omega),ah (by omega),ah (by unfold bf;omega),ah (by omega),
      show lR (qV s (16+j-2)) 17 19 10 true=some (zg (qV s (16+j-2)) 17 19 10 true) from GJ _ 17 19 10 true (by omega) (by omega) (by omega),Option.bind_some,ah (by omega),ah (by unfold bf;omega), ← Ku (by omega),hn]
     rfl) (by
     refine Comes.stop ?_
     simp only [gq]
     rw [decide_eq_false (by omega)]
     rfl)
    exact this
theorem TV (h:aD 8 (BitVec 32)) (s:List UInt8) (hs:s.length=64):∃ r:aD 8 (BitVec 32),r.1=tI h.1 s∧Bi h s=some r:=by
 obtain ⟨w,hw1,Yi⟩:=Rb s hs
 let B:Nat→aD 8 (BitVec 32):=fun n=>⟨vh s h.1 n,zh s h.1 n h.2⟩
 let K:aD 64 (BitVec 32):=⟨F9,rfl⟩
 have hwg:∀ i:Nat,i<64→idx w.1 (i:Int)=qV s i:=by intro i hi;rw [hw1,iB];exact sn hi
 let A:Nat→aD 8 (BitVec 32):=fun n=>if hn:n≤8 then ⟨vi h.1 (B 64).1 n,Ft h.1 _ n h.2 (B 64).2 hn⟩ else h
 have hA:∀ n,n≤8→(A n).1=vi h.1 (B 64).1 n:=by
  intro n hn
  show (if hn:n≤8 then (⟨vi h.1 (B 64).1 n,Ft h.1 _ n h.2 (B 64).2 hn⟩:aD 8 (BitVec 32)) else h).1=_
  rw [dif_pos hn]
 refine ⟨A 8,hA 8 (Nat.le_refl _),bZ (Comes.next (c':= .L1 0 w K h) ?_ ?_)⟩
 ·simp only [gv]
  rw [Yi];rfl
 ·refine Comes.upto (step:=gv h s) (fun i=> .L1 (i:Int) w K (B i)) 64 ?_ ?_
  ·intro i hi
   have yP:lR (idx (B i).1 (4:Int)) 6 11 25 false=some (zg ((B i).1.getD 4 0) 6 11 25 false):=GJ _ 6 11 25 false (by omega) (by omega) (by omega)
   have hm2:lR (idx (B i).1 (0:Int)) 2 13 22 false=some (zg ((B i).1.getD 0 0) 2 13 22 false):=GJ _ 2 13 22 false (by omega) (by omega) (by omega)
   have hk:idx K.1 (i:Int)=F9.getD i 0:=iB _ _
   simp only [gv]
   rw [decide_eq_true (by omega),cond_true,yP,Option.bind_some,ah (by omega),ah (by omega),hm2,Option.bind_some,ah (by unfold bf;omega),hk,hwg i hi]
   rfl
  ·refine Comes.next (c':= .L2 0 h (B 64)) ?_ ?_
   ·simp only [gv]
    rw [decide_eq_false (by omega)];rfl
   ·have h0:A 0=h:=Subtype.ext ((hA 0 (by omega)).trans (O0 _ _))
    have:=Comes.upto (step:=gv h s) (fun i=> .L2 (i:Int) (A i) (B 64)) 8 (r:=A 8) (by
     intro i hi
     have hlen:h.1.length=8:=h.2
     have hB:(B 64).1.length=8:=(B 64).2
     have e1:idx (A i).1 (i:Int)=(vi h.1 (B 64).1 i).getD i 0:=by rw [hA i (by omega),iB];rfl
     have e2:idx (B 64).1 (i:Int)=(B 64).1.getD i 0:=iB _ _
     have hn:(A i).put (i:Int) ((vi h.1 (B 64).1 i).getD i 0+(B 64).1.getD i 0)=A (i+1):=by
      apply Subtype.ext
      show (A i).1.set (i:Int).toNat _=_
      rw [Int.toNat_natCast,hA i (by omega),hA (i+1) (by omega),Q5 (by omega) (by omega)]
     simp only [gv]
     rw [decide_eq_true (by omega),cond_true,ah (by omega),ah (by omega),ah (by omega),ah (by unfold bf;omega),e1,e2,hn]
     rfl) (by
     refine Comes.stop ?_
     simp only [gv]
     rw [decide_eq_false (by omega)];rfl)
    rw [h0] at this
    exact this
theorem TX (n:Nat):∀ w,Dz n w=Ez n w
 | 0=>rfl
 | w+1=>by rw [Fi,Kw,TX n w,uN]
theorem O3 (s:List UInt8) (hs:s.length≤1000000):yw s=some (tK s):=by
 have ZZ:tJ s.length<64:=by unfold tJ;omega
 refine bZ (Comes.next (c':= .L1 (s++[128])) ?_ ?_)
 ·simp only [fm]
  rw [ah (by omega),ah (by simp only [List.length_singleton];omega)]
 ·refine Comes.upto (step:=fm s) (fun j=> .L1 (s++128::List.replicate j 0)) (tJ s.length) ?_ ?_
  ·intro j hj
   have hl:(s++128::List.replicate j (0:UInt8)).length=s.length+1+j:=by simp;omega
   have e:s++128::List.replicate j (0:UInt8)++[0]=s++128::List.replicate (j+1) 0:=by rw [List.append_assoc,List.cons_append,Kv]
   have hne:¬ (((s.length+1+j:Nat):Int).tmod 64=56):=by
    rw [Int.tmod_eq_emod_of_nonneg (by omega)]
    unfold tJ at hj
    omega
   simp only [fm]
   rw [hl,decide_eq_false hne,Bool.not_false,cond_true,ah (by simp only [List.length_singleton];omega),e]
  ·have hl:(s++128::List.replicate (tJ s.length) (0:UInt8)).length=s.length+1+tJ s.length:=by simp;omega
   have he:((s.length+1+tJ s.length:Nat):Int).tmod 64=56:=by
    rw [Int.tmod_eq_emod_of_nonneg (by omega)]
    unfold tJ
    omega
   have hN:=Wt (BitVec.ofInt 64 (s.length:Int)*(8:BitVec 64)) 8 (by omega)
   have hv:(BitVec.ofInt 64 (s.length:Int)*(8:BitVec 64)).toNat=s.length*8:=by
    rw [BitVec.toNat_mul,BitVec.toNat_ofInt]
    show ((s.length:Int)%(2 ^ 64:Nat)).toNat*8%2 ^ 64=_
    omega
   rw [hv,TX] at hN
   have hL:=EA (s.length*8) 8
   refine Comes.next (c':= .L2 (vD s) (Ez (s.length*8) 8) 7) ?_ ?_
   ·simp only [fm]
    rw [hl,decide_eq_true he,Bool.not_true,cond_false,show x7 (BitVec.ofInt 64 (s.length:Int)*(8:BitVec 64)) 8=some (Ez (s.length*8) 8) from hN]
    rfl
   ·unfold tK
    generalize Ez (s.length*8) 8=l at hL
    have hf0:=DF s
    have h8:vD s++(l.drop (8-0)).reverse=vD s:=by rw [List.drop_eq_nil_of_le (by omega)];simp
    have:=Comes.upto (step:=fm s) (fun j=> .L2 (vD s++(l.drop (8-j)).reverse) l (7-(j:Int))) 8 (r:=vD s++l.reverse) (by
     intro j hj
     have hx:idx l (7-(j:Int))=l.getD (7-j) 0:=by
      rw [show (7:Int)-(j:Int)=((7-j:Nat):Int) by omega,iB];rfl
     have hd:=Q6 (l:=l) (j:=7-j) (by omega)
     rw [show 7-j+1=8-j by omega] at hd
     have hlen:(vD s++(l.drop (8-j)).reverse).length≤s.length+100:=by
      rw [List.length_append,List.length_reverse,List.length_drop];omega
     simp only [fm]
     rw [decide_eq_true (by omega),cond_true,ah (by omega),hx,ah (by simp only [List.length_singleton];omega),ah (by unfold bf;omega),List.append_assoc,hd,show 8-(j+1)=7-j by omega,show (7:Int)-(j:Int)-1=7-((j+1:Nat):Int) by omega]) (by
     refine Comes.stop ?_
     simp only [fm]
     rw [decide_eq_false (by omega),cond_false,show 8-8=0 from rfl,List.drop_zero])
    rw [h8,show (7:Int)-((0:Nat):Int)=7 from rfl] at this
    exact this
theorem Rc (f:Nat→UInt8) (n i:Nat) (h:i<n):((List.range i).map f++List.replicate (n-i) 0).set i (f i)=(List.range (i+1)).map f++List.replicate (n-(i+1)) 0:=by
 rw [List.set_append_right _ _ (by simp)]
 simp only [List.length_map,List.length_range,Nat.sub_self]
 rw [show n-i=(n-(i+1))+1 by omega,List.replicate_succ,List.set_cons_zero,List.range_succ,List.map_append,List.append_assoc]
 rfl
theorem TY (s:List UInt8):∀ (k:Nat) (t:List UInt8) (h:aD 8 (BitVec 32)),t.length=64*k→∃ g:aD 8 (BitVec 32),g.1=tL h.1 t∧∀ r,Comes (iy s) (.L2 0 g (aD.rep 32 0)) r→Comes (iy s) (.L1 t h) r
 | 0,t,h,hl=>by
  have ht:t=[]:=List.length_eq_zero_iff.1 (by omega)
  subst ht
  refine ⟨h,EB rfl rfl,fun r hr=>Comes.next ?_ hr⟩
  simp only [iy]
  rfl
 | k+1,t,h,hl=>by
  obtain ⟨h',e1,e2⟩:=TV h (t.take 64) (by rw [List.length_take];omega)
  obtain ⟨g,g1,g2⟩:=TY s k (t.drop 64) h' (by rw [List.length_drop];omega)
  refine ⟨g,by rw [g1,e1, ← CV h.1 (by omega)],fun r hr=>Comes.next ?_ (g2 r hr)⟩
  have hne:(t==([]:List UInt8))=false:=by
   rw [beq_eq_false_iff_ne];intro e;rw [e] at hl;simp at hl
  have s1:sub t (0:Int) (64:Int)=t.take 64:=Er t 64
  have s2:sub t (64:Int) (t.length:Int)=t.drop 64:=nD t 64
  simp only [iy]
  rw [hne,Bool.not_false,cond_true,ah (by omega),s1,e2,Option.bind_some,ah (by omega),s2]
theorem Wu (s:List UInt8) (hs:s.length≤1000000):∃ r:aD 32 UInt8,r.1=Ga s∧E9 s=some r:=by
 have hF:=IG s
 obtain ⟨g,g1,g2⟩:=TY s ((tK s).length/64) (tK s) ⟨M7,rfl⟩ (by omega)
 have hg:g.1.length=8:=g.2
 let A:Nat→aD 32 UInt8:=fun n=>if hn:n≤32 then ⟨(List.range n).map (vV g.1)++List.replicate (32-n) 0,by simp;omega⟩ else aD.rep 32 0
 have hA:∀ n,n≤32→(A n).1=(List.range n).map (vV g.1)++List.replicate (32-n) 0:=by
  intro n hn
  show (if hn:n≤32 then (⟨(List.range n).map (vV g.1)++List.replicate (32-n) 0,by simp;omega⟩:aD 32 UInt8) else aD.rep 32 0).1=_
  rw [dif_pos hn]
 have h0:A 0=aD.rep 32 0:=Subtype.ext (hA 0 (by omega))
 refine ⟨A 32,?_,bZ (Comes.next (c':= .L1 (tK s) ⟨M7,rfl⟩) ?_ (g2 _ ?_))⟩
 ·rw [hA 32 (Nat.le_refl _),Nat.sub_self,List.replicate_zero,List.append_nil,g1];rfl
 ·simp only [iy]
  rw [O3 s hs];rfl
 ·have:=Comes.upto (step:=iy s) (fun i=> .L2 (i:Int) g (A i)) 32 (r:=A 32) (by
   intro i hi
   have q1:(i:Int).tdiv 4=((i/4:Nat):Int):=by rw [Int.tdiv_eq_ediv_of_nonneg (by omega)];omega
   have q2:(i:Int).tmod 4=((i%4:Nat):Int):=by rw [Int.tmod_eq_emod_of_nonneg (by omega)];omega
   have hv:g7 (((qY (idx g.1 ((i/4:Nat):Int)) (24-8*((i%4:Nat):Int))).toNat:Nat):Int)=vV g.1 i:=by
    rw [xq,iB]
    unfold qY vV
    rw [show min ((24:Int)-8*((i%4:Nat):Int)).toNat 32=24-8*(i%4) by omega]
    rfl
   have hn:(A i).put (i:Int) (vV g.1 i)=A (i+1):=by
    apply Subtype.ext
    show (A i).1.set (i:Int).toNat _=_
    rw [Int.toNat_natCast,hA i (by omega),hA (i+1) (by omega),Rc _ _ _ hi]
   simp only [iy]
   rw [decide_eq_true (by omega),cond_true,q1,q2,ah ⟨by decide,by unfold bf;omega⟩,ah (by omega),ah (by unfold bf;omega),ah (by unfold bf;omega),ah (by omega),ah (by omega),ah (by unfold bf;omega),hv,hn]
   rfl) (by
   refine Comes.stop ?_
   simp only [iy]
   rw [decide_eq_false (by omega)];rfl)
  rw [h0] at this
  exact this
end Go.Proofs.YtlfjfoknbjcncaaGreat.K
namespace Go.Proofs.YtlfjfoknbjcncaaGreat.K
open Go
set_option linter.unusedVariables false
set_option linter.unusedSimpArgs false
def up (x:BitVec 32):BitVec 64:=x.setWidth 64
theorem uO (x:BitVec 32):(up x).toNat=x.toNat:=by
 unfold up
 rw [BitVec.toNat_setWidth]
 have:=x.isLt
 exact Nat.mod_eq_of_lt (by omega)
theorem O4 (x:BitVec 32) (n:Nat) (h:n<31):(up (jS x n))/(2:BitVec 64)+((up (jS x n))%(2:BitVec 64))*(2147483648:BitVec 64)=up (jS x (n+1)):=by
 apply BitVec.eq_of_toNat_eq
 have h1:=TL (jS x n)
 rw [Q2 x n h] at h1
 have:=(jS x n).isLt
 rw [BitVec.toNat_add,BitVec.toNat_mul,BitVec.toNat_udiv,BitVec.toNat_umod,uO,uO, ← h1]
 show ((jS x n).toNat/2+(jS x n).toNat%2*2147483648%2 ^ 64)%2 ^ 64=_
 omega
theorem rF (x:BitVec 32) (n:Nat) (h:n<32):dI (up x) (n:Int)=some (up (jS x n)):=by
 refine bZ (Comes.next (c':= .L1 (up (jS x 0)) 0) ?_ ?_)
 ·rw [OW];rfl
 ·refine Comes.upto (step:=kM (up x) (n:Int)) (fun i=> .L1 (up (jS x i)) (i:Int)) n ?_ ?_
  ·intro i hi
   simp only [kM]
   rw [decide_eq_true (by omega),cond_true,ah (by unfold bf;omega),O4 x i (by omega)]
   rfl
  ·refine Comes.stop ?_
   simp only [kM]
   rw [decide_eq_false (by omega)];rfl
theorem Kx (x:BitVec 32) (n:Nat) (h:n<32):oo (up x) (n:Int)=some (up (x >>> n)):=by
 refine bZ (Comes.next (c':= .L1 (up (x >>> 0)) 0) ?_ ?_)
 ·simp only [jf]
  rw [show x >>> 0=x from BitVec.ushiftRight_zero x]
 ·refine Comes.upto (step:=jf (up x) (n:Int)) (fun i=> .L1 (up (x >>> i)) (i:Int)) n ?_ ?_
  ·intro i hi
   have e:(up (x >>> i))/(2:BitVec 64)=up (x >>> (i+1)):=by
    apply BitVec.eq_of_toNat_eq
    have:=Q3 x i
    rw [BitVec.toNat_udiv,uO,uO]
    show (x >>> i).toNat/2=_
    omega
   simp only [jf]
   rw [decide_eq_true (by omega),cond_true,ah (by unfold bf;omega),e]
   rfl
  ·refine Comes.stop ?_
   simp only [jf]
   rw [decide_eq_false (by omega)];rfl
theorem TZ (s:List UInt8) (hs:s.length≤1000000):yy s=some (tK s):=by
 have ZZ:tJ s.length<64:=by unfold tJ;omega
 refine bZ (Comes.next (c':= .L1 (s++[128])) ?_ ?_)
 ·simp only [fo]
  rw [ah (by simp only [List.length_singleton];omega)]
 ·refine Comes.upto (step:=fo s) (fun j=> .L1 (s++128::List.replicate j 0)) (tJ s.length) ?_ ?_
  ·intro j hj
   have hl:(s++128::List.replicate j (0:UInt8)).length=s.length+1+j:=by simp;omega
   have e:s++128::List.replicate j (0:UInt8)++[0]=s++128::List.replicate (j+1) 0:=by rw [List.append_assoc,List.cons_append,Kv]
   have hne:¬ (((s.length+1+j:Nat):Int).tmod 64=56):=by
    rw [Int.tmod_eq_emod_of_nonneg (by omega)]
    unfold tJ at hj
    omega
   simp only [fo]
   rw [hl,decide_eq_false hne,Bool.not_false,cond_true,ah (by simp only [List.length_singleton];omega),e]
  ·have hl:(s++128::List.replicate (tJ s.length) (0:UInt8)).length=s.length+1+tJ s.length:=by simp;omega
   have he:((s.length+1+tJ s.length:Nat):Int).tmod 64=56:=by
    rw [Int.tmod_eq_emod_of_nonneg (by omega)]
    unfold tJ
    omega
   have hv:BitVec.ofInt 64 ((8:Int)*(s.length:Int))=BitVec.ofNat 64 (s.length*8/256 ^ 0):=by
    apply BitVec.eq_of_toNat_eq
    rw [BitVec.toNat_ofInt,BitVec.toNat_ofNat,Nat.pow_zero,Nat.div_one]
    show (8*(s.length:Int)%(2 ^ 64:Nat)).toNat=_
    omega
   refine Comes.next (c':= .L2 (vD s) (BitVec.ofNat 64 (s.length*8/256 ^ 0)) (Ez (s.length*8) 0).reverse 0) ?_ ?_
   ·simp only [fo]
    rw [hl,decide_eq_true he,Bool.not_true,cond_false,ah (by unfold bf;omega),hv]
    rfl
   ·have hf0:=DF s
    refine Comes.upto (step:=fo s) (fun j=> .L2 (vD s) (BitVec.ofNat 64 (s.length*8/256 ^ j)) (Ez (s.length*8) j).reverse (j:Int)) 8 ?_ ?_
    ·intro j hj
     have hle:s.length*8/256 ^ j≤s.length*8:=Nat.div_le_self _ _
     have hn:(BitVec.ofNat 64 (s.length*8/256 ^ j)).toNat=s.length*8/256 ^ j:=by
      rw [BitVec.toNat_ofNat];exact Nat.mod_eq_of_lt (by omega)
     have e1:(BitVec.ofNat 64 (s.length*8/256 ^ j))/(256:BitVec 64)=BitVec.ofNat 64 (s.length*8/256 ^ (j+1)):=by
      apply BitVec.eq_of_toNat_eq
      rw [BitVec.toNat_udiv,hn,BitVec.toNat_ofNat, ← div_pow]
      show s.length*8/256 ^ j/256=s.length*8/256 ^ j/256%2 ^ 64
      omega
     have e2:g7 ((((BitVec.ofNat 64 (s.length*8/256 ^ j))%(256:BitVec 64)).toNat:Nat):Int)=UInt8.ofNat (s.length*8/256 ^ j):=by
      rw [xq,BitVec.toNat_umod,hn]
      exact uN _
     have hlen:=EA (s.length*8) j
     simp only [fo]
     rw [decide_eq_true (by omega),cond_true,ah (by simp only [List.length_singleton,List.length_reverse];omega),ah (by unfold bf;omega),e1,e2,TP]
     rfl
    ·have hlen:=EA (s.length*8) 8
     refine Comes.stop ?_
     simp only [fo]
     rw [decide_eq_false (by omega),cond_false,ah (by rw [List.length_reverse];omega)]
     rfl
end Go.Proofs.YtlfjfoknbjcncaaGreat.K
namespace Go.Proofs.YtlfjfoknbjcncaaGreat.K
open Go
set_option linter.unusedVariables false
set_option linter.unusedSimpArgs false
theorem GK (x y:BitVec 32):up x^^^up y=up (x^^^y):=by unfold up;exact (BitVec.setWidth_xor).symm
theorem Wv (x y:BitVec 32):up x&&& up y=up (x&&& y):=by unfold up;exact (BitVec.setWidth_and).symm
theorem Yj (x y:BitVec 32):up x||| up y=up (x||| y):=by unfold up;exact (BitVec.setWidth_or).symm
theorem Lr (x:BitVec 32):(up x).setWidth 32=x:=by
 apply BitVec.eq_of_toNat_eq
 rw [BitVec.toNat_setWidth,uO]
 exact Nat.mod_eq_of_lt x.isLt
theorem Ls (x y:BitVec 64):(x+y).setWidth 32=x.setWidth 32+y.setWidth 32:=BitVec.setWidth_add x y (by omega)
theorem Lt (X:BitVec 64):k6 X=some (up (X.setWidth 32)):=by
 unfold k6
 refine congrArg some (BitVec.eq_of_toNat_eq ?_)
 rw [BitVec.toNat_umod,uO,BitVec.toNat_setWidth]
 rfl
theorem Ww (x:BitVec 32):(4294967295:BitVec 64)-up x=up (~~~x):=by
 apply BitVec.eq_of_toNat_eq
 rw [BitVec.toNat_sub,uO,uO,BitVec.toNat_not]
 have:=x.isLt
 show (2 ^ 64-x.toNat+4294967295)%2 ^ 64=_
 omega
theorem qB (l:List Wd) (i:Nat):idx (l.map up) (i:Int)=up (l.getD i 0):=by
 rw [iB,List.getD_eq_getElem?_getD,List.getElem?_map,List.getD_eq_getElem?_getD]
 cases l[i]? <;>rfl
theorem Z0 (l:List (BitVec 64)) (k:List Wd) (i:Nat) (h:i<64) (hl:l.length=64) (e:l=k.map up):gO (0≤(i:Int)∧(i:Int)<(l.length:Int)) (some (idx l (i:Int)))=some (up (k.getD i 0)):=by
 rw [ah (by omega),e,qB]
theorem Yk:([1116352408,1899447441,3049323471,3921009573,961987163,1508970993,2453635748,2870763221,3624381080,310598401,607225278,1426881987,1925078388,2162078206,2614888103,3248222580,3835390401,4022224774,264347078,604807628,770255983,1249150122,1555081692,1996064986,2554220882,2821834349,2952996808,3210313671,3336571891,3584528711,113926993,338241895,666307205,773529912,1294757372,1396182291,1695183700,1986661051,2177026350,2456956037,2730485921,2820302411,3259730800,3345764771,3516065817,3600352804,4094571909,275423344,430227734,506948616,659060556,883997877,958139571,1322822218,1537002063,1747873779,1955562222,2024104815,2227730452,2361852424,2428436474,2756734187,3204031479,3329325298]:List (BitVec 64))=F9.map up:=by
 unfold F9 up
 simp only [List.map_cons,List.map_nil,BitVec.reduceSetWidth,BitVec.ofNat_eq_ofNat]
theorem Z1 (i:Nat) (h:i<64):zZ (i:Int)=some (up (F9.getD i 0)):=Z0 _ F9 i h rfl Yk
theorem Rd (h:List Wd) (s:List UInt8) (hh:h.length=8) (hs:s.length=64):xh (h.map up) s=some ((tI h s).map up):=by
 have t6:∀ x,dI (up x) 6=some (up (jS x 6)):=fun x=>rF x 6 (by omega)
 have t7:∀ x,dI (up x) 7=some (up (jS x 7)):=fun x=>rF x 7 (by omega)
 have t18:∀ x,dI (up x) 18=some (up (jS x 18)):=fun x=>rF x 18 (by omega)
 have t17:∀ x,dI (up x) 17=some (up (jS x 17)):=fun x=>rF x 17 (by omega)
 have t19:∀ x,dI (up x) 19=some (up (jS x 19)):=fun x=>rF x 19 (by omega)
 have t11:∀ x,dI (up x) 11=some (up (jS x 11)):=fun x=>rF x 11 (by omega)
 have t25:∀ x,dI (up x) 25=some (up (jS x 25)):=fun x=>rF x 25 (by omega)
 have t2:∀ x,dI (up x) 2=some (up (jS x 2)):=fun x=>rF x 2 (by omega)
 have t13:∀ x,dI (up x) 13=some (up (jS x 13)):=fun x=>rF x 13 (by omega)
 have t22:∀ x,dI (up x) 22=some (up (jS x 22)):=fun x=>rF x 22 (by omega)
 have s3:∀ x,oo (up x) 3=some (up (x >>> 3)):=fun x=>Kx x 3 (by omega)
 have s10:∀ x,oo (up x) 10=some (up (x >>> 10)):=fun x=>Kx x 10 (by omega)
 have Z2:∀ i,((ku s i).map up).length=i:=fun i=>by rw [List.length_map,xB]
 have hwn:∀ i,(ku s i).map up++[up (qV s i)]=(ku s (i+1)).map up:=fun i=>by rw [F8,List.map_append];rfl
 refine bZ (Comes.next (c':= .L1 ((ku s 0).map up) ((0:Nat):Int)) rfl ?_)
 refine Comes.Ti (step:=bJ (h.map up) s) (fun i=> .L1 ((ku s i).map up) (i:Int)) 64 ?_ ?_
 ·intro i hi hn
  have hJ:Comes (bJ (h.map up) s) (.J2 ((ku s (i+1)).map up) (i:Int)) ((tI h s).map up):=by
   refine Comes.next ?_ hn
   simp only [bJ]
   rw [ah (by unfold bf;omega)]
   rfl
  have hl:=Z2 i
  by_cases vf:i<16
  ·refine Comes.next (c':= .L3 ((ku s i).map up) (i:Int) (BitVec.ofNat 64 (II s (4*i) 0)) ((4*i+0:Nat):Int)) ?_ ?_
   ·simp only [bJ]
    rw [decide_eq_true (by omega),cond_true,decide_eq_true (by omega),cond_true,ah (by unfold bf;omega)]
    rfl
   ·refine Comes.upto (step:=bJ (h.map up) s) (fun j=> .L3 ((ku s i).map up) (i:Int) (BitVec.ofNat 64 (II s (4*i) j)) ((4*i+j:Nat):Int)) 4 ?_ ?_
    ·intro j hj
     have e:(256:BitVec 64)*BitVec.ofNat 64 (II s (4*i) j)+BitVec.ofInt 64 ((idx s ((4*i+j:Nat):Int)).toNat:Int)=BitVec.ofNat 64 (II s (4*i) (j+1)):=by
      apply BitVec.eq_of_toNat_eq
      have h1:=Lq s (4*i) j (by omega)
      have h2:=Lq s (4*i) (j+1) (by omega)
      have h3:II s (4*i) (j+1)=256*II s (4*i) j+(s.getD (4*i+j) 0).toNat:=rfl
      have h4:idx s ((4*i+j:Nat):Int)=s.getD (4*i+j) 0:=iB _ _
      have h5:=n7 (s.getD (4*i+j) 0)
      rw [h4,BitVec.toNat_add,BitVec.toNat_mul,BitVec.toNat_ofNat,BitVec.toNat_ofNat,BitVec.toNat_ofInt,h3]
      show (256*(II s (4*i) j%2 ^ 64)%2 ^ 64+(((s.getD (4*i+j) 0).toNat:Int)%(2 ^ 64:Nat)).toNat)%2 ^ 64=_
      omega
     simp only [bJ]
     rw [ah (by unfold bf;omega),ah (by unfold bf;omega),decide_eq_true (by omega),cond_true,ah (by omega),ah (by unfold bf;omega),e]
     rfl
    ·have e:BitVec.ofNat 64 (II s (4*i) 4)=up (qV s i):=by
      apply BitVec.eq_of_toNat_eq
      have h1:=Q8 (s:=s) vf (rfl:4=4)
      have h2:=Lq s (4*i) 4 (by omega)
      rw [uO,BitVec.toNat_ofNat]
      omega
     refine Comes.next ?_ hJ
     simp only [bJ]
     rw [ah (by unfold bf;omega),ah (by unfold bf;omega),decide_eq_false (by omega),cond_false,ah (by rw [hl];simp only [List.length_singleton];omega),e,hwn]
  ·have d16:(i:Int)-16=((i-16:Nat):Int):=by omega
   have d15:(i:Int)-15=((i-15:Nat):Int):=by omega
   have d7:(i:Int)-7=((i-7:Nat):Int):=by omega
   have d2:(i:Int)-2=((i-2:Nat):Int):=by omega
   refine Comes.next ?_ hJ
   simp only [bJ]
   rw [decide_eq_true (by omega),cond_true,decide_eq_false (by omega),cond_false,d16,d15,d7,d2,ah (by unfold bf;omega),ah (by omega),ah (by unfold bf;omega),ah (by omega)]
   simp only [qB,t7,t18,s3,t17,t19,s10,Option.bind_some]
   rw [ah (by unfold bf;omega),ah (by omega),ah (by unfold bf;omega),ah (by omega)]
   simp only [GK,Lt,Ls,Lr,Option.bind_some]
   rw [Yh (by omega),ah (by rw [hl];simp only [List.length_singleton];omega),hwn]
 ·refine Comes.next (c':= .L4 ((ku s 64).map up) ((vh s h 0).map up) ((0:Nat):Int)) ?_ ?_
  ·simp only [bJ]
   rw [decide_eq_false (by omega),cond_false,ah (by simp only [List.length_nil,List.length_map];omega)]
   rfl
  ·refine Comes.upto (step:=bJ (h.map up) s) (fun i=> .L4 ((ku s 64).map up) ((vh s h i).map up) (i:Int)) 64 ?_ ?_
   ·intro i hi
    have hv:((vh s h i).map up).length=8:=by rw [List.length_map,zh s h i hh]
    have hl:=Z2 64
    have i0:∀ l:List Wd,idx (l.map up) (0:Int)=up (l.getD 0 0):=fun l=>qB l 0
    have i1:∀ l:List Wd,idx (l.map up) (1:Int)=up (l.getD 1 0):=fun l=>qB l 1
    have i2:∀ l:List Wd,idx (l.map up) (2:Int)=up (l.getD 2 0):=fun l=>qB l 2
    have i3:∀ l:List Wd,idx (l.map up) (3:Int)=up (l.getD 3 0):=fun l=>qB l 3
    have i4:∀ l:List Wd,idx (l.map up) (4:Int)=up (l.getD 4 0):=fun l=>qB l 4
    have i5:∀ l:List Wd,idx (l.map up) (5:Int)=up (l.getD 5 0):=fun l=>qB l 5
    have i6:∀ l:List Wd,idx (l.map up) (6:Int)=up (l.getD 6 0):=fun l=>qB l 6
    have i7:∀ l:List Wd,idx (l.map up) (7:Int)=up (l.getD 7 0):=fun l=>qB l 7
    simp only [bJ,hv,hl]
    rw [decide_eq_true (by omega),cond_true]
    iterate 9 rw [ah (by omega)]
    simp only [i0,i1,i2,i3,i4,i5,i6,i7,t6,t11,t25,Z1 i hi,Option.bind_some]
    rw [ah (by omega)]
    simp only [Ww,qB,sn hi,GK,Wv,Yj]
    simp only [Lt]
    simp only [Ls,Lr]
    rw [Option.bind_some,t2,Option.bind_some,t13,Option.bind_some,t22,Option.bind_some,GK,GK,Option.bind_some,Option.bind_some]
    iterate 4 rw [ah (by omega)]
    rw [Option.bind_some]
    simp only [Lr]
    iterate 3 rw [ah (by omega)]
    rw [ah (by unfold bf;omega),TM,TO,OZ]
    rfl
   ·refine Comes.next (c':= .L5 ((vh s h 64).map up) ((EC h (vh s h 64) 0).map up) ((0:Nat):Int)) ?_ ?_
    ·simp only [bJ]
     rw [decide_eq_false (by omega),cond_false]
     rfl
    ·refine Comes.upto (step:=bJ (h.map up) s) (fun i=> .L5 ((vh s h 64).map up) ((EC h (vh s h 64) i).map up) (i:Int)) 8 ?_ ?_
     ·intro i hi
      have hv:((vh s h 64).map up).length=8:=by rw [List.length_map,zh s h 64 hh]
      have ho:((EC h (vh s h 64) i).map up).length=i:=by rw [List.length_map,Q9]
      simp only [bJ,hv,ho,List.length_map,hh,qB,Lt,Ls,Lr]
      rw [decide_eq_true (by omega),cond_true,ah (by omega),ah (by omega),Option.bind_some,ah (by simp only [List.length_singleton];omega),ah (by unfold bf;omega),O1,List.map_append]
      rfl
     ·refine Comes.stop ?_
      simp only [bJ]
      rw [decide_eq_false (by omega),cond_false,O2 h s hh]
end Go.Proofs.YtlfjfoknbjcncaaGreat.K
namespace Go.Proofs.YtlfjfoknbjcncaaGreat.K
open Go
set_option linter.unusedVariables false
set_option linter.unusedSimpArgs false
theorem PO (s t:List UInt8) (ht:t.length≤2000000) (r:List UInt8):∀ (k j:Nat) (h:List Wd),h.length=8→t.length=64*(j+k)→(∀ g:List Wd,g.length=8→tL h (t.drop (64*j))=g→Comes (dN s) (.L2 (g.map up) [] 0) r)→Comes (dN s) (.L1 (h.map up) t ((64*j:Nat):Int)) r
 | 0,j,h,hh,hl,hr=>by
  have e:t.drop (64*j)=[]:=List.drop_of_length_le (by omega)
  refine Comes.next ?_ (hr h hh (EB rfl e).symm)
  simp only [dN]
  rw [decide_eq_false (by omega),cond_false]
 | k+1,j,h,hh,hl,hr=>by
  have hB:=Rd h ((t.drop (64*j)).take 64) hh (by rw [List.length_take,List.length_drop];omega)
  have hs:sub t ((64*j:Nat):Int) (((64*j:Nat):Int)+64)=(t.drop (64*j)).take 64:=by
   rw [show ((64*j:Nat):Int)+64=((64*j+64:Nat):Int) by omega,Tj,show 64*j+64-64*j=64 by omega]
  have e:(t.drop (64*j)).drop 64=t.drop (64*(j+1)):=by rw [List.drop_drop];congr 1
  refine Comes.next (c':= .L1 ((tI h ((t.drop (64*j)).take 64)).map up) t ((64*(j+1):Nat):Int)) ?_ (PO s t ht r k (j+1) _ (Lp hh) (by omega) (fun g hg hgf=>hr g hg ?_))
  ·simp only [dN]
   rw [decide_eq_true (by omega),cond_true,ah (by unfold bf;omega),ah (by omega),hs,hB,Option.bind_some,ah (by unfold bf;omega),show ((64*j:Nat):Int)+64=((64*(j+1):Nat):Int) by omega]
  ·rw [CV h (by rw [List.length_drop];omega),e];exact hgf
theorem Wx (s:List UInt8) (g:List Wd) (hg:g.length=8):Comes (dN s) (.L2 (g.map up) ((List.range 0).map (vV g)) ((0:Nat):Int)) ((List.range 32).map (vV g)):=by
 refine Comes.Ti (step:=dN s) (fun i=> .L2 (g.map up) ((List.range i).map (vV g)) (i:Int)) 32 ?_ ?_
 ·intro i hi hn
  have q1:(i:Int).tdiv 4=((i/4:Nat):Int):=by rw [Int.tdiv_eq_ediv_of_nonneg (by omega)];omega
  have q2:(i:Int).tmod 4=((i%4+0:Nat):Int):=by rw [Int.tmod_eq_emod_of_nonneg (by omega)];omega
  have hx:=(g.getD (i/4) 0).isLt
  have hm:(g.map up).length=8:=by rw [List.length_map,hg]
  refine Comes.next (c':= .L3 (g.map up) ((List.range i).map (vV g)) (i:Int) (BitVec.ofNat 64 ((g.getD (i/4) 0).toNat/256 ^ 0)) ((i%4+0:Nat):Int)) ?_ ?_
  ·have e:up (g.getD (i/4) 0)=BitVec.ofNat 64 ((g.getD (i/4) 0).toNat/256 ^ 0):=by
    apply BitVec.eq_of_toNat_eq
    rw [uO,BitVec.toNat_ofNat,Nat.pow_zero,Nat.div_one]
    exact (Nat.mod_eq_of_lt (by omega)).symm
   simp only [dN,hm,q1,q2,qB,e]
   rw [decide_eq_true (by omega),cond_true,ah ⟨by decide,by unfold bf;omega⟩,ah (by omega)]
  ·refine Comes.upto (step:=dN s) (fun m=> .L3 (g.map up) ((List.range i).map (vV g)) (i:Int) (BitVec.ofNat 64 ((g.getD (i/4) 0).toNat/256 ^ m)) ((i%4+m:Nat):Int)) (3-i%4) ?_ ?_
   ·intro m hm
    have hle:(g.getD (i/4) 0).toNat/256 ^ m≤(g.getD (i/4) 0).toNat:=Nat.div_le_self _ _
    have e:(BitVec.ofNat 64 ((g.getD (i/4) 0).toNat/256 ^ m))/(256:BitVec 64)=BitVec.ofNat 64 ((g.getD (i/4) 0).toNat/256 ^ (m+1)):=by
     apply BitVec.eq_of_toNat_eq
     rw [BitVec.toNat_udiv,BitVec.toNat_ofNat,BitVec.toNat_ofNat, ← div_pow]
     generalize (g.getD (i/4) 0).toNat/256 ^ m=q at hle
     show q%2 ^ 64/256=q/256%2 ^ 64
     omega
    simp only [dN]
    rw [decide_eq_true (by omega),cond_true,ah (by unfold bf;omega),e]
    rfl
   ·have hle:(g.getD (i/4) 0).toNat/256 ^ (3-i%4)≤(g.getD (i/4) 0).toNat:=Nat.div_le_self _ _
    have e:g7 (((BitVec.ofNat 64 ((g.getD (i/4) 0).toNat/256 ^ (3-i%4))%(256:BitVec 64)).toNat:Nat):Int)=vV g i:=by
     rw [xq,BitVec.toNat_umod,BitVec.toNat_ofNat, ← TQ]
     generalize (g.getD (i/4) 0).toNat/256 ^ (3-i%4)=q at hle
     rw [Nat.mod_eq_of_lt (show q<2 ^ 64 by omega)]
     exact uN q
    have hl:((List.range i).map (vV g)).length=i:=by simp
    refine Comes.next ?_ hn
    simp only [dN,e,hl]
    rw [decide_eq_false (by omega),cond_false,ah (by simp only [List.length_singleton];omega),ah (by unfold bf;omega),List.range_succ,List.map_append]
    rfl
 ·refine Comes.stop ?_
  simp only [dN]
  rw [decide_eq_false (by omega),cond_false]
theorem Wy (s:List UInt8) (hs:s.length≤1000000):Bq s=some (Ga s):=by
 have hF:=IG s
 refine bZ (Comes.next (c':= .L1 (M7.map up) (tK s) ((64*0:Nat):Int)) ?_ ?_)
 ·simp only [dN]
  rw [TZ s hs,Option.bind_some]
  rfl
 ·refine PO s (tK s) (by omega) _ ((tK s).length/64) 0 M7 rfl (by omega) fun g hg e=>?_
  have:W0 s=g:=by rw [← e];rfl
  rw [Ga,this]
  exact Wx s g hg
def cl (l:List (List UInt8)) (j k:Nat):Prop:=Ga (idx l (j:Int))=Ga (idx l (k:Int))∧idx l (j:Int)≠idx l (k:Int)
end Go.Proofs.YtlfjfoknbjcncaaGreat.K
namespace Go.Proofs.YtlfjfoknbjcncaaGreat.K
open Go
set_option linter.unusedVariables false
set_option linter.unusedSimpArgs false
theorem ED {s:List UInt8} (h:s.length<56):(bI (fV s)).length≤s.length+1:=by
 rw [BG]
 split
 ·omega
 ·rw [List.length_append,Cc,if_pos h];omega
theorem Wz (l:Bool) {k:Nat} (h:k<256):(hd l k).length≤2:=by
 have:=uC 1 k (by omega)
 rw [Cc];split<;>omega
theorem PR (l:Bool) {k:Nat} (h:k<65536):(hd l k).length≤3:=by
 have:=uC 2 k (by omega)
 rw [Cc];split<;>omega
theorem M9 {s:List UInt8} (h:s.length<256):(bI (fV s)).length≤s.length+2:=by
 have:=Wz false h
 rw [BG]
 split
 ·omega
 ·rw [List.length_append];omega
def kQ (s:List UInt8):List UInt8:=if 32≤s.length then Ga s else s
theorem Na (s:List UInt8):(kQ s).length≤32:=by
 unfold kQ;split
 ·rw [zi];omega
 ·omega
theorem Lu {s:List UInt8} (h:s.length≤1000000):qj s=some (kQ s):=by
 unfold qj kQ
 by_cases h1:32≤s.length
 ·rw [decide_eq_true (by omega),cond_true,Wy s h,if_pos h1];rfl
 ·rw [decide_eq_false (by omega),cond_false,if_neg h1]
def IK (k:List UInt8):List UInt8:=if k=[]∨k.length=32 then bI (fV k) else k
theorem Ck {k:List UInt8} (h:k.length≤32):(IK k).length≤33:=by
 unfold IK;split
 ·have:=ED (s:=k) (by omega);omega
 ·omega
theorem Ky {k:List UInt8} (h:k.length≤32):k7 k=some (IK k):=by
 unfold k7 IK
 by_cases h1:k=[]
 ·subst h1;rw [if_pos (.inl rfl),tH (by simp)];rfl
 ·by_cases h2:k.length=32
  ·rw [if_pos (.inr h2),decide_eq_true (by omega),Bool.or_true,cond_true,tH (by omega)];rfl
  ·rw [if_neg (by simp [h1,h2]),decide_eq_false (by omega),Bool.or_false,show (k==[])=false by simpa using h1,cond_false]
theorem EE {α β:Type} (f:α→List β) (b:Nat):∀ l:List α,(∀ x∈l,(f x).length≤b)→(l.flatMap f).length≤l.length*b
 | [],_=>by simp
 | x::r,h=>by
  have h1:=EE f b r fun y hy=>h y (List.mem_cons_of_mem _ hy)
  have h2:=h x (List.mem_cons_self ..)
  rw [List.flatMap_cons,List.length_append,List.length_cons,Nat.succ_mul];omega
def uD (n:Node):List UInt8:=
 if n.aG=1 then bI (fV (cJ n.av true))++bI (fV n.aq)
 else if n.aG=2 then bI (fV (cJ n.av false))++IK (idx n.aC.1 0)
 else n.aC.1.flatMap IK++[128]
def vW (n:Node):List UInt8:=hd true (uD n).length++uD n
theorem zj {p:List UInt8} (h:AH p=true) (b:Bool):(cJ p b).length≤33:=by
 have:=z6 p b;have:=(rN h).2;omega
theorem Kz (n:Node):n.aC.1.length=16:=n.aC.2
theorem KA {n:Node} (hp:AH n.av=true) (hv:n.aq.length≤200) (hk:∀ k∈n.aC.1,k.length≤32):
  (n.aG=1→(uD n).length≤36+n.aq.length)∧(n.aG=2→(uD n).length≤67)∧(uD n).length≤529:=by
 have vf:=Kz n
 unfold uD
 by_cases h1:n.aG=1
 ·rw [if_pos h1,List.length_append]
  have:=zj hp true
  have:=ED (s:=cJ n.av true) (by omega)
  have:=M9 (s:=n.aq) (by omega)
  omega
 ·by_cases h2:n.aG=2
  ·rw [if_neg h1,if_pos h2,List.length_append]
   have:=zj hp false
   have:=ED (s:=cJ n.av false) (by omega)
   have:=Ck (hk _ (eg n.aC.1 (i:=0) (by omega)))
   rw [show ((0:Nat):Int)=0 from rfl] at this
   omega
  ·rw [if_neg h1,if_neg h2,List.length_append]
   have:=EE IK 33 n.aC.1 fun k hk'=>Ck (hk k hk')
   rw [vf] at this
   simp only [List.length_singleton]
   omega
theorem T0 {n:Node} (hp:AH n.av=true) (hv:n.aq.length≤200) (hk:∀ k∈n.aC.1,k.length≤32):
  (n.aG=1→(vW n).length≤39+n.aq.length)∧(n.aG=2→(vW n).length≤70)∧(vW n).length≤532∧1≤(vW n).length:=by
 obtain ⟨h1,h2,h3⟩:=KA hp hv hk
 have h4:=PR true (k:=(uD n).length) (by omega)
 have h5:1≤(hd true (uD n).length).length:=List.length_pos_iff.2 (Ip _ _)
 unfold vW
 rw [List.length_append]
 exact ⟨fun h=>by have:=h1 h;omega,fun h=>by have:=h2 h;omega,by omega,by omega⟩
theorem Re (n:Node) (hkd:n.aG=1∨n.aG=2∨n.aG=3) (hp:AH n.av=true) (hv:n.aq.length≤200) (hk:∀ k∈n.aC.1,k.length≤32):
  mc n=some (vW n):=by
 have vf:=Kz n
 obtain ⟨_,_,hb⟩:=KA hp hv hk
 have hJ:Comes (cR n) (.J3 (uD n)) (vW n):=by
  refine Comes.stop ?_
  have:=PR true (k:=(uD n).length) (by omega)
  simp only [cR]
  rw [Ca _ true (by omega),Option.bind_some,ah (by omega)]
  rfl
 refine bZ ?_
 rcases hkd with h | h | h
 ·refine Comes.next ?_ hJ
  have e1:=zj hp true
  have e2:=ED (s:=cJ n.av true) (by omega)
  have e3:=M9 (s:=n.aq) (by omega)
  simp only [cR]
  rw [decide_eq_true h,cond_true,zc hp,Option.bind_some,tH (by omega),Option.bind_some,tH (by omega),Option.bind_some,ah (by omega),Option.bind_some,decide_eq_false (by omega),cond_false,Option.bind_some,decide_eq_false (by omega),cond_false]
  unfold uD
  rw [if_pos h]
 ·refine Comes.next ?_ hJ
  have e1:=zj hp false
  have e2:=ED (s:=cJ n.av false) (by omega)
  have e3:=hk _ (eg n.aC.1 (i:=0) (by omega))
  rw [show ((0:Nat):Int)=0 from rfl] at e3
  have e4:=Ck e3
  simp only [cR]
  rw [decide_eq_false (by omega),cond_false,Option.bind_some,decide_eq_true h,cond_true,zc hp,Option.bind_some,tH (by omega),Option.bind_some,Ky e3,Option.bind_some,ah (by omega),Option.bind_some,decide_eq_false (by omega),cond_false]
  unfold uD
  rw [if_neg (by omega),if_pos h]
 ·have hL:Comes (cR n) (.L4 ((n.aC.1.take 0).flatMap IK) ((0:Nat):Int)) (vW n):=by
   refine Comes.upto (fun i=>z2.L4 ((n.aC.1.take i).flatMap IK) (i:Int)) 16 (fun i hi=>?_) (Comes.next ?_ hJ)
   ·have e3:=hk _ (eg n.aC.1 (i:=i) (by omega))
    have e4:=Ck e3
    have e5:=EE IK 33 (n.aC.1.take i) fun k hk'=>Ck (hk k (List.mem_of_mem_take hk'))
    rw [List.length_take] at e5
    have e6:min i n.aC.1.length*33≤16*33:=Nat.mul_le_mul_right _ (by omega)
    simp only [cR]
    rw [decide_eq_true (by omega),cond_true,ah (by omega),Ky e3,Option.bind_some,ah (by omega),ah (by unfold bf;omega),ng _ (by omega),List.flatMap_append,List.flatMap_singleton]
    rfl
   ·have e5:=EE IK 33 (n.aC.1.take 16) fun k hk'=>Ck (hk k (List.mem_of_mem_take hk'))
    rw [List.length_take] at e5
    simp only [cR]
    rw [decide_eq_false (by omega),cond_false,ah (by simp only [List.length_singleton];omega),List.take_of_length_le (by omega)]
    unfold uD
    rw [if_neg (by omega),if_neg (by omega)]
  refine Comes.next ?_ hL
  simp only [cR]
  rw [decide_eq_false (by omega),cond_false,Option.bind_some,decide_eq_false (by omega),cond_false,Option.bind_some,decide_eq_true h,cond_true]
  rfl
theorem Lv (a b:List UInt8) (ha:a.length≤1000000):Au a b=some ((common a b:Nat):Int):=by
 have:∀ k i:Nat,k+i=a.length→Comes (jE a b) (.L1 (i:Int)) ((i+common (a.drop i) (b.drop i):Nat):Int):=by
  intro k
  induction k with
  | zero=>
   intro i hi
   refine Comes.stop ?_
   simp only [jE]
   rw [decide_eq_false (by omega),cond_false,ya (by omega)]
   rw [show i+0=a.length by omega]
  | succ k ih=>
   intro i hi
   by_cases hb:i<b.length
   ·by_cases he:(a.getD i 0).toNat=(b.getD i 0).toNat
    ·have:=ih (i+1) (by omega)
     refine Comes.next (c':= .L1 ((i+1:Nat):Int)) ?_ (by rw [z5 (by omega) hb,if_pos he,show i+(common (a.drop (i+1)) (b.drop (i+1))+1)=i+1+common (a.drop (i+1)) (b.drop (i+1)) by omega];exact this)
     simp only [jE]
     rw [decide_eq_true (by omega),cond_true,ah (by omega),ah (by omega),decide_eq_false (by omega),Bool.false_or]
     rw [show idx a (i:Int)=a.getD i 0 from iB a i,show idx b (i:Int)=b.getD i 0 from iB b i,he,decide_eq_true rfl,Bool.not_true,cond_false,ah (by unfold bf;omega)]
     rfl
    ·refine Comes.stop ?_
     rw [z5 (by omega) hb,if_neg he]
     simp only [jE]
     rw [decide_eq_true (by omega),cond_true,ah (by omega),ah (by omega)]
     rw [show idx a (i:Int)=a.getD i 0 from iB a i,show idx b (i:Int)=b.getD i 0 from iB b i,show decide (((a.getD i 0).toNat:Int)=((b.getD i 0).toNat:Int))=false from decide_eq_false (by omega),Bool.not_false,Bool.or_true,cond_true]
     rfl
   ·refine Comes.stop ?_
    rw [ya (by omega)]
    simp only [jE]
    rw [decide_eq_true (by omega),cond_true,decide_eq_true (p:=(b.length:Int)≤(i:Int)) (by omega),ah (by intro h;cases h),ah (by intro h;cases h),Bool.true_or,cond_true]
    rfl
 have:=this a.length 0 rfl
 rw [Nat.zero_add,List.drop_zero,List.drop_zero] at this
 exact bZ (Comes.next (by simp only [jE];rfl) this)
theorem BI:∀ (m:Nat) (a b:List UInt8),m≤common a b↔m≤a.length∧m≤b.length∧a.take m=b.take m
 | 0,a,b=>by simp
 | m+1,[],b=>by simp [common]
 | m+1,x::a,[]=>by simp [common]
 | m+1,x::a,y::b=>by
  have ih:=BI m a b
  rw [common]
  by_cases h:x=y
  ·rw [if_pos h]
   simp only [List.length_cons,List.take_succ_cons,h,List.cons.injEq,true_and,Nat.add_le_add_iff_right]
   exact ih
  ·rw [if_neg h]
   simp [h]
theorem WA (a b:Nat):zX (a:Int) (b:Int)=some ((min a b:Nat):Int):=by
 unfold zX
 by_cases h:a<b
 ·rw [decide_eq_true (by omega),cond_true,Nat.min_eq_left (by omega)]
 ·rw [decide_eq_false (by omega),cond_false,Nat.min_eq_right (by omega)]
noncomputable def p0 (l:List In):List UInt8:=(idx l (0:Int)).av
noncomputable def CW (l:List In):Nat→Nat
 | 0=>(p0 l).length
 | i+1=>min (CW l i) (common (p0 l) (idx l ((i+1:Nat):Int)).av)
noncomputable def mE (l:List In):Nat:=CW l (l.length-1)
theorem Nb (l:List In):∀ i:Nat,CW l i≤(p0 l).length∧∀ j:Nat,1≤j→j≤i→CW l i≤common (p0 l) (idx l (j:Int)).av
 | 0=>⟨Nat.le_refl _,fun j h1 h2=>by omega⟩
 | i+1=>by
  obtain ⟨h1,h2⟩:=Nb l i
  refine ⟨by rw [CW];omega,fun j YO hj2=>?_⟩
  rw [CW]
  by_cases h:j=i+1
  ·subst h;omega
  ·have:=h2 j YO (by omega);omega
theorem KB (l:List In) (m:Nat) (h0:m≤(p0 l).length):∀ i:Nat,(∀ j:Nat,1≤j→j≤i→m≤common (p0 l) (idx l (j:Int)).av)→m≤CW l i
 | 0,_=>h0
 | i+1,h=>by
  have:=KB l m h0 i fun j h1 h2=>h j h1 (by omega)
  have:=h (i+1) (by omega) (by omega)
  rw [CW];omega
theorem Nc {α:Type} [Inhabited α] {l:List α} {x:α} (h:x∈l):∃ i:Nat,i<l.length∧idx l (i:Int)=x:=by
 obtain ⟨i,hi,rfl⟩:=List.mem_iff_getElem.1 h
 exact ⟨i,hi,iU l hi⟩
theorem sq {l:List In} {x:In} (hx:x∈l):mE l≤x.av.length∧x.av.take (mE l)=(p0 l).take (mE l):=by
 obtain ⟨i,hi,rfl⟩:=Nc hx
 obtain ⟨h1,h2⟩:=Nb l (l.length-1)
 cases i with
 | zero=>exact ⟨h1,rfl⟩
 | succ i=>
  have:=(BI _ _ _).1 (h2 (i+1) (by omega) (by omega))
  exact ⟨this.2.1,this.2.2.symm⟩
theorem KC {l:List In} {m:Nat} (hl:l≠[]) (h:∀ x∈l,m≤x.av.length∧x.av.take m=(p0 l).take m):m≤mE l:=by
 have hp:0<l.length:=List.length_pos_iff.2 hl
 have h0:idx l (0:Int)∈l:=eg l (i:=0) hp
 refine KB l m (h _ h0).1 _ fun j h1 h2=>(BI _ _ _).2 ?_
 have hj:idx l (j:Int)∈l:=eg l (by omega)
 exact ⟨(h _ h0).1,(h _ hj).1,(h _ hj).2.symm⟩
theorem T1 (l:List In) (hl:l≠[]) (hp:∀ x∈l,x.av.length≤1000) (hn:l.length≤1000):Az l=some ((mE l:Nat):Int):=by
 have hpos:0<l.length:=List.length_pos_iff.2 hl
 refine bZ (Comes.next (c':= .L1 ((CW l 0:Nat):Int) (((0:Nat)+1:Int))) ?_ ?_)
 ·simp only [oS]
  rw [ah (by omega)]
  rfl
 ·refine Comes.upto (fun i=>vB.L1 ((CW l i:Nat):Int) ((i:Int)+1)) (l.length-1) (fun i hi=>?_) (Comes.stop ?_)
  ·have:=hp _ (eg l (i:=0) hpos)
   simp only [oS]
   rw [decide_eq_true (by omega),cond_true,ah (by omega),ah (by omega),show ((i:Int)+1)=((i+1:Nat):Int) by omega,Lv _ _ (by exact Nat.le_trans this (by omega)),Option.bind_some,WA,Option.bind_some,ah (by unfold bf;omega)]
   rfl
  ·simp only [oS]
   rw [decide_eq_false (by omega),cond_false]
   rfl
def rest (l:List In) (n:Nat):List In:=l.map fun x=>⟨x.av.drop n,x.aq⟩
def rH (l:List In) (c:Nat):List In:=l.filter fun x=>decide ((x.av.getD 0 0).toNat=c)
theorem KD (l:List In) (n:Nat):(rest l n).length=l.length:=by simp [rest]
theorem IL (l:List In) (c:Nat):(rH l c).length≤l.length:=List.length_filter_le _ _
theorem Nd (l:List In) (n:Nat) (h:∀ x∈l,n≤x.av.length) (hn:l.length≤1000):yB l (n:Int)=some (rest l n):=by
 refine bZ (Comes.next (c':= .L1 (rest (l.take 0) n) ((0:Nat):Int)) (by simp only [qy];rfl) ?_)
 refine Comes.upto (fun i=>yA.L1 (rest (l.take i) n) (i:Int)) l.length (fun i hi=>?_) (Comes.stop ?_)
 ·have e:=KD (l.take i) n
  rw [List.length_take] at e
  have h1:=h _ (eg l hi)
  simp only [qy]
  rw [decide_eq_true (by omega),cond_true,ah (by omega),ah (by omega),ah (by omega),ah (by rw [e];simp only [List.length_singleton];omega),ah (by unfold bf;omega),ng l hi,nD]
  unfold rest
  rw [List.map_append]
  rfl
 ·simp only [qy]
  rw [decide_eq_false (by omega),cond_false,List.take_length]
theorem DG {α:Type} [Inhabited α] (p:α→Bool) (l:List α) {i:Nat} (hi:i<l.length):(l.take (i+1)).filter p=(l.take i).filter p++(if p (idx l (i:Int))=true then [idx l (i:Int)] else []):=by
 rw [ng l hi,List.filter_append]
 congr 1
 cases h:p (idx l (i:Int))<;>simp [h]
theorem Rf (l:List In) (c:Nat) (h:∀ x∈l,0<x.av.length) (hn:l.length≤1000):Bw l (c:Int)=some (rH l c):=by
 refine bZ (Comes.next (c':= .L1 (rH (l.take 0) c) ((0:Nat):Int)) (by simp only [pQ];rfl) ?_)
 refine Comes.upto (fun i=>tE.L1 (rH (l.take i) c) (i:Int)) l.length (fun i hi=>?_) (Comes.stop ?_)
 ·have e:=IL (l.take i) c
  rw [List.length_take] at e
  have h1:=h _ (eg l hi)
  have e2:=DG (fun x:In=>decide ((x.av.getD 0 0).toNat=c)) l hi
  have e3:(idx ((idx l (i:Int)).av) (0:Int)).toNat=((idx l (i:Int)).av.getD 0 0).toNat:=rfl
  simp only [pQ]
  rw [decide_eq_true (by omega),cond_true,ah (by omega),ah (by omega),e3]
  show _=some (Sum.inl (tE.L1 ((l.take (i+1)).filter _) _))
  rw [e2]
  by_cases hc:((idx l (i:Int)).av.getD 0 0).toNat=c
  ·rw [decide_eq_true (by omega),cond_true,ah (by omega),ah (by simp only [List.length_singleton];omega),Option.bind_some,ah (by unfold bf;omega),if_pos (by simpa using hc)]
   rfl
  ·rw [decide_eq_false (by omega),cond_false,Option.bind_some,ah (by unfold bf;omega),if_neg (by simpa using hc),List.append_nil]
   rfl
 ·simp only [pQ]
  rw [decide_eq_false (by omega),cond_false,List.take_length]
end Go.Proofs.YtlfjfoknbjcncaaGreat.K
namespace Go.Proofs.YtlfjfoknbjcncaaGreat.K
open Go
set_option linter.unusedVariables false
set_option linter.unusedSimpArgs false
structure WF (v d:Nat) (l:List In):Prop where
 len:∀ x∈l,x.av.length=d
 Lw:∀ x∈l,right x.av=true
 val:∀ x∈l,x.aq.length≤v
 nd:l.Pairwise fun x y=>x.av≠y.av
 cnt:l.length≤64
 dep:d≤64
 top:v≤200
theorem ql {p:List UInt8}:right p=true↔∀ b∈p,b.toNat<16:=by
 simp only [right,Bool.not_eq_true',List.any_eq_false,decide_eq_true_eq]
 constructor
 ·intro h b hb;have:=h b hb;omega
 ·intro h b hb;have:=h b hb;omega
theorem Nf {p:List UInt8} (h:right p=true) (n:Nat):right (p.take n)=true:=ql.2 fun b hb=>ql.1 h b (List.mem_of_mem_take hb)
theorem WF.rest {v d:Nat} {l:List In} (h:WF v d l) (n:Nat) (hc:∀ x∈l,∀ y∈l,x.av.take n=y.av.take n):WF v (d-n) (rest l n) where
 len x hx:=by
  obtain ⟨y,hy,rfl⟩:=List.mem_map.1 hx
  have:=h.len y hy
  simp only [List.length_drop];omega
 Lw x hx:=by
  obtain ⟨y,hy,rfl⟩:=List.mem_map.1 hx
  exact F7 (h.Lw y hy) n
 val x hx:=by
  obtain ⟨y,hy,rfl⟩:=List.mem_map.1 hx
  exact h.val y hy
 nd:=by
  unfold K.rest
  rw [List.pairwise_map]
  refine List.Pairwise.imp_of_mem ?_ h.nd
  intro x y hx hy hne he
  refine hne ?_
  rw [← List.take_append_drop n x.av,hc x hx y hy]
  rw [show x.av.drop n=y.av.drop n from he,List.take_append_drop]
 cnt:=by rw [KD];exact h.cnt
 dep:=by have:=h.dep;omega
 top:=h.top
theorem WF.rH {v d:Nat} {l:List In} (h:WF v d l) (c:Nat):WF v d (rH l c) where
 len x hx:=h.len x ((List.mem_filter.1 hx).1)
 Lw x hx:=h.Lw x ((List.mem_filter.1 hx).1)
 val x hx:=h.val x ((List.mem_filter.1 hx).1)
 nd:=h.nd.sublist List.filter_sublist
 cnt:=by have:=IL l c;have:=h.cnt;omega
 dep:=h.dep
 top:=h.top
theorem T2 {p q:List UInt8} (hp:0<p.length) (hq:0<q.length) (h:(p.getD 0 0).toNat=(q.getD 0 0).toNat):p.take 1=q.take 1:=by
 cases p with
 | nil=>simp at hp
 | cons a p=>cases q with
  | nil=>simp at hq
  | cons b q=>
   have:a=b:=UInt8.toNat_inj.1 h
   simp [this]
theorem WF.BJ {v d:Nat} {l:List In} (h:WF v d l) (hd:0<d) (c:Nat):WF v (d-1) (K.rest (K.rH l c) 1):=by
 refine (h.rH c).rest 1 fun x hx y hy=>T2 (by rw [(h.rH c).len x hx];exact hd) (by rw [(h.rH c).len y hy];exact hd) ?_
 have h1:=(List.mem_filter.1 hx).2
 have h2:=(List.mem_filter.1 hy).2
 simp only [decide_eq_true_eq] at h1 h2
 rw [h1,h2]
theorem WF.ext {v d:Nat} {l:List In} (h:WF v d l):WF v (d-mE l) (K.rest l (mE l)):=
 h.rest _ fun x hx y hy=>by rw [(sq hx).2,(sq hy).2]
theorem WF.GL {v d:Nat} {l:List In} (h:WF v d l) (h2:2≤l.length):mE l<d:=by
 cases hl:l with
 | nil=>rw [hl] at h2;simp at h2
 | cons x r=>cases hr:r with
  | nil=>rw [hl,hr] at h2;simp at h2
  | cons y q=>
   have hx:x∈l:=by rw [hl];exact List.mem_cons_self ..
   have hy:y∈l:=by rw [hl,hr];simp
   have e1:=sq hx
   have e2:=sq hy
   have n1:=h.len x hx
   have n2:=h.len y hy
   rw [← hr, ← hl]
   refine Nat.lt_of_not_le fun hd=>?_
   have hne:x.av≠y.av:=by
    have:=h.nd
    rw [hl,hr] at this
    exact (List.pairwise_cons.1 this).1 y (List.mem_cons_self ..)
   refine hne ?_
   have:=e1.2.trans e2.2.symm
   rwa [List.take_of_length_le (by omega),List.take_of_length_le (by omega)] at this
noncomputable def gD (l:List In):List UInt8:=(wu l).getD []
noncomputable def sr (l:List In):aD 16 (List UInt8):=⟨(List.range 16).map fun c=>kQ (gD (rest (rH l c) 1)),by simp⟩
noncomputable def cC (l:List In):Node:=
 if l.length=1 then ⟨1,p0 l,(idx l (0:Int)).aq,aD.rep 16 []⟩
 else if 0<mE l then ⟨2,(p0 l).take (mE l),[],(aD.rep 16 []).put 0 (kQ (gD (rest l (mE l))))⟩
 else ⟨3,[],[],sr l⟩
noncomputable def qC (l:List In):List UInt8:=if l=[] then [] else vW (cC l)
theorem PS (k:List UInt8) (h:k∈(aD.rep 16 ([]:List UInt8)).1):k.length≤32:=by
 rw [(List.mem_replicate.1 h).2];simp
theorem qD {v d:Nat} {l:List In} (h:WF v d l) (hl:l≠[]):((cC l).aG=1∨(cC l).aG=2∨(cC l).aG=3)∧AH (cC l).av=true∧(cC l).aq.length≤v∧∀ k∈(cC l).aC.1,k.length≤32:=by
 have h0:idx l (0:Int)∈l:=eg l (i:=0) (List.length_pos_iff.2 hl)
 have hr:=h.Lw _ h0
 have hd:=h.len _ h0
 have:=h.dep
 unfold cC
 split
 ·exact ⟨.inl rfl,It hr (by show (p0 l).length≤64;unfold p0;omega),h.val _ h0,PS⟩
 ·split
  ·refine ⟨.inr (.inl rfl),It (Nf hr _) ?_,Nat.zero_le _,fun k hk=>?_⟩
   ·show ((p0 l).take (mE l)).length≤64
    rw [List.length_take];unfold p0;omega
   ·rcases List.mem_or_eq_of_mem_set hk with h1 | h1
    ·exact PS k h1
    ·rw [h1];exact Na _
  ·refine ⟨.inr (.inr rfl),rfl,Nat.zero_le _,fun k hk=>?_⟩
   have hk:k∈(List.range 16).map fun c=>kQ (gD (rest (rH l c) 1)):=hk
   obtain ⟨c,_,rfl⟩:=List.mem_map.1 hk
   exact Na _
theorem W1 {v d:Nat} {l:List In} (h:WF v d l) (hl:l≠[]):mc (cC l)=some (vW (cC l)):=by
 obtain ⟨h1,h2,h3,h4⟩:=qD h hl
 have:=h.top
 exact Re _ h1 h2 (by omega) h4
theorem W2 {v d:Nat} {l:List In} (h:WF v d l) (hl:l≠[]):1≤(vW (cC l)).length∧(vW (cC l)).length≤532+v∧(l.length=1→(vW (cC l)).length≤39+v)∧(l.length≠1→0<mE l→(vW (cC l)).length≤70)∧(l.length≠1→(vW (cC l)).length≤532):=by
 obtain ⟨h1,h2,h3,h4⟩:=qD h hl
 have ht:=h.top
 obtain ⟨e1,e2,e3,e4⟩:=T0 h2 (by omega) h4
 refine ⟨e4,by omega,fun h=>?_,fun h h'=>?_,fun h=>e3⟩
 ·have:(cC l).aG=1:=by unfold cC;rw [if_pos h]
  have:=e1 this;omega
 ·have:(cC l).aG=2:=by unfold cC;rw [if_neg h,if_pos h']
  exact e2 this
noncomputable def tM (f:Nat→List UInt8) (c:Nat):aD 16 (List UInt8):=⟨(List.range 16).map fun i=>if i<c then f i else [],by simp⟩
theorem GM (f:Nat→List UInt8) (c:Nat):(tM f c).1=(List.range 16).map fun i=>if i<c then f i else []:=rfl
theorem Lx (f:Nat→List UInt8):tM f 0=aD.rep 16 []:=by
 apply Subtype.ext
 rw [GM]
 simp [aD.rep,List.map_const']
theorem Fv (f:Nat→List UInt8) {c:Nat} (h:c<16):(tM f c).put (c:Int) (f c)=tM f (c+1):=by
 apply Subtype.ext
 show (tM f c).1.set (c:Int).toNat _=_
 rw [GM,GM]
 apply List.ext_getElem
 ·simp
 ·intro i h1 h2
  rw [List.getElem_set,List.getElem_map,List.getElem_map,List.getElem_range]
  by_cases hc:i=c
  ·subst hc;simp
  ·rw [if_neg (by omega)]
   by_cases h3:i<c
   ·rw [if_pos h3,if_pos (by omega)]
   ·rw [if_neg h3,if_neg (by omega)]
theorem IM (f:Nat→List UInt8):(tM f 16).1=(List.range 16).map f:=by
 rw [GM]
 apply List.map_congr_left
 intro i hi
 rw [if_pos (by simpa using hi)]
def Kn (self:List In→Option (List UInt8)) (v d:Nat):Prop:=∀ d' l',d'<d→WF v d' l'→self l'=some (gD l')∧(gD l').length≤800
theorem O5 (self:List In→Option (List UInt8)) {v d:Nat} {l:List In} (h:WF v d l) (hl:l≠[]) (hs:Kn self v d):xk self l=some (cC l,true):=by
 have hpos:0<l.length:=List.length_pos_iff.2 hl
 have vU:=h.cnt
 have T3:=h.dep
 refine bZ ?_
 by_cases h1:l.length=1
 ·refine Comes.stop ?_
  simp only [jQ]
  rw [decide_eq_false (by omega),cond_false,decide_eq_true (by omega),cond_true,ah (by omega),ah (by omega)]
  unfold cC
  rw [if_pos h1]
  rfl
 ·have hlt:=h.GL (by omega)
  have hC:=T1 l hl (fun x hx=>by rw [h.len x hx];omega) (by omega)
  by_cases h2:0<mE l
  ·refine Comes.stop ?_
   obtain ⟨O6,hk2⟩:=hs _ _ (show d-mE l<d by omega) h.ext
   have hp:=h.len _ (eg l (i:=0) hpos)
   rw [show ((0:Nat):Int)=0 from rfl] at hp
   simp only [jQ]
   rw [decide_eq_false (by omega),cond_false,decide_eq_false (by omega),cond_false,hC,Option.bind_some,decide_eq_true (by omega),cond_true,ah (by omega),ah (by rw [hp];omega)]
   rw [Nd l _ (fun x hx=>(sq hx).1) (by omega),Option.bind_some,O6,Option.bind_some,Lu (by omega),Option.bind_some,Er]
   unfold cC
   rw [if_neg h1,if_pos h2]
   rfl
  ·have hL:Comes (jQ self l) (.L1 ((0:Nat):Int) (tM (fun c=>kQ (gD (rest (rH l c) 1))) 0)) (cC l,true):=by
    refine Comes.upto (fun i=>yC.L1 (i:Int) (tM (fun c=>kQ (gD (rest (rH l c) 1))) i)) 16 (fun i hi=>?_) (Comes.stop ?_)
    ·obtain ⟨O6,hk2⟩:=hs _ _ (show d-1<d by omega) (h.BJ (by omega) i)
     have hb:=IL l i
     simp only [jQ]
     rw [decide_eq_true (by omega),cond_true,Rf l i (fun x hx=>by rw [h.len x hx];omega) (by omega),Option.bind_some]
     rw [show (1:Int)=((1:Nat):Int) from rfl,Nd (rH l i) 1 (fun x hx=>by rw [(h.rH i).len x hx];omega) (by omega),Option.bind_some,O6,Option.bind_some,Lu (by omega),Option.bind_some,ah (by omega),ah (by unfold bf;omega)]
     rw [Fv (fun c=>kQ (gD (rest (rH l c) 1))) hi]
     rfl
    ·simp only [jQ]
     rw [decide_eq_false (by omega),cond_false]
     unfold cC
     rw [if_neg h1,if_neg h2]
     have:tM (fun c=>kQ (gD (rest (rH l c) 1))) 16=sr l:=Subtype.ext (IM _)
     rw [this]
   rw [Lx] at hL
   refine Comes.next ?_ hL
   simp only [jQ]
   rw [decide_eq_false (by omega),cond_false,decide_eq_false (by omega),cond_false,hC,Option.bind_some,decide_eq_false (by omega),cond_false]
   rfl
theorem Rg (self:List In→Option (List UInt8)):∃ x,xk self []=some (x,false):=⟨_,bZ (Comes.stop (by simp only [jQ];rfl))⟩
theorem Ng (v:Nat):∀ n d l,d<n→WF v d l→(∀ m,d<m→ov m l=some (gD l))∧gD l=qC l∧(gD l).length≤800
 | 0,d,l,h,_=>by omega
 | n+1,d,l,hd,h=>by
  have ih:=Ng v n
  have key:∀ m,d<m→ov m l=some (qC l):=by
   intro m hm
   obtain ⟨m,rfl⟩:∃ k,m=k+1:=⟨m-1,by omega⟩
   show yD (ov m) l=_
   unfold yD qC
   by_cases hl:l=[]
   ·subst hl
    obtain ⟨x,hx⟩:=Rg (ov m)
    rw [hx,if_pos rfl];rfl
   ·rw [O5 _ h hl fun d' l' hd' hw=>⟨(ih d' l' (by omega) hw).1 m (by omega),(ih d' l' (by omega) hw).2.2⟩,if_neg hl,Option.bind_some]
    show (mc (cC l)).bind _=_
    rw [W1 h hl];rfl
  have e:gD l=qC l:=by
   unfold gD
   rw [show wu l=some (qC l) from jY (d+1) fun m hm=>key m (by omega)]
   rfl
  refine ⟨fun m hm=>by rw [e];exact key m hm,e,?_⟩
  rw [e]
  unfold qC
  split
  ·simp
  ·rename_i hl
   have:=(W2 h hl).2.1
   have:=h.top
   omega
theorem PT {v d:Nat} {l:List In} (h:WF v d l):wu l=some (qC l):=by
 obtain ⟨h1,h2,_⟩:=Ng v (d+1) d l (by omega) h
 rw [← h2];exact jY (d+1) fun m hm=>h1 m (by omega)
end Go.Proofs.YtlfjfoknbjcncaaGreat.K
namespace Go.Proofs.YtlfjfoknbjcncaaGreat.K
open Go
set_option linter.unusedVariables false
set_option linter.unusedSimpArgs false
theorem Cl (p:List UInt8) (h:p.length≤1000000):cA p=some p:=by
 unfold cA
 rw [ah (by simp only [List.length_nil];omega)];rfl
theorem qm (a b:List UInt8) (ha:a.length≤1000000):uJ a b=some ((common a b:Nat):Int):=by
 have:∀ k i:Nat,k+i=a.length→Comes (ig a b) (.L1 (i:Int)) ((i+common (a.drop i) (b.drop i):Nat):Int):=by
  intro k
  have hm:∀ i:Nat,decide ((i:Int)<gl (a.length:Int) (b.length:Int))=decide (i<a.length∧i<b.length):=by
   intro i
   unfold gl
   rw [decide_eq_decide]
   split<;>omega
  induction k with
  | zero=>
   intro i hi
   refine Comes.stop ?_
   simp only [ig,hm]
   rw [decide_eq_false (p:=i<a.length∧i<b.length) (by omega),ah (by intro h;cases h),ah (by intro h;cases h),Bool.false_and,cond_false,ya (by omega)]
   rfl
  | succ k ih=>
   intro i hi
   by_cases hb:i<b.length
   ·by_cases he:(a.getD i 0).toNat=(b.getD i 0).toNat
    ·have:=ih (i+1) (by omega)
     refine Comes.next (c':= .L1 ((i+1:Nat):Int)) ?_ (by rw [z5 (by omega) hb,if_pos he,show i+(common (a.drop (i+1)) (b.drop (i+1))+1)=i+1+common (a.drop (i+1)) (b.drop (i+1)) by omega];exact this)
     simp only [ig,hm]
     rw [ah (by intro _;omega),ah (by intro _;omega),decide_eq_true (p:=i<a.length∧i<b.length) (by omega),Bool.true_and]
     rw [show idx a (i:Int)=a.getD i 0 from iB a i,show idx b (i:Int)=b.getD i 0 from iB b i,he,decide_eq_true rfl,cond_true,ah (by unfold bf;omega)]
     rfl
    ·refine Comes.stop ?_
     rw [z5 (by omega) hb,if_neg he]
     simp only [ig,hm]
     rw [ah (by intro _;omega),ah (by intro _;omega)]
     rw [show idx a (i:Int)=a.getD i 0 from iB a i,show idx b (i:Int)=b.getD i 0 from iB b i,show decide (((a.getD i 0).toNat:Int)=((b.getD i 0).toNat:Int))=false from decide_eq_false (by omega),Bool.and_false,cond_false]
     rfl
   ·refine Comes.stop ?_
    rw [ya (by omega)]
    simp only [ig,hm]
    rw [decide_eq_false (p:=i<a.length∧i<b.length) (by omega),ah (by intro h;cases h),ah (by intro h;cases h),Bool.false_and,cond_false]
    rfl
 have:=this a.length 0 rfl
 rw [Nat.zero_add,List.drop_zero,List.drop_zero] at this
 exact bZ (Comes.next (by simp only [ig];rfl) this)
theorem Fw (k:aD 32 UInt8):sB k=some (dO k.1):=by
 have hk:k.1.length=32:=k.2
 refine bZ (Comes.next (c':= .L1 (dO (k.1.take 0)) ((0:Nat):Int)) (by simp only [mL];rfl) ?_)
 refine Comes.upto (fun i=>A7.L1 (dO (k.1.take i)) (i:Int)) 32 (fun i hi=>?_) (Comes.stop ?_)
 ·simp only [mL]
  have hl:(dO (k.1.take i)).length≤64:=by rw [mX,List.length_take];omega
  rw [decide_eq_true (by omega),cond_true,ah (by omega),ah (by simp only [List.length_cons,List.length_nil];omega),ah (by unfold bf;omega)]
  rw [BC (by omega),show idx k.1 (i:Int)=k.1.getD i 0 from iB k.1 i,Tx,PI]
  rfl
 ·simp only [mL]
  rw [decide_eq_false (by omega),cond_false,List.take_of_length_le (by omega)]
theorem Rh (s:List UInt8) (hs:s.length≤1000000):w7 s=some (kQ s):=by
 unfold w7 kQ
 by_cases h:s.length<32
 ·rw [decide_eq_true (by omega),cond_true,if_neg (by omega)]
 ·obtain ⟨r,e1,e2⟩:=Wu s hs
  rw [decide_eq_false (by omega),cond_false,if_pos (by omega),e2, ← e1];rfl
theorem WB (a b:List UInt8) (ha:a.length≤1000000):m8 a b=some (a==b):=by
 by_cases hl:a.length=b.length
 ·refine bZ (Comes.next (c':= .L1 ((0:Nat):Int)) (by simp only [cW];rw [decide_eq_true (by omega)];rfl) ?_)
  have:=Comes.all (step:=cW a b) (fun i=> .L1 (i:Int)) (fun i=>idx a (i:Int)==idx b (i:Int)) a.length false true (by
   intro i hi hq
   rw [beq_iff_eq] at hq
   simp only [cW]
   rw [decide_eq_true (by omega),cond_true,ah (by omega),ah (by omega),hq,decide_eq_true rfl,Bool.not_true,cond_false,ah (by unfold bf;omega)]
   rfl) (by
   intro i hi hq
   rw [beq_eq_false_iff_ne] at hq
   simp only [cW]
   rw [decide_eq_true (by omega),cond_true,ah (by omega),ah (by omega),decide_eq_false (p:=((idx a (i:Int)).toNat:Int)=((idx b (i:Int)).toNat:Int)) (fun h=>hq (UInt8.toNat_inj.1 (by omega)))]
   rfl) (by
   refine Comes.stop ?_
   simp only [cW]
   rw [decide_eq_false (by omega)];rfl)
  have he:((List.range a.length).all fun i=>idx a (i:Int)==idx b (i:Int))=(a==b):=by
   rw [Bool.eq_iff_iff,List.all_eq_true,beq_iff_eq]
   constructor
   ·intro hh
    refine List.ext_getElem hl fun i h1 h2=>?_
    have:=hh i (by simpa using h1)
    rw [beq_iff_eq,iU a h1,iU b h2] at this
    exact this
   ·intro e i _
    rw [e,beq_iff_eq]
  rw [he] at this
  cases hb:(a==b) with
  | true=>rw [hb] at this;exact this
  | false=>rw [hb] at this;exact this
 ·have:(a==b)=false:=by rw [beq_eq_false_iff_ne];intro e;rw [e] at hl;exact hl rfl
  rw [this]
  refine bZ (Comes.stop ?_)
  simp only [cW]
  rw [decide_eq_false (by omega)];rfl
theorem Ac:∀ a b:List UInt8,common a b≤a.length∧common a b≤b.length
 | [],b=>by simp [common]
 | x::a,[]=>by simp [common]
 | x::a,y::b=>by
  have:=Ac a b
  rw [common]
  split
  ·simp only [List.length_cons];omega
  ·simp
theorem yG:∀ p q:List UInt8,common p q<p.length→common p q<q.length→∃ a x p' y q',p=a++x::p'∧q=a++y::q'∧x≠y∧a.length=common p q
 | [],q,h,_=>by simp at h
 | x::p,[],_,h=>by simp at h
 | x::p,y::q,h1,h2=>by
  rw [common] at h1 h2 ⊢
  by_cases h:x=y
  ·rw [if_pos h] at h1 h2 ⊢
   simp only [List.length_cons] at h1 h2
   obtain ⟨a,x',p',y',q',e1,e2,e3,e4⟩:=yG p q (by omega) (by omega)
   exact ⟨x::a,x',p',y',q',by rw [e1];rfl,by rw [e2,h];rfl,e3,by simp [e4]⟩
  ·rw [if_neg h]
   exact ⟨[],x,p,y,q,rfl,rfl,h,rfl⟩
theorem yc:∀ p q:List UInt8,p.length≤common p q→∃ r,q=p++r
 | [],q,_=>⟨q,rfl⟩
 | x::p,[],h=>by simp [common] at h
 | x::p,y::q,h=>by
  rw [common] at h
  by_cases he:x=y
  ·rw [if_pos he] at h
   simp only [List.length_cons] at h
   obtain ⟨r,e⟩:=yc p q (by omega)
   exact ⟨r,by rw [e,he];rfl⟩
  ·rw [if_neg he] at h;simp at h
theorem Ad:∀ p r:List UInt8,common p (p++r)=p.length
 | [],r=>by cases r<;>rfl
 | x::p,r=>by rw [List.cons_append,common,if_pos rfl,Ad p r];rfl
theorem Ae {a b:List UInt8}:right (a++b)=true↔right a=true∧right b=true:=by
 rw [ql,ql,ql]
 simp only [List.mem_append]
 exact ⟨fun h=>⟨fun b hb=>h b (.inl hb),fun b hb=>h b (.inr hb)⟩,fun h b hb=>hb.elim (h.1 b) (h.2 b)⟩
theorem EF {x:UInt8} {a:List UInt8}:right (x::a)=true↔x.toNat<16∧right a=true:=by
 rw [show x::a=[x]++a from rfl,Ae,ql]
 simp
def PQ (d:Nat) (q:List UInt8):Prop:=q.length=d∧right q=true
def nb (c:UInt8):Fin 16:=⟨c.toNat%16,Nat.mod_lt _ (by omega)⟩
theorem yH {c:UInt8} (h:c.toNat<16):nb c=⟨c.toNat,h⟩:=Fin.ext (Nat.mod_eq_of_lt h)
def vj (f:Fin 16→af) (c:Fin 16) (x:af):Fin 16→af:=fun i=>if i=c then x else f i
def one (x:af):Fin 16→af:=fun i=>if i=0 then x else .nil
def jH (p v:List UInt8):af:= .node 1 p v (fun _=> .nil) []
def mY (p:List UInt8) (x:af):af:= .node 2 p [] (one x) []
def gE (f:Fin 16→af):af:= .node 3 [] [] f []
def vk (p:List UInt8) (x:af):af:=if p=[] then x else mY p x
def look:af→List UInt8→Option (List UInt8)
 | .nil,_=>none
 | .node k p v f _,q=>if k=1 then (if q=p then some v else none) else if k=2 then (if q.take p.length=p then look (f 0) (q.drop p.length) else none) else
  match q with
  | []=>none
  | c::s=>look (f (nb c)) s
theorem pE (q:List UInt8):look .nil q=none:=by rw [look]
theorem jI (p v q:List UInt8):look (jH p v) q=if q=p then some v else none:=by
 unfold jH;rw [look.eq_def];exact if_pos rfl
theorem kg (p:List UInt8) (x:af) (q:List UInt8):look (mY p x) q=if q.take p.length=p then look x (q.drop p.length) else none:=by
 unfold mY;rw [look.eq_def];rfl
theorem o8 (f:Fin 16→af) (c:UInt8) (s:List UInt8):look (gE f) (c::s)=look (f (nb c)) s:=by
 unfold gE;rw [look,if_neg (by decide),if_neg (by decide)]
theorem Cm (p:List UInt8) (x:af) (q:List UInt8):look (vk p x) q=if q.take p.length=p then look x (q.drop p.length) else none:=by
 unfold vk
 by_cases h:p=[]
 ·subst h;simp
 ·rw [if_neg h,kg]
theorem O7 (p:List UInt8) (x:af) (q:List UInt8):look (vk p x) (p++q)=look x q:=by
 rw [Cm,List.take_left,if_pos rfl,List.drop_left]
inductive TW:Nat→af→Prop
 | leaf {d:Nat} {p v:List UInt8}:PQ d p→TW d (jH p v)
 | ext {d e:Nat} {p:List UInt8} {f:Fin 16→af}:e=p.length+d→p≠[]→right p=true→TW d (gE f)→TW e (mY p (gE f))
 | br {d e:Nat} {f:Fin 16→af}:e=d+1→(∀ c,f c≠ .nil→TW d (f c))→(∃ a b,a≠b∧f a≠ .nil∧f b≠ .nil)→TW e (gE f)
def TN (d:Nat) (t:af):Prop:=t= .nil∨TW d t
def T4 (t:af):Prop:=∃ f,t=gE f
theorem TW.ne {d:Nat} {t:af} (h:TW d t):t≠ .nil:=by
 cases h<;>exact fun e=>by cases e
theorem TW.isNil {d:Nat} {t:af} (h:TW d t):t.isNil=false:=by
 cases h<;>rfl
theorem IN {d e:Nat} {p:List UInt8} {f:Fin 16→af} (he:e=p.length+d) (hp:right p=true) (h:TW d (gE f)):TW e (vk p (gE f)):=by
 unfold vk
 by_cases h0:p=[]
 ·subst h0;rw [if_pos rfl,he];simpa using h
 ·rw [if_neg h0];exact .ext he h0 hp h
theorem uE (f:Fin 16→af) (c:Nat) (h:c<16):idx (List.ofFn f) (c:Int)=f ⟨c,h⟩:=by
 rw [iU _ (by simpa using h),List.getElem_ofFn]
def yI (f:Fin 16→af):aD 16 af:=⟨List.ofFn f,by simp⟩
theorem xD (f:Fin 16→af) (c:Nat) (h:c<16) (x:af):(yI f).put (c:Int) x=yI (vj f ⟨c,h⟩ x):=by
 apply Subtype.ext
 show (List.ofFn f).set c x=List.ofFn (vj f ⟨c,h⟩ x)
 apply List.ext_getElem
 ·simp
 ·intro i h1 h2
  rw [List.getElem_set,List.getElem_ofFn,List.getElem_ofFn]
  unfold vj
  by_cases hc:c=i
  ·subst hc;rw [if_pos rfl,if_pos rfl]
  ·rw [if_neg hc,if_neg (fun e=>hc (by rw [Fin.mk.injEq] at e;exact e.symm))]
theorem Cn (k:Int) (p v r:List UInt8) (f:Fin 16→af):af.of ⟨k,p,v,yI f,r⟩= .node k p v f r:=by
 unfold af.of
 congr 1
 funext i
 show (List.ofFn f).getD i.1 .nil=f i
 rw [List.getD_eq_getElem?_getD,List.getElem?_eq_getElem (by simp),List.getElem_ofFn]
 rfl
theorem EG:(aD.rep 16 af.nil)=yI fun _=> .nil:=Subtype.ext rfl
theorem T5 (x:af) (h):(⟨[x, .nil, .nil, .nil, .nil, .nil, .nil, .nil, .nil, .nil, .nil, .nil, .nil, .nil, .nil, .nil],h⟩:aD 16 af)=yI (one x):=Subtype.ext rfl
theorem BK (p v:List UInt8) (h:p.length≤1000000):l8 p v=some (jH p v):=by
 unfold l8
 rw [Cl p h,Option.bind_some,EG,Cn];rfl
theorem EH (p:List UInt8) (x:af) (h:p.length≤1000000):mq p x=some (vk p x):=by
 unfold mq vk
 by_cases h0:p=[]
 ·subst h0;rfl
 ·have:p.length≠0:=fun e=>h0 (List.eq_nil_of_length_eq_zero e)
  rw [decide_eq_false (by omega),cond_false,Cl p h,Option.bind_some,if_neg h0]
  rw [T5,Cn];rfl
theorem Nj {p q a p' q':List UInt8} {x y:UInt8} {v:List UInt8} {p0 K:af} (ep:p0.at.bA=p) (h1:p=a++x::p') (h2:q=a++y::q') (hx:x.toNat<16) (hy:y.toNat<16) (hp:p.length≤100) (hq:q.length≤100) (hn:p0.isNil=false)
  (hK:(p0.at.aX=1∧K=jH p' p0.at.dU)∨(p0.at.aX=2∧K=vk p' (idx p0.at.cg.1 (0:Int)))):
  nB p0 q v (a.length:Int)=some (vk a (gE (vj (vj (fun _=> .nil) ⟨y.toNat,hy⟩ (jH q' v)) ⟨x.toNat,hx⟩ K))):=by
 have l1:p.length=a.length+(p'.length+1):=by rw [h1];simp
 have l2:q.length=a.length+(q'.length+1):=by rw [h2];simp
 have d1:p.drop (a.length+1)=p':=by rw [h1, ← List.drop_drop,List.drop_left];rfl
 have d2:q.drop (a.length+1)=q':=by rw [h2, ← List.drop_drop,List.drop_left];rfl
 have t2:q.take a.length=a:=by rw [h2,List.take_left]
 have i1:idx p (a.length:Int)=x:=by rw [iB,h1];simp
 have i2:idx q (a.length:Int)=y:=by rw [iB,h2];simp
 have e1:((a.length:Int)+1)=((a.length+1:Nat):Int):=by omega
 unfold nB
 rw [ep,ah (by omega),e1,ah (by unfold bf;omega),ah (by omega),nD,d2,BK _ _ (by omega),Option.bind_some,i2,ah (by omega),ah hn,ah (by omega),ah hn]
 have last:∀ F:Fin 16→af,(gO (0≤(0:Int)∧(0:Int)≤(a.length:Int)∧(a.length:Int)≤(q.length:Int)) ((mq (sub q (0:Int) (a.length:Int)) (af.of (⟨3,([]:(List UInt8)),([]:List UInt8),yI F,([]:List UInt8)⟩:part))).bind fun (sK:af)=>some sK))=some (vk a (gE F)):=by
  intro F
  rw [ah (by omega),Er,t2,Cn,EH _ _ (by omega)];rfl
 rcases hK with ⟨k1,rfl⟩ | ⟨k1,rfl⟩
 ·rw [k1,decide_eq_true rfl,cond_true,ah hn,ah (by unfold bf;omega),ah (by omega),ah hn,nD,d1,BK _ _ (by omega),Option.bind_some,i1,ah (by omega),Option.bind_some,EG,xD _ _ hy,xD _ _ hx]
  exact last _
 ·rw [k1,decide_eq_false (by decide),cond_false,ah hn,ah (by unfold bf;omega),ah (by omega),ah hn,nD,d1,EH _ _ (by omega),Option.bind_some,i1,ah (by omega),Option.bind_some,EG,xD _ _ hy,xD _ _ hx]
  exact last _
end Go.Proofs.YtlfjfoknbjcncaaGreat.K
namespace Go.Proofs.YtlfjfoknbjcncaaGreat.K
open Go
set_option linter.unusedVariables false
set_option linter.unusedSimpArgs false
theorem PQ.cons {d:Nat} {c:UInt8} {s:List UInt8}:PQ (d+1) (c::s)↔c.toNat<16∧PQ d s:=by
 unfold PQ
 rw [EF,List.length_cons]
 exact ⟨fun ⟨h1,h2,h3⟩=>⟨h2,by omega,h3⟩,fun ⟨h1,h2,h3⟩=>⟨by omega,h1,h3⟩⟩
theorem PQ.app {d:Nat} {a s:List UInt8}:PQ (a.length+d) (a++s)↔right a=true∧PQ d s:=by
 unfold PQ
 rw [Ae,List.length_append]
 exact ⟨fun ⟨h1,h2,h3⟩=>⟨h2,by omega,h3⟩,fun ⟨h1,h2,h3⟩=>⟨by omega,h1,h3⟩⟩
theorem PQ.yd {d:Nat} {s:List UInt8} (h:PQ (d+1) s):∃ c r,s=c::r∧c.toNat<16∧PQ d r:=by
 cases s with
 | nil=>exact absurd h.1 (by simp)
 | cons c r=>exact ⟨c,r,rfl,PQ.cons.1 h⟩
theorem qE {a s:List UInt8} (h:s.take a.length=a):∃ r,s=a++r:=⟨s.drop a.length,by
 have:=List.take_append_drop a.length s
 rw [h] at this;exact this.symm⟩
theorem IP {t K:af} {a q':List UInt8} {x y:UInt8} {v:List UInt8} {d:Nat} (hx:x.toNat<16) (hy:y.toNat<16) (hne:x≠y) (hd:PQ d (a++y::q'))
  (hK:∀ s,PQ (d-a.length-1) s→look K s=look t (a++x::s)) (h0:∀ s,PQ d s→(∀ r,s≠a++x::r)→look t s=none) (s:List UInt8) (hs:PQ d s):
  look (vk a (gE (vj (vj (fun _=> .nil) ⟨y.toNat,hy⟩ (jH q' v)) ⟨x.toNat,hx⟩ K))) s=if s=a++y::q' then some v else look t s:=by
 by_cases hp:s.take a.length=a
 ·obtain ⟨r,rfl⟩:=qE hp
  have hl:=hd.1
  have P8:=hs.1
  rw [List.length_append,List.length_cons] at hl
  rw [List.length_append] at P8
  have Nk:=hs
  rw [show d=a.length+(q'.length+1) by omega,PQ.app] at Nk
  obtain ⟨c,r,rfl,hc,hr⟩:=Nk.2.yd
  rw [O7,o8,yH hc]
  unfold vj
  by_cases h1:c=x
  ·subst h1
   rw [if_pos rfl,if_neg (fun e=>hne (by have:=List.append_cancel_left e;injection this)),hK r (by rw [show d-a.length-1=q'.length by omega];exact hr)]
  ·rw [if_neg (fun e=>h1 (by rw [Fin.mk.injEq,UInt8.toNat_inj] at e;exact e))]
   have hz:look t (a++c::r)=none:=h0 _ hs fun r' e=>h1 (by have:=List.append_cancel_left e;injection this)
   by_cases h2:c=y
   ·subst h2
    rw [if_pos rfl,jI,hz]
    by_cases h3:r=q'
    ·rw [if_pos h3,if_pos (by rw [h3])]
    ·rw [if_neg h3,if_neg (fun e=>h3 (by have:=List.append_cancel_left e;injection this))]
   ·rw [if_neg (fun e=>h2 (by rw [Fin.mk.injEq,UInt8.toNat_inj] at e;exact e)),pE,hz,if_neg (fun e=>h2 (by have:=List.append_cancel_left e;injection this))]
 ·rw [Cm,if_neg hp,if_neg (fun e=>hp (by rw [e,List.take_left])),h0 s hs fun r e=>hp (by rw [e,List.take_left])]
theorem Nl {a q' v:List UInt8} {x y:UInt8} {d:Nat} {K:af} (hx:x.toNat<16) (hy:y.toNat<16) (hne:x≠y) (hd:PQ d (a++y::q')) (hK:TW (d-a.length-1) K):
  TW d (vk a (gE (vj (vj (fun _=> .nil) ⟨y.toNat,hy⟩ (jH q' v)) ⟨x.toNat,hx⟩ K))):=by
 have hl:=hd.1
 rw [List.length_append,List.length_cons] at hl
 have QA:=hd
 rw [show d=a.length+(q'.length+1) by omega,PQ.app,PQ.cons] at QA
 have hxy:(⟨y.toNat,hy⟩:Fin 16)≠⟨x.toNat,hx⟩:=fun e=>hne (by rw [Fin.mk.injEq,UInt8.toNat_inj] at e;exact e.symm)
 refine IN (d:=q'.length+1) (by omega) QA.1 (.br rfl (fun c hc=>?_) ⟨⟨y.toNat,hy⟩,⟨x.toNat,hx⟩,hxy,?_,?_⟩)
 ·unfold vj at hc ⊢
  by_cases h1:c=⟨x.toNat,hx⟩
  ·rw [if_pos h1];rw [show q'.length=d-a.length-1 by omega];exact hK
  ·rw [if_neg h1] at hc ⊢
   by_cases h2:c=⟨y.toNat,hy⟩
   ·rw [if_pos h2];exact .leaf QA.2.2
   ·rw [if_neg h2] at hc;exact absurd rfl hc
 ·unfold vj
  rw [if_neg hxy,if_pos rfl];exact fun e=>by cases e
 ·unfold vj
  rw [if_pos rfl];exact hK.ne
theorem Nm (v:List UInt8):∀ (n d:Nat) (t:af) (q:List UInt8),d<n→TN d t→PQ d q→d≤64→∃ t',(∀ m,d<m→jA m t q v=some t')∧TW d t'∧(T4 t→T4 t')∧∀ s,PQ d s→look t' s=if s=q then some v else look t s
 | 0,d,t,q,h,_,_,_=>by omega
 | n+1,d,t,q,hd,ht,hq,Fp=>by
  have ih:=Nm v n
  have Yl:=hq.1
  have up:∀ t',(∀ m,d≤m→gH (jA m) t q v=some t')→∀ m,d<m→jA m t q v=some t':=by
   intro t' h m hm
   obtain ⟨m,rfl⟩:∃ k,m=k+1:=⟨m-1,by omega⟩
   exact h m (by omega)
  rcases ht with rfl | ht
  ·refine ⟨jH q v,up _ fun m hm=>?_, .leaf hq,fun ⟨f,e⟩=>(by cases e),fun s _=>by rw [jI,pE]⟩
   unfold gH
   rw [show af.nil.isNil=true from rfl,cond_true,BK _ _ (by omega)];rfl
  ·cases ht with
   | @leaf _ p v0 hp=>
    have Fq:=hp.1
    have LM:=Ac p q
    by_cases hc:common p q<p.length
    ·obtain ⟨a,x,p',y,q',e1,e2,e3,e4⟩:=yG p q hc (by omega)
     have Mq:=hp
     have AI:=hq
     rw [e1] at Mq
     rw [e2] at AI
     have l1:p.length=a.length+(p'.length+1):=by rw [e1];simp
     have l2:q.length=a.length+(q'.length+1):=by rw [e2];simp
     have AW:=Mq
     have Ly:=AI
     rw [show d=a.length+(p'.length+1) by omega,PQ.app,PQ.cons] at AW
     rw [show d=a.length+(q'.length+1) by omega,PQ.app,PQ.cons] at Ly
     refine ⟨_,up _ fun m hm=>?_,Nl (K:=jH p' v0) (v:=v) AW.2.1 Ly.2.1 e3 AI (.leaf (by rw [show d-a.length-1=p'.length by omega];exact AW.2.2)),fun ⟨f,e⟩=>(by cases e),fun s hs=>?_⟩
     ·unfold gH
      have hf:=Nj (p:=p) (q:=q) (v:=v) (p0:=jH p v0) (K:=jH p' v0) rfl e1 e2 AW.2.1 Ly.2.1 (by omega) (by omega) rfl (.inl ⟨rfl,rfl⟩)
      rw [show (jH p v0).isNil=false from rfl,cond_false,ah rfl,show (jH p v0).at.bA=p from rfl,qm _ _ (by omega),Option.bind_some,ah rfl,show (jH p v0).at.aX=1 from rfl,decide_eq_false (by decide),cond_false,ah rfl,decide_eq_true (by omega),cond_true, ← e4,hf]
      rfl
     ·rw [IP (t:=jH p v0) AW.2.1 Ly.2.1 e3 AI (fun r hr=>?_) (fun r hr hn=>?_) s hs,e2]
      ·rw [jI,jI,e1]
       by_cases h:r=p'
       ·rw [if_pos h,if_pos (by rw [h])]
       ·rw [if_neg h,if_neg (fun e=>h (by have:=List.append_cancel_left e;injection this))]
      ·rw [jI,if_neg (fun e=>hn p' (by rw [e,e1]))]
    ·obtain ⟨r,e⟩:=yc p q (by omega)
     have er:r=[]:=List.eq_nil_of_length_eq_zero (by have:=congrArg List.length e;rw [List.length_append] at this;omega)
     rw [er,List.append_nil] at e
     subst e
     refine ⟨jH q v,up _ fun m hm=>?_, .leaf hq,fun ⟨f,e⟩=>(by cases e),fun s _=>?_⟩
     ·unfold gH
      rw [show (jH q v0).isNil=false from rfl,cond_false,ah rfl,show (jH q v0).at.bA=q from rfl,qm _ _ (by omega),Option.bind_some,ah rfl,show (jH q v0).at.aX=1 from rfl,decide_eq_false (by decide),cond_false,ah rfl,decide_eq_false (by omega),cond_false,ah rfl,decide_eq_true rfl,cond_true,BK _ _ (by omega)]
      rfl
     ·rw [jI,jI]
      by_cases h:s=q
      ·rw [if_pos h,if_pos h]
      ·rw [if_neg h,if_neg h];exact (if_neg h).symm
   | @ext d' _ p f he rU BF hb=>
    have LM:=Ac p q
    have Lc:0<p.length:=List.length_pos_iff.2 rU
    by_cases hc:common p q<p.length
    ·obtain ⟨a,x,p',y,q',e1,e2,e3,e4⟩:=yG p q hc (by omega)
     have AI:=hq
     rw [e2] at AI
     have l1:p.length=a.length+(p'.length+1):=by rw [e1];simp
     have l2:q.length=a.length+(q'.length+1):=by rw [e2];simp
     have AW:=BF
     have Ly:=AI
     rw [e1,Ae,EF] at AW
     rw [show d=a.length+(q'.length+1) by omega,PQ.app,PQ.cons] at Ly
     refine ⟨_,up _ fun m hm=>?_,Nl (K:=vk p' (gE f)) (v:=v) AW.2.1 Ly.2.1 e3 AI (IN (by omega) AW.2.2 hb),fun ⟨f,e⟩=>(by cases e),fun s hs=>?_⟩
     ·unfold gH
      have hf:=Nj (p:=p) (q:=q) (v:=v) (p0:=mY p (gE f)) (K:=vk p' (gE f)) rfl e1 e2 AW.2.1 Ly.2.1 (by omega) (by omega) rfl (.inr ⟨rfl,rfl⟩)
      rw [show (mY p (gE f)).isNil=false from rfl,cond_false,ah rfl,show (mY p (gE f)).at.bA=p from rfl,qm _ _ (by omega),Option.bind_some,ah rfl,show (mY p (gE f)).at.aX=2 from rfl,decide_eq_false (by decide),cond_false,ah rfl,decide_eq_true (by omega),cond_true, ← e4,hf]
      rfl
     ·rw [IP (t:=mY p (gE f)) AW.2.1 Ly.2.1 e3 AI (fun r hr=>?_) (fun r hr hn=>?_) s hs,e2]
      ·rw [Cm,kg,e1]
       have ea:(a++x::r).take (a++x::p').length=a++x::r.take p'.length:=by
        rw [List.length_append,List.length_cons,List.take_append,List.take_of_length_le (by omega),show a.length+(p'.length+1)-a.length=p'.length+1 by omega,List.take_succ_cons]
       have eb:(a++x::r).drop (a++x::p').length=r.drop p'.length:=by
        rw [List.length_append,List.length_cons,List.drop_append,List.drop_eq_nil_of_le (by omega),List.nil_append,show a.length+(p'.length+1)-a.length=p'.length+1 by omega,List.drop_succ_cons]
       rw [ea,eb]
       by_cases h:r.take p'.length=p'
       ·rw [if_pos h,if_pos (by rw [h])]
       ·rw [if_neg h,if_neg (fun e=>h (by have:=List.append_cancel_left e;injection this))]
      ·rw [kg,if_neg (fun e=>?_)]
       obtain ⟨z,ez⟩:=qE e
       exact hn (p'++z) (by rw [ez,e1];simp)
    ·obtain ⟨r,rfl⟩:=yc p q (by omega)
     have AI:=hq
     rw [he,PQ.app] at AI
     obtain ⟨x,g1,g2,g3,g4⟩:=ih d' (gE f) r (by omega) (.inr hb) AI.2 (by omega)
     obtain ⟨f',rfl⟩:=g3 ⟨f,rfl⟩
     refine ⟨mY p (gE f'),up _ fun m hm=>?_, .ext he rU BF g2,fun ⟨f,e⟩=>(by cases e),fun s hs=>?_⟩
     ·unfold gH
      rw [show (mY p (gE f)).isNil=false from rfl,cond_false,ah rfl,show (mY p (gE f)).at.bA=p from rfl,qm _ _ (by omega),Option.bind_some,ah rfl,show (mY p (gE f)).at.aX=2 from rfl,decide_eq_false (by decide),cond_false,ah rfl,decide_eq_false (by omega),cond_false,ah rfl,decide_eq_false (by decide),cond_false,ah rfl,decide_eq_true rfl,cond_true,ah rfl,ah rfl,Ad,ah (by rw [List.length_append];omega),nD,List.drop_left]
      rw [show idx (mY p (gE f)).at.cg.1 (0:Int)=gE f from rfl,g1 m (by omega),Option.bind_some,EH _ _ (by omega),Option.bind_some]
      unfold vk
      rw [if_neg rU]
     ·rw [kg,kg]
      by_cases h:s.take p.length=p
      ·obtain ⟨z,rfl⟩:=qE h
       have Nk:=hs
       rw [he,PQ.app] at Nk
       rw [if_pos h,if_pos h,List.drop_left,g4 z Nk.2]
       by_cases hz:z=r
       ·rw [if_pos hz,if_pos (by rw [hz])]
       ·rw [if_neg hz,if_neg (fun e=>hz (List.append_cancel_left e))]
      ·rw [if_neg h,if_neg h,if_neg (fun e=>h (by rw [e,List.take_left]))]
   | @br d' _ f he hk h2=>
    subst he
    obtain ⟨c,r,rfl,hc,hr⟩:=hq.yd
    obtain ⟨x,g1,g2,g3,g4⟩:=ih d' (f ⟨c.toNat,hc⟩) r (by omega) (by
     by_cases h:f ⟨c.toNat,hc⟩= .nil
     ·exact .inl h
     ·exact .inr (hk _ h)) hr (by omega)
    refine ⟨gE (vj f ⟨c.toNat,hc⟩ x),up _ fun m hm=>?_, .br rfl (fun i hi=>?_) ?_,fun _=>⟨_,rfl⟩,fun s hs=>?_⟩
    ·unfold gH
     have ha:((gE f).at.cg)=yI f:=rfl
     have hcn:common [] (c::r)=0:=rfl
     have hi:idx (c::r) (0:Int)=c:=rfl
     rw [show (gE f).isNil=false from rfl,cond_false,ah rfl,show (gE f).at.bA=[] from rfl,qm _ _ (by simp),Option.bind_some,ah rfl,show (gE f).at.aX=3 from rfl,decide_eq_false (by decide),cond_false,ah rfl,hcn,decide_eq_false (by decide),cond_false,ah rfl,decide_eq_false (by decide),cond_false,ah rfl,decide_eq_false (by decide),cond_false,ah rfl]
     rw [List.length_cons,ah (by omega),ah (by omega),ah rfl,hi,ah (by omega),ah (by omega)]
     rw [show (sub (c::r) (1:Int) ((r.length+1:Nat):Int))=r from nD (c::r) 1,ha,show (yI f).1=List.ofFn f from rfl,uE f _ hc,g1 m (by omega),Option.bind_some,ah (by omega),xD f _ hc,Cn]
     rfl
    ·unfold vj at hi ⊢
     by_cases h:i=⟨c.toNat,hc⟩
     ·rw [if_pos h];exact g2
     ·rw [if_neg h] at hi ⊢;exact hk i hi
    ·obtain ⟨a,b,hab,ha,hb⟩:=h2
     refine ⟨a,b,hab,?_,?_⟩
     ·unfold vj
      split
      ·exact g2.ne
      ·exact ha
     ·unfold vj
      split
      ·exact g2.ne
      ·exact hb
    ·obtain ⟨c',r',rfl,T6,hr'⟩:=hs.yd
     rw [o8,o8,yH T6]
     unfold vj
     by_cases h:c'=c
     ·subst h
      rw [if_pos rfl,g4 r' hr']
      by_cases h3:r'=r
      ·rw [if_pos h3,if_pos (by rw [h3])]
      ·rw [if_neg h3,if_neg (fun e=>h3 (by injection e))]
     ·rw [if_neg (fun e=>h (by rw [Fin.mk.injEq,UInt8.toNat_inj] at e;exact e)),if_neg (fun e=>h (by injection e))]
theorem Ri {d:Nat} {t:af} {q:List UInt8} (v:List UInt8) (ht:TN d t) (hq:PQ d q) (Fp:d≤64):∃ t',ux t q v=some t'∧TW d t'∧∀ s,PQ d s→look t' s=if s=q then some v else look t s:=by
 obtain ⟨t',h1,h2,_,h3⟩:=Nm v (d+1) d t q (by omega) ht hq Fp
 exact ⟨t',jY (d+1) fun m hm=>h1 m (by omega),h2,h3⟩
end Go.Proofs.YtlfjfoknbjcncaaGreat.K
