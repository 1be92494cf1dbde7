/- What get and del make of a well made tree. -/
import Derived.Test.YtlfjfoknbjcncaaGreatHG7
import Derived.Test.YtlfjfoknbjcncaaGreatHG6
import Derived.Test.YtlfjfoknbjcncaaGreatHG3
namespace Go.Proofs.YtlfjfoknbjcncaaGreat.K
open Go
set_option linter.unusedVariables false
set_option linter.unusedSimpArgs false
theorem Nn:∀ (n d:Nat) (t:af) (q:List UInt8),d<n→TN d t→PQ d q→d≤64→∃ v b,(∀ m,d<m→jB m t q=some (v,b))∧look t q=if b=true then some v else none
 | 0,d,t,q,h,_,_,_=>by omega
 | n+1,d,t,q,hd,ht,hq,Fp=>by
  have ih:=Nn n
  have Yl:=hq.1
  have up:∀ r,(∀ m,d≤m→iz (jB m) t q=some r)→∀ m,d<m→jB m t q=some r:=by
   intro r h m hm
   obtain ⟨m,rfl⟩:∃ k,m=k+1:=⟨m-1,by omega⟩
   exact h m (by omega)
  rcases ht with rfl | ht
  ·refine ⟨[],false,up _ fun m hm=>?_,by rw [pE];rfl⟩
   unfold iz
   rw [show af.nil.isNil=true from rfl,cond_true]
  ·cases ht with
   | @leaf _ p v0 hp=>
    have Fq:=hp.1
    refine ⟨v0,p==q,up _ fun m hm=>?_,?_⟩
    ·unfold iz
     rw [show (jH p v0).isNil=false from rfl,cond_false,ah rfl,show (jH p v0).at.aX=1 from rfl,decide_eq_false (by decide),cond_false,decide_eq_true rfl,cond_true,ah rfl,ah rfl,show (jH p v0).at.bA=p from rfl,WB _ _ (by omega)]
     rfl
    ·rw [jI]
     by_cases h:q=p
     ·rw [if_pos h,if_pos (by rw [h];exact beq_self_eq_true p)]
     ·rw [if_neg h,if_neg (fun e=>h (beq_iff_eq.1 e).symm)]
   | @ext d' _ p f he rU BF hb=>
    have LM:=Ac p q
    have Lc:0<p.length:=List.length_pos_iff.2 rU
    by_cases hc:common p q<p.length
    ·refine ⟨[],false,up _ fun m hm=>?_,?_⟩
     ·unfold iz
      rw [show (mY p (gE f)).isNil=false from rfl,cond_false,ah rfl,show (mY p (gE f)).at.aX=2 from rfl,decide_eq_false (by decide),cond_false,decide_eq_false (by decide),cond_false,decide_eq_true rfl,cond_true,ah rfl,ah rfl,show (mY p (gE f)).at.bA=p from rfl,qm _ _ (by omega),Option.bind_some,decide_eq_true (by omega),cond_true]
     ·rw [kg,if_neg (fun e=>?_)]
      ·rfl
      ·obtain ⟨z,ez⟩:=qE e
       rw [ez,Ad] at hc;omega
    ·obtain ⟨r,rfl⟩:=yc p q (by omega)
     have AI:=hq
     rw [he,PQ.app] at AI
     obtain ⟨v,b,g1,g2⟩:=ih d' (gE f) r (by omega) (.inr hb) AI.2 (by omega)
     refine ⟨v,b,up _ fun m hm=>?_,?_⟩
     ·unfold iz
      rw [show (mY p (gE f)).isNil=false from rfl,cond_false,ah rfl,show (mY p (gE f)).at.aX=2 from rfl,decide_eq_false (by decide),cond_false,decide_eq_false (by decide),cond_false,decide_eq_true rfl,cond_true,ah rfl,ah rfl,show (mY p (gE f)).at.bA=p from rfl,qm _ _ (by omega),Option.bind_some,decide_eq_false (by omega),cond_false,ah rfl,ah (by rw [List.length_append];omega),nD,List.drop_left]
      rw [show idx (mY p (gE f)).at.cg.1 (0:Int)=gE f from rfl,g1 m (by omega)]
      rfl
     ·rw [kg,List.take_left,if_pos rfl,List.drop_left,g2]
   | @br d' _ f he hk h2=>
    subst he
    obtain ⟨c,r,rfl,hc,hr⟩:=hq.yd
    obtain ⟨v,b,g1,g2⟩:=ih d' (f ⟨c.toNat,hc⟩) r (by omega) (by
     by_cases h:f ⟨c.toNat,hc⟩= .nil
     ·exact .inl h
     ·exact .inr (hk _ h)) hr (by omega)
    refine ⟨v,b,up _ fun m hm=>?_,by rw [o8,yH hc,g2]⟩
    unfold iz
    have hi:idx (c::r) (0:Int)=c:=rfl
    rw [show (gE f).isNil=false from rfl,cond_false,ah rfl,show (gE f).at.aX=3 from rfl,decide_eq_false (by decide),cond_false,decide_eq_false (by decide),cond_false,decide_eq_false (by decide),cond_false]
    rw [List.length_cons,ah (by omega),ah rfl,hi,ah (by omega),ah (by omega)]
    rw [show (sub (c::r) (1:Int) ((r.length+1:Nat):Int))=r from nD (c::r) 1,show (gE f).at.cg.1=List.ofFn f from rfl,uE f _ hc,g1 m (by omega)]
    rfl
theorem Rj {d:Nat} {t:af} {q:List UInt8} (ht:TN d t) (hq:PQ d q) (Fp:d≤64):∃ v b,uy t q=some (v,b)∧look t q=if b=true then some v else none:=by
 obtain ⟨v,b,h1,h2⟩:=Nn (d+1) d t q (by omega) ht hq Fp
 exact ⟨v,b,jY (d+1) fun m hm=>h1 m (by omega),h2⟩
theorem Rk {p x s:List UInt8} (h:¬ s.take p.length=p):¬ s.take (p++x).length=p++x:=by
 intro e
 obtain ⟨z,rfl⟩:=qE e
 exact h (by rw [List.append_assoc,List.take_left])
theorem KE {d e:Nat} {p:List UInt8} {x:af} (hx:TW d x) (rU:p≠[]) (hp:right p=true) (he:e=p.length+d) (Fp:e≤64):
  ∃ t',mw p x=some t'∧TW e t'∧∀ s,look t' s=if s.take p.length=p then look x (s.drop p.length) else none:=by
 cases hx with
 | @leaf _ q v hq=>
  have Yl:=hq.1
  refine ⟨jH (p++q) v,?_, .leaf (by rw [he,PQ.app];exact ⟨hp,hq⟩),fun s=>?_⟩
  ·unfold mw
   rw [show (jH q v).isNil=false from rfl,ah rfl,show (jH q v).at.aX=1 from rfl,decide_eq_false (by decide),cond_false,decide_eq_true rfl,cond_true,ah rfl,show (jH q v).at.bA=q from rfl,wD _ _ (by omega) (by omega),Option.bind_some,ah rfl,BK _ _ (by rw [List.length_append];omega)]
   rfl
  ·rw [jI]
   by_cases h:s.take p.length=p
   ·obtain ⟨z,rfl⟩:=qE h
    rw [if_pos h,List.drop_left,jI]
    by_cases hz:z=q
    ·rw [if_pos hz,if_pos (by rw [hz])]
    ·rw [if_neg hz,if_neg (fun e=>hz (List.append_cancel_left e))]
   ·rw [if_neg h,if_neg (fun e=>h (by rw [e,List.take_left]))]
 | @ext d' _ q f hd hq0 Yb hb=>
  have hpq:p++q≠[]:=fun e=>rU (List.append_eq_nil_iff.1 e).1
  refine ⟨mY (p++q) (gE f),?_, .ext (by rw [List.length_append];omega) hpq (Ae.2 ⟨hp,Yb⟩) hb,fun s=>?_⟩
  ·unfold mw
   rw [show (mY q (gE f)).isNil=false from rfl,ah rfl,show (mY q (gE f)).at.aX=2 from rfl,decide_eq_false (by decide),cond_false,decide_eq_false (by decide),cond_false,decide_eq_true rfl,cond_true,ah rfl,show (mY q (gE f)).at.bA=q from rfl,wD _ _ (by omega) (by omega),Option.bind_some,ah rfl,EH _ _ (by rw [List.length_append];omega),Option.bind_some]
   unfold vk
   rw [if_neg hpq];rfl
  ·rw [kg]
   by_cases h:s.take p.length=p
   ·obtain ⟨z,rfl⟩:=qE h
    rw [if_pos h,List.drop_left,kg,List.length_append,List.take_append,List.take_of_length_le (by omega),show p.length+q.length-p.length=q.length by omega, ← List.drop_drop,List.drop_left]
    by_cases hz:z.take q.length=q
    ·rw [if_pos hz,if_pos (by rw [hz])]
    ·rw [if_neg hz,if_neg (fun e=>hz (List.append_cancel_left e))]
   ·rw [if_neg h,if_neg (Rk h)]
 | @br d' _ f hd hk h2=>
  refine ⟨vk p (gE f),?_,IN he hp (.br hd hk h2),fun s=>by rw [Cm]⟩
  unfold mw
  rw [show (gE f).isNil=false from rfl,ah rfl,show (gE f).at.aX=3 from rfl,decide_eq_false (by decide),cond_false,decide_eq_false (by decide),cond_false,decide_eq_false (by decide),cond_false,EH _ _ (by omega)]
  rfl
def tN (f:Fin 16→af):Nat→Nat×Nat
 | 0=>(0,0)
 | i+1=>if h:i<16 then (if (f ⟨i,h⟩).isNil=true then tN f i else ((tN f i).1+1,i)) else tN f i
theorem xE {t:af}:t.isNil=true↔t= .nil:=by
 cases t
 ·exact ⟨fun _=>rfl,fun _=>rfl⟩
 ·exact ⟨fun h=>(by cases h),fun h=>(by cases h)⟩
theorem Lz (f:Fin 16→af):∀ i,i≤16→(tN f i).1≤i∧(tN f i).2≤15∧((tN f i).1=0→∀ j:Fin 16,j.1<i→f j= .nil)∧((tN f i).1≠0→∃ h:(tN f i).2<16,(tN f i).2<i∧f ⟨(tN f i).2,h⟩≠ .nil∧((tN f i).1=1→∀ j:Fin 16,j.1<i→j.1≠(tN f i).2→f j= .nil)∧(1<(tN f i).1→∃ a b,a≠b∧f a≠ .nil∧f b≠ .nil))
 | 0,_=>⟨Nat.le_refl _,Nat.zero_le _,fun _ j hj=>by omega,fun h=>absurd rfl h⟩
 | i+1,hi=>by
  obtain ⟨i1,i2,i3,i4⟩:=Lz f i (by omega)
  rw [tN,dif_pos (show i<16 by omega)]
  by_cases hn:(f ⟨i,by omega⟩).isNil=true
  ·rw [if_pos hn]
   rw [xE] at hn
   refine ⟨by omega,i2,fun h j hj=>?_,fun h=>?_⟩
   ·by_cases e:j.1=i
    ·have:j=⟨i,by omega⟩:=Fin.ext e
     rw [this];exact hn
    ·exact i3 h j (by omega)
   ·obtain ⟨h1,h2,h3,h4,h5⟩:=i4 h
    refine ⟨h1,by omega,h3,fun h j hj hne=>?_,h5⟩
    by_cases e:j.1=i
    ·have:j=⟨i,by omega⟩:=Fin.ext e
     rw [this];exact hn
    ·exact h4 h j (by omega) hne
  ·rw [if_neg hn]
   rw [xE] at hn
   refine ⟨by omega,by show i≤15;omega,fun h=>absurd h (Nat.succ_ne_zero _),fun _=>⟨by show i<16;omega,Nat.lt_succ_self i,hn,fun h j hj hne=>?_,fun h=>?_⟩⟩
   ·have h:(tN f i).1+1=1:=h
    have hne:j.1≠i:=hne
    exact i3 (by omega) j (by omega)
   ·have h:1<(tN f i).1+1:=h
    obtain ⟨h1,h2,h3,_⟩:=i4 (by omega)
    exact ⟨⟨_,h1⟩,⟨i,by omega⟩,fun e=>by rw [Fin.mk.injEq] at e;omega,h3,hn⟩
theorem DH {n:Nat} (h:n<256):(g7 (n:Int)).toNat=n:=by
 rw [xq,UInt8.toNat_ofNat'];omega
theorem O8 {d:Nat} {f:Fin 16→af} (hk:∀ c,f c≠ .nil→TW d (f c)) (h1:∃ c,f c≠ .nil) (Fp:d+1≤64):
  ∃ t',tu (yI f)=some t'∧TW (d+1) t'∧∀ s,PQ (d+1) s→look t' s=look (gE f) s:=by
 have run:∀ r,iA (yI f) (.L1 (yI f) ((tN f 16).1:Int) ((tN f 16).2:Int) ((16:Nat):Int))=some (.inr r)→tu (yI f)=some r:=by
  intro r hr
  refine bZ (Comes.next (c':= .L1 (yI f) ((tN f 0).1:Int) ((tN f 0).2:Int) ((0:Nat):Int)) (by simp only [iA];rfl) ?_)
  refine Comes.upto (fun i=>w9.L1 (yI f) ((tN f i).1:Int) ((tN f i).2:Int) (i:Int)) 16 (fun i hi=>?_) (Comes.stop hr)
  have hl:=Lz f i (by omega)
  simp only [iA]
  rw [decide_eq_true (by omega),cond_true,ah (by omega),show (yI f).1=List.ofFn f from rfl,uE f i hi,tN,dif_pos hi]
  by_cases hn:(f ⟨i,hi⟩).isNil=true
  ·rw [hn,Bool.not_true,cond_false,ah (by unfold bf;omega),if_pos rfl];rfl
  ·rw [if_neg hn]
   rw [Bool.not_eq_true] at hn
   rw [hn,Bool.not_false,cond_true,ah (by unfold bf;omega),ah (by unfold bf;omega)];rfl
 obtain ⟨_,l2,l3,l4⟩:=Lz f 16 (Nat.le_refl _)
 have h0:(tN f 16).1≠0:=fun h=>by
  obtain ⟨c,hc⟩:=h1
  exact hc (l3 h c c.2)
 obtain ⟨k1,k2,k3,k4,k5⟩:=l4 h0
 by_cases hm:1<(tN f 16).1
 ·refine ⟨gE f,run _ ?_, .br rfl hk (k5 hm),fun _ _=>rfl⟩
  simp only [iA]
  rw [decide_eq_false (by omega),cond_false,decide_eq_true (by omega),cond_true,Cn];rfl
 ·obtain ⟨t',g1,g2,g3⟩:=KE (p:=[g7 ((tN f 16).2:Int)]) (hk _ k3) (by simp) (by rw [ql];intro b hb;rw [List.mem_singleton.1 hb,DH (by omega)];exact k1) (by rw [List.length_singleton];omega) Fp
  refine ⟨t',run _ ?_,g2,fun s hs=>?_⟩
  ·simp only [iA]
   rw [decide_eq_false (by omega),cond_false,decide_eq_false (by omega),cond_false,ah (by omega),show (yI f).1=List.ofFn f from rfl,uE f _ k1,g1]
   rfl
  ·obtain ⟨c,r,rfl,hc,hr⟩:=hs.yd
   rw [g3,o8,yH hc]
   by_cases h:c.toNat=(tN f 16).2
   ·have e:c=g7 ((tN f 16).2:Int):=UInt8.toNat_inj.1 (by rw [DH (by omega)];exact h)
    rw [if_pos (by rw [← e];rfl)]
    show look (f ⟨_,k1⟩) r=_
    congr 2
    exact Fin.ext h.symm
   ·rw [if_neg (fun e=>h (by
     have e:[c]=[g7 ((tN f 16).2:Int)]:=e
     injection e with e
     rw [e,DH (by omega)]))]
    rw [k4 (Nat.le_antisymm (Nat.le_of_not_lt hm) (Nat.pos_of_ne_zero h0)) ⟨c.toNat,hc⟩ hc h,pE]
theorem TN.BJ {d:Nat} {f:Fin 16→af} (hk:∀ c,f c≠ .nil→TW d (f c)) (c:Fin 16):TN d (f c):=by
 by_cases h:f c= .nil
 ·exact .inl h
 ·exact .inr (hk _ h)
theorem No:∀ (n d:Nat) (t:af) (q:List UInt8),d<n→TW d t→PQ d q→d≤64→look t q≠none→∃ t',(∀ m,d<m→jC m t q=some t')∧TN d t'∧(T4 t→t'≠ .nil)∧∀ s,PQ d s→look t' s=if s=q then none else look t s
 | 0,d,t,q,h,_,_,_,_=>by omega
 | n+1,d,t,q,hd,ht,hq,Fp,hl=>by
  have ih:=No n
  have Yl:=hq.1
  have up:∀ r,(∀ m,d≤m→j9 (jC m) t q=some r)→∀ m,d<m→jC m t q=some r:=by
   intro r h m hm
   obtain ⟨m,rfl⟩:∃ k,m=k+1:=⟨m-1,by omega⟩
   exact h m (by omega)
  cases ht with
  | @leaf _ p v0 hp=>
   rw [jI] at hl
   have e:q=p:=by
    by_cases h:q=p
    ·exact h
    ·rw [if_neg h] at hl;exact absurd rfl hl
   subst e
   refine ⟨.nil,up _ fun m hm=>?_, .inl rfl,fun ⟨f,e⟩=>(by cases e),fun s _=>?_⟩
   ·unfold j9
    rw [show (jH q v0).isNil=false from rfl,ah rfl,show (jH q v0).at.aX=1 from rfl,decide_eq_true rfl,cond_true]
   ·rw [pE,jI]
    by_cases h:s=q
    ·rw [if_pos h]
    ·rw [if_neg h,if_neg h]
  | @ext d' _ p f he rU BF hb=>
   have Lc:0<p.length:=List.length_pos_iff.2 rU
   rw [kg] at hl
   have hpq:q.take p.length=p:=by
    by_cases h:q.take p.length=p
    ·exact h
    ·rw [if_neg h] at hl;exact absurd rfl hl
   obtain ⟨r,rfl⟩:=qE hpq
   rw [if_pos hpq,List.drop_left] at hl
   have AI:=hq
   rw [he,PQ.app] at AI
   obtain ⟨x,g1,g2,g3,g4⟩:=ih d' (gE f) r (by omega) hb AI.2 (by omega) hl
   have hx:TW d' x:=g2.resolve_left (g3 ⟨f,rfl⟩)
   obtain ⟨t',k1,k2,k3⟩:=KE hx rU BF he Fp
   refine ⟨t',up _ fun m hm=>?_, .inr k2,fun _=>k2.ne,fun s hs=>?_⟩
   ·unfold j9
    rw [show (mY p (gE f)).isNil=false from rfl,ah rfl,show (mY p (gE f)).at.aX=2 from rfl,decide_eq_false (by decide),cond_false,decide_eq_true rfl,cond_true,ah rfl,ah rfl,ah rfl,show (mY p (gE f)).at.bA=p from rfl,ah (by rw [List.length_append];omega),nD,List.drop_left]
    rw [show idx (mY p (gE f)).at.cg.1 (0:Int)=gE f from rfl,g1 m (by omega),Option.bind_some,k1]
    rfl
   ·rw [k3,kg]
    by_cases h:s.take p.length=p
    ·obtain ⟨z,rfl⟩:=qE h
     have Nk:=hs
     rw [he,PQ.app] at Nk
     rw [if_pos h,if_pos h,List.drop_left,g4 z Nk.2]
     by_cases hz:z=r
     ·rw [if_pos hz,if_pos (by rw [hz])]
     ·rw [if_neg hz,if_neg (fun e=>hz (List.append_cancel_left e))]
    ·rw [if_neg h,if_neg h,ite_self]
  | @br d' _ f he hk h2=>
   subst he
   obtain ⟨c,r,rfl,hc,hr⟩:=hq.yd
   rw [o8,yH hc] at hl
   have KY:f ⟨c.toNat,hc⟩≠ .nil:=fun e=>by rw [e,pE] at hl;exact hl rfl
   obtain ⟨x,g1,g2,g3,g4⟩:=ih d' (f ⟨c.toNat,hc⟩) r (by omega) (hk _ KY) hr (by omega) hl
   obtain ⟨t',k1,k2,k3⟩:=O8 (d:=d') (f:=vj f ⟨c.toNat,hc⟩ x) (fun i hi=>by
    unfold vj at hi ⊢
    by_cases h:i=⟨c.toNat,hc⟩
    ·rw [if_pos h] at hi ⊢;exact g2.resolve_left hi
    ·rw [if_neg h] at hi ⊢;exact hk i hi) (by
    obtain ⟨a,b,hab,ha,hb⟩:=h2
    by_cases h:a=⟨c.toNat,hc⟩
    ·exact ⟨b,by unfold vj;rw [if_neg (fun e=>hab (by rw [h,e]))];exact hb⟩
    ·exact ⟨a,by unfold vj;rw [if_neg h];exact ha⟩) (by omega)
   refine ⟨t',up _ fun m hm=>?_, .inr k2,fun _=>k2.ne,fun s hs=>?_⟩
   ·unfold j9
    have hi:idx (c::r) (0:Int)=c:=rfl
    rw [show (gE f).isNil=false from rfl,ah rfl,show (gE f).at.aX=3 from rfl,decide_eq_false (by decide),cond_false,decide_eq_false (by decide),cond_false,ah rfl]
    rw [List.length_cons,ah (by omega),ah (by omega),ah rfl,hi,ah (by omega),ah (by omega)]
    rw [show (sub (c::r) (1:Int) ((r.length+1:Nat):Int))=r from nD (c::r) 1,show (gE f).at.cg=yI f from rfl,show (yI f).1=List.ofFn f from rfl,uE f _ hc,g1 m (by omega),Option.bind_some,ah (by omega),xD f _ hc,k1]
    rfl
   ·rw [k3 s hs]
    obtain ⟨c',r',rfl,T6,hr'⟩:=hs.yd
    rw [o8,o8,yH T6]
    unfold vj
    by_cases h:c'=c
    ·subst h
     rw [if_pos rfl,g4 r' hr']
     by_cases h3:r'=r
     ·rw [if_pos h3,if_pos (by rw [h3])]
     ·rw [if_neg h3,if_neg (fun e=>h3 (by injection e))]
    ·rw [if_neg (fun e=>h (by rw [Fin.mk.injEq,UInt8.toNat_inj] at e;exact e)),if_neg (fun e=>h (by injection e))]
theorem Rl {d:Nat} {t:af} {q:List UInt8} (ht:TW d t) (hq:PQ d q) (Fp:d≤64) (hl:look t q≠none):∃ t',uz t q=some t'∧TN d t'∧∀ s,PQ d s→look t' s=if s=q then none else look t s:=by
 obtain ⟨t',h1,h2,_,h3⟩:=No (d+1) d t q (by omega) ht hq Fp hl
 exact ⟨t',jY (d+1) fun m hm=>h1 m (by omega),h2,h3⟩
end Go.Proofs.YtlfjfoknbjcncaaGreat.K
namespace Go.Proofs.YtlfjfoknbjcncaaGreat.K
open Go
set_option linter.unusedVariables false
set_option linter.unusedSimpArgs false
theorem O9 {v d:Nat} {l:List In} (h:WF v d l) (h2:2≤l.length) (h0:mE l=0):∃ a b:Nat,a<b∧b<16∧rH l a≠[]∧rH l b≠[]:=by
 have hd:0<d:=by have:=h.GL h2;omega
 have hl:l≠[]:=by intro e;rw [e] at h2;simp at h2
 have hm:idx l (0:Int)∈l:=eg l (i:=0) (by omega)
 have hex:∃ y∈l,(y.av.getD 0 0).toNat≠((idx l (0:Int)).av.getD 0 0).toNat:=by
  by_cases hc:∃ y∈l,(y.av.getD 0 0).toNat≠((idx l (0:Int)).av.getD 0 0).toNat
  ·exact hc
  ·exfalso
   have:1≤mE l:=KC hl fun x hx=>⟨by rw [h.len x hx];exact hd,T2 (by rw [h.len x hx];exact hd) (by unfold p0;rw [h.len _ hm];exact hd) (by
    by_cases e:(x.av.getD 0 0).toNat=((idx l (0:Int)).av.getD 0 0).toNat
    ·exact e
    ·exact absurd ⟨x,hx,e⟩ hc)⟩
   omega
 obtain ⟨y,hy,hne⟩:=hex
 have b1:=zb (h.Lw _ hm) 0
 have b2:=zb (h.Lw _ hy) 0
 have n1:rH l ((idx l (0:Int)).av.getD 0 0).toNat≠[]:=List.ne_nil_of_mem (List.mem_filter.2 ⟨hm,by simp⟩)
 have n2:rH l (y.av.getD 0 0).toNat≠[]:=List.ne_nil_of_mem (List.mem_filter.2 ⟨hy,by simp⟩)
 by_cases hlt:(y.av.getD 0 0).toNat<((idx l (0:Int)).av.getD 0 0).toNat
 ·exact ⟨_,_,hlt,b1,n2,n1⟩
 ·exact ⟨_,_,by omega,b2,n1,n2⟩
end Go.Proofs.YtlfjfoknbjcncaaGreat.K
namespace Go.Proofs.YtlfjfoknbjcncaaGreat.K
open Go
set_option linter.unusedVariables false
set_option linter.unusedSimpArgs false
structure WG (v d:Nat) (l:List In):Prop where
 wf:WF v d l
 ne:∀ x∈l,x.aq≠[]
theorem WG.BJ {v d:Nat} {l:List In} (h:WG v d l) (hd:0<d) (c:Nat):WG v (d-1) (rest (rH l c) 1) where
 wf:=h.wf.BJ hd c
 ne x hx:=by
  obtain ⟨y,hy,rfl⟩:=List.mem_map.1 hx
  exact h.ne y (List.mem_filter.1 hy).1
theorem WG.ext {v d:Nat} {l:List In} (h:WG v d l):WG v (d-mE l) (rest l (mE l)) where
 wf:=h.wf.ext
 ne x hx:=by
  obtain ⟨y,hy,rfl⟩:=List.mem_map.1 hx
  exact h.ne y hy
theorem xF {v d:Nat} {l:List In} (h:WF v d l):gD l=qC l:=by
 unfold gD
 rw [PT h];rfl
theorem zl:gD []=[]:=by
 rw [xF (v:=0) (d:=0) ⟨by simp,by simp,by simp, .nil,Nat.zero_le _,Nat.zero_le _,Nat.zero_le _⟩];rfl
theorem KF:kQ []=[]:=rfl
theorem pF {v d:Nat} {l:List In} (h:WF v d l) (hl:l≠[]):1≤(gD l).length∧(gD l).length≤532+v:=by
 have h2:=W2 h hl
 rw [xF h];unfold qC
 rw [if_neg hl];exact ⟨h2.1,h2.2.1⟩
theorem Np {v d:Nat} {l:List In} (h:WF v d l):(gD l).length≤532+v:=by
 by_cases hl:l=[]
 ·rw [hl,zl];simp
 ·exact (pF h hl).2
theorem BL {s:List UInt8} (h:1≤s.length):kQ s≠[]:=by
 intro e
 have e2:=congrArg List.length e
 unfold kQ at e2
 split at e2
 ·rw [zi] at e2;simp at e2
 ·simp at e2;rw [e2] at h;simp at h
theorem BM {l:List In} {n:Nat}:rest l n=[]↔l=[]:=by
 unfold rest;exact List.map_eq_nil_iff
theorem EI {v d:Nat} {l:List In} (h:WG v d l) (hl:l≠[]):∀ k∈(cC l).aC.1,k=[]∨∃ d' l',d'<d∧WG v d' l'∧k=kQ (gD l'):=by
 intro k hk
 unfold cC at hk
 by_cases h1:l.length=1
 ·rw [if_pos h1] at hk
  exact .inl (List.eq_of_mem_replicate hk)
 ·rw [if_neg h1] at hk
  have hpos:0<l.length:=List.length_pos_iff.2 hl
  have hlt:=h.wf.GL (by omega)
  by_cases h2:0<mE l
  ·rw [if_pos h2] at hk
   rcases List.mem_or_eq_of_mem_set hk with hk | hk
   ·exact .inl (List.eq_of_mem_replicate hk)
   ·exact .inr ⟨_,_,by omega,h.ext,hk⟩
  ·rw [if_neg h2] at hk
   have hk:k∈(List.range 16).map fun c=>kQ (gD (rest (rH l c) 1)):=hk
   obtain ⟨c,_,rfl⟩:=List.mem_map.1 hk
   exact .inr ⟨_,_,by omega,h.BJ (by omega) c,rfl⟩
theorem Nq {α:Type} (p:α→Bool) (l:List α) (i j:Nat) (hij:i<j) (hj:j<l.length) (h1:p (l[i]'(by omega))=true) (h2:p l[j]=true):2≤(l.filter p).length:=by
 rw [← List.take_append_drop j l,List.filter_append,List.length_append]
 have a:1≤((l.take j).filter p).length:=List.length_pos_iff.2 (List.ne_nil_of_mem (List.mem_filter.2 ⟨List.mem_take_iff_getElem.2 ⟨i,by omega,rfl⟩,h1⟩))
 have b:1≤((l.drop j).filter p).length:=List.length_pos_iff.2 (List.ne_nil_of_mem (List.mem_filter.2 ⟨by rw [List.drop_eq_getElem_cons hj];exact List.mem_cons_self ..,h2⟩))
 omega
theorem LA {v d:Nat} {l:List In} (h:WG v d l) (hl:l≠[]):mh (cC l)=true:=by
 have hpos:0<l.length:=List.length_pos_iff.2 hl
 have h0:=eg l (i:=0) hpos
 unfold cC
 by_cases h1:l.length=1
 ·rw [if_pos h1]
  have hv:=h.wf.val _ h0
  have hn:=h.ne _ h0
  have ht:=h.wf.top
  have:ve ⟨1,p0 l,(idx l (0:Int)).aq,aD.rep 16 []⟩=0:=rfl
  unfold mh
  rw [this]
  show (((!((idx l (0:Int)).aq==[]))&&decide (((idx l (0:Int)).aq.length:Int)≤65552))&&true)=true
  have hv:(idx l (0:Int)).aq.length≤v:=hv
  rw [decide_eq_true (by omega)]
  have hn:(idx l (0:Int)).aq≠[]:=hn
  simpa using hn
 ·rw [if_neg h1]
  have hlt:=h.wf.GL (by omega)
  by_cases h2:0<mE l
  ·rw [if_pos h2]
   have he:=h.ext
   have hk:=BL (pF he.wf (fun e=>hl (BM.1 e))).1
   have hp:=h.wf.len _ h0
   generalize kQ (gD (rest l (mE l)))=k at hk ⊢
   have kc:ve ⟨2,(p0 l).take (mE l),[],(aD.rep 16 []).put 0 k⟩=1:=by
    unfold ve
    have:(((aD.rep 16 ([]:List UInt8)).put 0 k).1)=k::List.replicate 15 []:=rfl
    rw [this,List.filter_cons,if_pos (by simpa [qA] using hk)];rfl
   have hi:idx (((aD.rep 16 ([]:List UInt8)).put 0 k).1) (0:Int)=k:=rfl
   have Fq:((p0 l).take (mE l)).length=mE l:=by
    have:(p0 l).length=d:=hp
    rw [List.length_take];omega
   unfold mh
   rw [kc]
   show (((true&&decide ((0:Int)<(((p0 l).take (mE l)).length:Int)))&&true)&&(!(idx (((aD.rep 16 ([]:List UInt8)).put 0 k).1) (0:Int)==[])))=true
   rw [hi,Fq,decide_eq_true (p:=(0:Int)<(mE l:Int)) (by omega)]
   simpa using hk
  ·rw [if_neg h2]
   obtain ⟨a,b,hab,hb,na,nb⟩:=O9 h.wf (by omega) (by omega)
   have kc:2≤ve ⟨3,[],[],sr l⟩:=by
    unfold ve
    refine Nq qA _ a b hab (by rw [(sr l).2];exact hb) ?_ ?_
    ·have:(sr l).1[a]'(by rw [(sr l).2];omega)=kQ (gD (rest (rH l a) 1)):=by unfold sr;simp
     rw [this]
     simpa [qA] using BL (pF (h.BJ (by omega) a).wf (fun e=>na (BM.1 e))).1
    ·have:(sr l).1[b]'(by rw [(sr l).2];omega)=kQ (gD (rest (rH l b) 1)):=by unfold sr;simp
     rw [this]
     simpa [qA] using BL (pF (h.BJ (by omega) b).wf (fun e=>nb (BM.1 e))).1
   unfold mh
   show ((true&&true)&&decide ((1:Int)<(ve ⟨3,[],[],sr l⟩:Int)))=true
   rw [decide_eq_true (p:=(1:Int)<_) (by omega)]
   rfl
def yes (_:List UInt8):Bool:=true
theorem su {v d:Nat} {l:List In} (h:WG v d l) (hl:l≠[]):vg yes (cC l)=true:=by
 unfold vg
 rw [LA h hl,(qD h.wf hl).2.1]
 simp [yes]
theorem Af {v d:Nat} {l:List In} (h:WG v d l) (hl:l≠[]) (hg:∀ k∈(cC l).aC.1,good k):vW (cC l)=bI (gk (cC l)):=by
 have h1:=Ko yes (cC l) (su h hl) hg (by have:=(qD h.wf hl).2.2.1;have:=h.wf.top;omega)
 rw [W1 h.wf hl] at h1
 exact Option.some.inj h1
theorem KG (v:Nat):∀ (n d:Nat) (l:List In),d<n→WG v d l→good (kQ (gD l))∧∀ m,d+1<m→ee m (kQ (gD l))=some true
 | 0,d,l,h,_=>by omega
 | n+1,d,l,hd,h=>by
  have ih:=KG v n
  have up:∀ s,(s=[]∨s.length=32)→∀ m,d+1<m→ee m s=some true:=by
   intro s hs m hm
   obtain ⟨m,rfl⟩:∃ k,m=k+1:=⟨m-1,by omega⟩
   show eZ (ee m) s=_
   unfold eZ
   rw [Cj hs,cond_true]
  by_cases hl:l=[]
  ·subst hl
   rw [zl,KF]
   exact ⟨.inl rfl,up _ (.inl rfl)⟩
  ·have hk:∀ k∈(cC l).aC.1,good k∧∀ m,d+1≤m→ee m k=some true:=by
    intro k hk
    rcases EI h hl k hk with rfl | ⟨d',l',h1,h2,rfl⟩
    ·refine ⟨.inl rfl,fun m hm=>?_⟩
     obtain ⟨m,rfl⟩:∃ k,m=k+1:=⟨m-1,by omega⟩
     show eZ (ee m) []=_
     unfold eZ
     rw [Cj (.inl rfl),cond_true]
    ·obtain ⟨g1,g2⟩:=ih d' l' (by omega) h2
     exact ⟨g1,fun m hm=>g2 m (by omega)⟩
   have hg:∀ k∈(cC l).aC.1,good k:=fun k hk'=>(hk k hk').1
   have e:gD l=bI (gk (cC l)):=by
    rw [xF h.wf];unfold qC
    rw [if_neg hl];exact Af h hl hg
   have hlen:=pF h.wf hl
   have PU:=h.wf.top
   unfold kQ
   by_cases M1:32≤(gD l).length
   ·rw [if_pos M1]
    exact ⟨.inr (.inl (zi _)),up _ (.inr (zi _))⟩
   ·rw [if_neg M1]
    obtain ⟨o1,o2,o3,o4⟩:=qD h.wf hl
    obtain ⟨r1,r2,r3⟩:=Ch (cC l) hg (rN o2).2 (by omega)
    refine ⟨.inr (.inr ⟨by omega,_,r1,e.symm,r3⟩),fun m hm=>?_⟩
    obtain ⟨m,rfl⟩:∃ k,m=k+1:=⟨m-1,by omega⟩
    have hn:=Jo (su h hl) hg
    show eZ (ee m) (gD l)=_
    have hG:tq (ee m) (gD l)=some (cC l,0):=by
     have:=TI (x:=gk (cC l)) (s:=gD l) (self:=ee m) (R:=yes) r1 e.symm (by omega) (by
      rw [hn];exact fun k hk'=>(hk k hk').2 m (by omega)) (by rw [hn];exact fun k hk' _=>hg k hk') (by rw [e];exact z8 r1 (by omega) (by omega))
     rw [this,if_pos (IF.2 ⟨by rw [hn];exact su h hl,by rw [hn];exact e.symm⟩),hn]
    exact QZ _ (fun h0=>by rcases h0 with h0 | h0;(rw [h0] at hlen;simp at hlen);omega) hG (by rw [decide_eq_true (by omega)];rfl)
end Go.Proofs.YtlfjfoknbjcncaaGreat.K
namespace Go.Proofs.YtlfjfoknbjcncaaGreat.K
open Go
set_option linter.unusedVariables false
set_option linter.unusedSimpArgs false
theorem zm {v d:Nat} {l:List In} (h:WG v d l) (hl:l≠[]):∀ k∈(cC l).aC.1,jd k=some true∧good k:=by
 intro k hk
 rcases EI h hl k hk with rfl | ⟨d',l',h1,h2,rfl⟩
 ·exact ⟨jY 1 fun m hm=>by
   obtain ⟨m,rfl⟩:∃ k,m=k+1:=⟨m-1,by omega⟩
   show eZ (ee m) []=_
   unfold eZ
   rw [Cj (.inl rfl),cond_true], .inl rfl⟩
 ·obtain ⟨g1,g2⟩:=KG v (d'+1) d' l' (by omega) h2
  exact ⟨jY (d'+2) fun m hm=>g2 m (by omega),g1⟩
theorem T7 {v d:Nat} {l:List In} (h:WG v d l) (hl:l≠[]):Bh (cC l)=some (gD l,0):=by
 obtain ⟨o1,o2,o3,o4⟩:=qD h.wf hl
 have PU:=h.wf.top
 have hp:=(rN o2).2
 have:=M3 jd yes (cC l) (fun k hk=>(zm h hl k hk).1) (fun k hk _=>(zm h hl k hk).2) (by omega) (by omega)
 rw [if_pos (su h hl), ← Af h hl (fun k hk=>(zm h hl k hk).2)] at this
 rw [xF h.wf];unfold qC
 rw [if_neg hl];exact this
theorem Pa {v d:Nat} {l:List In} (h:WG v d l) (hl:l≠[]):rq (cC l)=some 0:=by
 have hp:=(rN (qD h.wf hl).2.1).2
 have:=zd jd yes (cC l) (fun k hk=>(zm h hl k hk).1) (by omega)
 rw [if_pos (su h hl)] at this
 exact this
def ow (d:Nat) (t:af) (l:List In):Prop:=∀ s w,PQ d s→(look t s=some w↔(⟨s,w⟩:In)∈l)
theorem In.eta (x:In):x=⟨x.av,x.aq⟩:=by cases x;rfl
theorem TW.has {d:Nat} {t:af} (h:TW d t):∃ s w,PQ d s∧look t s=some w:=by
 induction h with
 | @leaf d p v hp=>exact ⟨p,v,hp,by rw [jI,if_pos rfl]⟩
 | @ext d e p f he rU BF _ ih=>
  obtain ⟨s,w,h1,h2⟩:=ih
  exact ⟨p++s,w,by rw [he,PQ.app];exact ⟨BF,h1⟩,by rw [kg,List.take_left,if_pos rfl,List.drop_left,h2]⟩
 | @br d e f he hk h2 ih=>
  obtain ⟨a,b,hab,ha,hb⟩:=h2
  obtain ⟨s,w,h1,h3⟩:=ih a ha
  have T8:(UInt8.ofNat a.1).toNat=a.1:=by rw [UInt8.toNat_ofNat'];have:=a.2;omega
  refine ⟨UInt8.ofNat a.1::s,w,by rw [he,PQ.cons,T8];exact ⟨a.2,h1⟩,?_⟩
  rw [o8,yH (by rw [T8];exact a.2)]
  simp only [T8]
  exact h3
theorem WF.PQ {v d:Nat} {l:List In} (h:WF v d l) {x:In} (hx:x∈l):K.PQ d x.av:=⟨h.len x hx,h.Lw x hx⟩
theorem ow.mem {v d:Nat} {t:af} {l:List In} (h:ow d t l) (hw:WF v d l) {x:In} (hx:x∈l):look t x.av=some x.aq:=
 (h x.av x.aq (hw.PQ hx)).2 (by rw [← In.eta];exact hx)
theorem Fx {v d:Nat} {l:List In} (hw:WF v d l) (h:ow d .nil l):l=[]:=by
 rw [List.eq_nil_iff_forall_not_mem]
 intro x hx
 have:=h.mem hw hx
 rw [pE] at this;cases this
theorem DJ {v d:Nat} {l:List In} {p w:List UInt8} (hw:WF v d l) (hp:PQ d p) (h:ow d (jH p w) l):l=[⟨p,w⟩]:=by
 have hall:∀ x∈l,x=⟨p,w⟩:=by
  intro x hx
  have:=h.mem hw hx
  rw [jI] at this
  by_cases e:x.av=p
  ·rw [if_pos e] at this
   rw [In.eta x,e]
   exact congrArg _ (Option.some.inj this).symm
  ·rw [if_neg e] at this;cases this
 have hin:(⟨p,w⟩:In)∈l:=(h p w hp).1 (by rw [jI,if_pos rfl])
 cases l with
 | nil=>cases hin
 | cons x r=>
  rw [hall x (List.mem_cons_self ..)]
  cases r with
  | nil=>rfl
  | cons y r=>
   exfalso
   have:=(List.pairwise_cons.1 hw.nd).1 y (List.mem_cons_self ..)
   rw [hall x (List.mem_cons_self ..),hall y (List.mem_cons_of_mem _ (List.mem_cons_self ..))] at this
   exact this rfl
theorem Rm {v d:Nat} {l:List In} {a b:In} (ha:a∈l) (hb:b∈l) (hne:a≠b):2≤l.length:=by
 cases l with
 | nil=>cases ha
 | cons x r=>cases r with
  | nil=>
   rw [List.mem_singleton] at ha hb
   exact absurd (ha.trans hb.symm) hne
  | cons y q=>simp
theorem PY {d:Nat} {f:Fin 16→af} (h:TW d (gE f)):∃ a b s r w z,(a:UInt8)≠b∧PQ d (a::s)∧PQ d (b::r)∧look (gE f) (a::s)=some w∧look (gE f) (b::r)=some z:=by
 generalize e:gE f=t at h
 cases h with
 | leaf _=>cases e
 | ext _ _ _ _=>cases e
 | @br d' _ g he hk h2=>
  have hg:f=g:=by unfold gE at e;injection e
  subst hg
  obtain ⟨a,b,hab,ha,hb⟩:=h2
  obtain ⟨s,w,h1,h2⟩:=(hk a ha).has
  obtain ⟨r,z,h3,h4⟩:=(hk b hb).has
  have WC:(UInt8.ofNat a.1).toNat=a.1:=by rw [UInt8.toNat_ofNat'];have:=a.2;omega
  have WD:(UInt8.ofNat b.1).toNat=b.1:=by rw [UInt8.toNat_ofNat'];have:=b.2;omega
  refine ⟨UInt8.ofNat a.1,UInt8.ofNat b.1,s,r,w,z,fun e=>hab (Fin.ext (by rw [← WC, ← WD,e])),by rw [he,PQ.cons,WC];exact ⟨a.2,h1⟩,by rw [he,PQ.cons,WD];exact ⟨b.2,h3⟩,?_,?_⟩
  ·rw [o8,yH (by rw [WC];exact a.2)];simp only [WC];exact h2
  ·rw [o8,yH (by rw [WD];exact b.2)];simp only [WD];exact h4
theorem LB {v d:Nat} {l:List In} (hw:WF v d l) {p s r w z:List UInt8} {a b:UInt8} (hne:a≠b) (h1:(⟨p++a::s,w⟩:In)∈l) (h2:(⟨p++b::r,z⟩:In)∈l) (hall:∀ x∈l,x.av.take p.length=p):mE l=p.length∧(p0 l).take p.length=p∧2≤l.length:=by
 have hl:l≠[]:=List.ne_nil_of_mem h1
 have h0:=eg l (i:=0) (List.length_pos_iff.2 hl)
 have rU:(p0 l).take p.length=p:=hall _ h0
 have hlen:∀ x∈l,p.length≤x.av.length:=by
  intro x hx
  have:=congrArg List.length (hall x hx)
  rw [List.length_take] at this;omega
 have hge:p.length≤mE l:=KC hl fun x hx=>⟨hlen x hx,by rw [hall x hx,rU]⟩
 have hle:mE l≤p.length:=by
  refine Nat.le_of_not_lt fun hlt=>hne ?_
  have e1:=(sq h1).2.trans (sq h2).2.symm
  have e2:=congrArg (List.take (p.length+1)) e1
  rw [List.take_take,List.take_take,Nat.min_eq_left (by omega)] at e2
  have e3:∀ (c:UInt8) (u:List UInt8),(p++c::u).take (p.length+1)=p++[c]:=by
   intro c u
   rw [List.take_append,List.take_of_length_le (by omega),show p.length+1-p.length=1 by omega];rfl
  have e2:(p++a::s).take (p.length+1)=(p++b::r).take (p.length+1):=e2
  rw [e3,e3] at e2
  have:=List.append_cancel_left e2
  injection this
 refine ⟨by omega,rU,Rm (v:=v) (d:=d) h1 h2 fun e=>hne ?_⟩
 have:=congrArg In.av e
 have:=List.append_cancel_left this
 injection this
theorem Fy {v d d':Nat} {l:List In} {p:List UInt8} {f:Fin 16→af} (hw:WF v d l) (he:d=p.length+d') (rU:p≠[]) (BF:right p=true) (hb:TW d' (gE f)) (h:ow d (mY p (gE f)) l):
  mE l=p.length∧(p0 l).take p.length=p∧2≤l.length∧ow d' (gE f) (rest l p.length):=by
 have hall:∀ x∈l,x.av.take p.length=p:=by
  intro x hx
  have:=h.mem hw hx
  rw [kg] at this
  by_cases e:x.av.take p.length=p
  ·exact e
  ·rw [if_neg e] at this;cases this
 have hin:∀ s w,PQ d' s→(look (gE f) s=some w↔(⟨p++s,w⟩:In)∈l):=by
  intro s w hs
  rw [← h (p++s) w (by rw [he,PQ.app];exact ⟨BF,hs⟩),kg,List.take_left,if_pos rfl,List.drop_left]
 obtain ⟨a,b,s,r,w,z,hne,q1,q2,k1,k2⟩:=PY hb
 obtain ⟨c1,c2,c3⟩:=LB hw hne ((hin _ _ q1).1 k1) ((hin _ _ q2).1 k2) hall
 refine ⟨c1,c2,c3,fun s w hs=>?_⟩
 rw [hin s w hs]
 unfold rest
 rw [List.mem_map]
 constructor
 ·intro hm
  exact ⟨_,hm,by simp⟩
 ·rintro ⟨x,hx,e⟩
  injection e with e1 e2
  have Ja:x=⟨p++s,w⟩:=by
   rw [In.eta x, ← List.take_append_drop p.length x.av,hall x hx,e1,e2]
  rw [← Ja];exact hx
theorem IQ {v d:Nat} {l:List In} {f:Fin 16→af} (hw:WF v (d+1) l) (hb:TW (d+1) (gE f)) (h:ow (d+1) (gE f) l):
  mE l=0∧2≤l.length∧∀ c (hc:c<16),ow d (f ⟨c,hc⟩) (rest (rH l c) 1):=by
 obtain ⟨a,b,s,r,w,z,hne,q1,q2,k1,k2⟩:=PY hb
 obtain ⟨c1,c2,c3⟩:=LB (p:=[]) hw hne ((h _ _ q1).1 k1) ((h _ _ q2).1 k2) (fun x _=>rfl)
 refine ⟨c1,c3,fun c hc s w hs=>?_⟩
 have Pb:(UInt8.ofNat c).toNat=c:=by rw [UInt8.toNat_ofNat'];omega
 have:=h (UInt8.ofNat c::s) w (by rw [PQ.cons,Pb];exact ⟨hc,hs⟩)
 rw [o8,yH (by rw [Pb];exact hc)] at this
 simp only [Pb] at this
 rw [this]
 unfold rest
 rw [List.mem_map]
 constructor
 ·intro hm
  exact ⟨_,List.mem_filter.2 ⟨hm,by simp [Pb]⟩,rfl⟩
 ·rintro ⟨x,hx,e⟩
  injection e with e1 e2
  obtain ⟨hx1,Ja⟩:=List.mem_filter.1 hx
  obtain ⟨c',r',e3,_,_⟩:=(hw.PQ hx1).yd
  rw [decide_eq_true_eq,e3] at Ja
  have T6:c'=UInt8.ofNat c:=UInt8.toNat_inj.1 (by rw [Pb];exact Ja)
  rw [e3] at e1
  have hx3:x=⟨UInt8.ofNat c::s,w⟩:=by
   rw [In.eta x,e3,e2,T6, ← e1];rfl
  rw [← hx3];exact hx1
theorem Fz (self:Tree→Option (List UInt8)) (k:Int) (p v r:List UInt8) (f:Fin 16→af) (g:Nat→List UInt8) (hp:p.length≤1000000) (hs:∀ c (h:c<16),self ⟨f ⟨c,h⟩⟩=some (g c)):
  gW self (.node k p v f r)=some ⟨k,p,v,tM g 16⟩:=by
 refine bZ (Comes.next (c':= .L1 ((0:Nat):Int) p (tM g 0)) ?_ ?_)
 ·simp only [iL]
  rw [show (af.node k p v f r).isNil=false from rfl,ah rfl,ah rfl,show (af.node k p v f r).at.bA=p from rfl,Cl p hp,Option.bind_some,ah rfl,ah rfl,Lx]
  rfl
 ·refine Comes.upto (fun i=>tv.L1 (i:Int) p (tM g i)) 16 (fun i hi=>?_) (Comes.stop ?_)
  ·simp only [iL]
   rw [decide_eq_true (by omega),cond_true,ah (by omega),show (af.node k p v f r).at.cg.1=List.ofFn f from rfl,uE f i hi,hs i hi,Option.bind_some,ah (by omega),ah (by unfold bf;omega),Fv g hi]
   rfl
  ·simp only [iL]
   rw [decide_eq_false (by omega),cond_false]
   rfl
theorem Rn:tM (fun _=>[]) 16=aD.rep 16 []:=Subtype.ext rfl
theorem Ro (k:List UInt8):tM (fun c=>if c=0 then k else []) 16=(aD.rep 16 []).put 0 k:=Subtype.ext rfl
def Kt (self:Tree→Option (List UInt8)) (v d:Nat):Prop:=self ⟨.nil⟩=some []∧∀ d' t' l',d'<d→TN d' t'→WG v d' l'→ow d' t' l'→self ⟨t'⟩=some (kQ (gD l'))
theorem Nr {self:Tree→Option (List UInt8)} {v d:Nat} {t:af} {l:List In} (hk:Kt self v d) (ht:TW d t) (hw:WG v d l) (hs:ow d t l):gW self t=some (cC l)∧l≠[]∧t.at.aX≠ -1:=by
 obtain ⟨W3,hk⟩:=hk
 cases ht with
 | @leaf _ p w hp=>
  have hl:=DJ hw.wf hp hs
  have Fq:=hp.1
  have T3:=hw.wf.dep
  refine ⟨?_,by rw [hl];simp,show (1:Int)≠ -1 by decide⟩
  have:=Fz self 1 p w [] (fun _=> .nil) (fun _=>[]) (by omega) (fun c h=>W3)
  rw [show gW self (jH p w)=some ⟨1,p,w,tM (fun _=>[]) 16⟩ from this,Rn,hl]
  rfl
 | @ext d' _ p f he rU BF hb=>
  obtain ⟨c1,c2,c3,c4⟩:=Fy hw.wf he rU BF hb hs
  have Lc:0<p.length:=List.length_pos_iff.2 rU
  have T3:=hw.wf.dep
  have hwk:WG v d' (rest l p.length):=by
   have:=hw.ext
   rw [c1,show d-p.length=d' by omega] at this
   exact this
  have r1:=hk d' (gE f) (rest l p.length) (by omega) (.inr hb) hwk c4
  refine ⟨?_,(by intro e;rw [e] at c3;simp at c3),show (2:Int)≠ -1 by decide⟩
  have:=Fz self 2 p [] [] (one (gE f)) (fun c=>if c=0 then kQ (gD (rest l p.length)) else []) (by omega) (fun c h=>by
   by_cases h0:c=0
   ·subst h0
    exact r1
   ·unfold one
    rw [if_neg (fun e=>h0 (by have:=congrArg Fin.val e;exact this)),if_neg h0]
    exact W3)
  rw [show gW self (mY p (gE f))=_ from this,Ro]
  unfold cC
  rw [if_neg (by omega),if_pos (by omega),c1,c2]
 | @br d' _ f he hkk h2=>
  subst he
  have hb:TW (d'+1) (gE f):= .br rfl hkk h2
  obtain ⟨c1,c2,c3⟩:=IQ hw.wf hb hs
  refine ⟨?_,(by intro e;rw [e] at c2;simp at c2),show (3:Int)≠ -1 by decide⟩
  have:=Fz self 3 [] [] [] f (fun c=>kQ (gD (rest (rH l c) 1))) (by simp) (fun c h=>hk d' (f ⟨c,h⟩) (rest (rH l c) 1) (by omega) (TN.BJ hkk _) (hw.BJ (by omega) c) (c3 c h))
  rw [show gW self (gE f)=_ from this]
  unfold cC
  rw [if_neg (by omega),if_neg (by omega)]
  exact congrArg (fun x=>some (⟨3,[],[],x⟩:Node)) (Subtype.ext (IM _))
theorem PZ {self:Tree→Option (List UInt8)} {v d:Nat} {t:af} {l:List In} (hk:Kt self v d) (ht:TN d t) (hw:WG v d l) (hs:ow d t l):ke self ⟨t⟩=some (gD l)∧nC self ⟨t⟩=some (kQ (gD l)):=by
 rcases ht with rfl | ht
 ·have hl:=Fx hw.wf hs
  subst hl
  rw [zl]
  exact ⟨rfl,rfl⟩
 ·obtain ⟨h1,h2,h3⟩:=Nr hk ht hw hs
  have hn:=ht.isNil
  have hE:ke self ⟨t⟩=some (gD l):=by
   unfold ke
   show gO (t.isNil=false→t.isNil=false) (bif t.isNil||decide (t.at.aX= -1) then _ else _)=_
   rw [ah (fun h=>h),hn,decide_eq_false h3]
   show (gW self t).bind _=_
   rw [h1,Option.bind_some,T7 hw h2]
   rfl
  refine ⟨hE,?_⟩
  unfold nC
  have hle:=Np hw.wf
  have PU:=hw.wf.top
  show gO ((!t.isNil)=true→t.isNil=false) (bif (!t.isNil)&&decide (t.at.aX= -1) then _ else _)=_
  rw [ah (by intro _;exact hn),decide_eq_false h3,Bool.and_false,cond_false,hE,Option.bind_some,Rh _ (by omega)]
  rfl
theorem Ns:∀ m,0<m→jD m ⟨.nil⟩=some []:=by
 intro m hm
 obtain ⟨m,rfl⟩:∃ k,m=k+1:=⟨m-1,by omega⟩
 rfl
theorem Nt (v:Nat):∀ (n d:Nat),d<n→∀ (t:af) (l:List In),TN d t→WG v d l→ow d t l→∀ m,d+1<m→jD m ⟨t⟩=some (kQ (gD l))
 | 0,d,h,_,_,_,_,_=>by omega
 | n+1,d,hd,t,l,ht,hw,hs=>by
  intro m hm
  obtain ⟨m,rfl⟩:∃ k,m=k+1:=⟨m-1,by omega⟩
  exact (PZ (self:=jD m) ⟨Ns m (by omega),fun d' t' l' hd' a b c=>Nt v n d' (by omega) t' l' a b c m (by omega)⟩ ht hw hs).2
theorem EJ {v d:Nat} {t:af} {l:List In} (ht:TN d t) (hw:WG v d l) (hs:ow d t l):gB ⟨t⟩=some (kQ (gD l)):=jY (d+2) fun m hm=>Nt v (d+1) d (by omega) t l ht hw hs m (by omega)
theorem P0 (v d:Nat):Kt gB v d:=⟨jY 1 fun m hm=>Ns m (by omega),fun d' t' l' _ a b c=>EJ a b c⟩
theorem Nu {v d:Nat} {t:af} {l:List In} (ht:TN d t) (hw:WG v d l) (hs:ow d t l):jP ⟨t⟩=some (gD l):=(PZ (P0 v d) ht hw hs).1
theorem KH {v d:Nat} {t:af} {l:List In} (ht:TW d t) (hw:WG v d l) (hs:ow d t l):pP t=some (cC l)∧l≠[]:=by
 obtain ⟨h1,h2,_⟩:=Nr (P0 v d) ht hw hs
 exact ⟨h1,h2⟩
end Go.Proofs.YtlfjfoknbjcncaaGreat.K
namespace Go.Proofs.YtlfjfoknbjcncaaGreat.K
open Go
set_option linter.unusedVariables false
set_option linter.unusedSimpArgs false
def KI (y:Item):Bool:=y.bQ&&decide (31<(bI y).length)
theorem WE {n:Nat} {y:Item} {self:List UInt8→Option Bool} {R:List UInt8→Bool} (h:RT n y) (hl:(bI y).length≤2 ^ 32) (dZ:self (kO y)=some (R (kO y))):
  pz self y=some (if KI y=true then ([],false) else (kO y,R (kO y))):=by
 refine bZ ?_
 have hJ:∀ k,self k=some (R k)→Comes (ju self y) (.J1 k) (k,R k):=by
  intro k hk
  refine Comes.stop ?_
  simp only [ju]
  rw [hk];rfl
 cases hy:y.bQ with
 | false=>
  have e:kO y=y.fS:=by unfold kO;rw [if_neg (by rw [hy];simp)]
  rw [if_neg (by unfold KI;rw [hy];simp)]
  refine Comes.next ?_ (hJ _ dZ)
  simp only [ju]
  rw [hy,cond_false,e]
 | true=>
  have e:kO y=bI y:=by unfold kO;rw [if_pos hy]
  by_cases hb:31<(bI y).length
  ·rw [if_pos (by unfold KI;rw [hy,decide_eq_true hb];rfl)]
   refine Comes.stop ?_
   simp only [ju]
   rw [hy,cond_true,IA h hl,Option.bind_some,decide_eq_true (by omega)]
   rfl
  ·rw [if_neg (by unfold KI;rw [hy,decide_eq_false hb];simp)]
   refine Comes.next ?_ (hJ _ dZ)
   simp only [ju]
   rw [hy,cond_true,IA h hl,Option.bind_some,decide_eq_false (by omega),cond_false,e]
theorem T9 {y:Item} (hb:KI y=true) (hg:good (kO y)):dz (kO y)≠y:=by
 unfold KI at hb
 rw [Bool.and_eq_true,decide_eq_true_eq] at hb
 have e:kO y=bI y:=by unfold kO;rw [if_pos hb.1]
 rw [e] at hg ⊢
 have M1:(bI y).length=32:=by
  rcases hg with h | h | ⟨h,_⟩
  ·exact absurd h (Es y)
  ·exact h
  ·omega
 intro h
 have:dz (bI y)=fV (bI y):=if_pos (.inr M1)
 rw [this] at h
 rw [← h] at hb
 exact absurd hb.1 (by simp [fV])
theorem KJ {k:List UInt8} {self:List UInt8→Option Bool} (hg:good k) (hs:self k=some true):pz self (dz k)=some (k,true):=by
 obtain ⟨g1,g2,_,g4,_⟩:=nQ hg
 have:=WE (R:=yes) (self:=self) g1 (by omega) (by rw [g4];exact hs)
 rw [this,if_neg,g4]
 ·rfl
 ·intro hb
  have:=T9 hb (by rw [g4];exact hg)
  rw [g4] at this
  exact this rfl
theorem Pc {x:Item} (hx:RT 65 x) (hl:(bI x).length≤4000):∃ a,k8 (bI x) 0 4096=some (x,((bI x).length:Int),a,0):=by
 have hw:=z8 hx (by omega) (by omega)
 rcases OV (bI x) hl with ⟨y,h1,h2,h3,a,h4⟩ | ⟨e,he,h2,_⟩
 ·rw [hw] at h3
  have:x=y:=congrArg Prod.fst (Option.some.inj h3)
  subst this
  exact ⟨a,h4⟩
 ·rw [hw] at h2
  exact absurd (congrArg Prod.snd (Option.some.inj h2)).symm he
theorem IS {p:List UInt8} (h:AH p=true) (leaf:Bool):rA (cJ p leaf)=some (p,leaf,true):=by
 have hl:=zj h leaf
 obtain ⟨u1,u2,u3⟩:=Cd h leaf
 obtain ⟨q,lf,ok,h1,h2⟩:=TA (cJ p leaf) (by omega)
 rcases h2 with ⟨rfl,_,rfl,rfl⟩ | ⟨_,h3⟩
 ·rw [h1,u1,u2]
 ·exact absurd u3 h3
theorem IT {n:Node} {s:List UInt8} {self:List UInt8→Option Bool} (hc:vg yes n=true) (hg:∀ k∈n.aC.1,good k) (hv:n.aq.length≤3000) (hs:s=bI (gk n)) (hl:s.length≤4000) (dZ:∀ k∈n.aC.1,self k=some true):
  uM self s=some (n,true):=by
 have vf:=pT n
 obtain ⟨c1,c2,c3⟩:=Aa hc
 obtain ⟨r1,r2,r3⟩:=Ch n hg (rN c1).2 hv
 obtain ⟨a,hr⟩:=Pc r1 (by rw [← hs];exact hl)
 rw [← hs] at hr
 have hM:=Wq self yes n (fun k hk=>dZ k hk) (by have:=(rN c1).2;omega)
 rw [hc] at hM
 have hP:=Ko yes n hc hg hv
 rw [← hs] at hP
 rcases BH c3 with h | h | h
 ·have hk0:n.aC=aD.rep 16 []:=TJ (by
   unfold mh at c3
   rw [decide_eq_true h,cond_true,Bool.and_eq_true,decide_eq_true_eq] at c3
   omega)
  have hi:gk n=⟨true,[],[fV (cJ n.av true),fV n.aq]⟩:=by unfold gk;rw [if_pos h]
  have en:n=⟨1,n.av,n.aq,aD.rep 16 []⟩:=by rw [← h, ← hk0]
  refine bZ (Comes.stop ?_)
  simp only [jv]
  rw [hr,Option.bind_some,hi]
  have e0:idx ([fV (cJ n.av true),fV n.aq]:List Item) (0:Int)=fV (cJ n.av true):=rfl
  have e1:idx ([fV (cJ n.av true),fV n.aq]:List Item) (1:Int)=fV n.aq:=rfl
  have e2:(fV (cJ n.av true)).fS=cJ n.av true:=rfl
  have e3:(fV n.aq).fS=n.aq:=rfl
  simp only [e0,e1,e2,e3]
  rw [IS c1]
  show (nP self ⟨1,n.av,n.aq,aD.rep 16 []⟩).bind _=_
  rw [← en,hM];rfl
 ·have c4:=c3
  unfold mh at c4
  rw [decide_eq_false (p:=n.aG=1) (by omega),cond_false,decide_eq_true h,cond_true] at c4
  simp only [Bool.and_eq_true,decide_eq_true_eq,beq_iff_eq,Bool.not_eq_true',beq_eq_false_iff_ne] at c4
  obtain ⟨⟨⟨v1,v2⟩,v3⟩,v4⟩:=c4
  have O6:n.aC=K1 (idx n.aC.1 (0:Int)):=TK (by omega) v4
  have hi:gk n=⟨true,[],[fV (cJ n.av false),dz (idx n.aC.1 (0:Int))]⟩:=by unfold gk;rw [if_neg (by omega),if_pos h]
  have hmem:=eg n.aC.1 (i:=0) (by omega)
  have hK:=KJ (hg _ hmem) (dZ _ hmem)
  rw [show ((0:Nat):Int)=0 from rfl] at hK
  generalize idx n.aC.1 (0:Int)=k at*
  have en:n=⟨2,n.av,[],(aD.rep 16 []).put 0 k⟩:=by
   have:n=⟨n.aG,n.av,n.aq,n.aC⟩:=rfl
   rw [h,v1,O6] at this
   exact this
  refine bZ (Comes.stop ?_)
  simp only [jv]
  rw [hr,Option.bind_some,hi]
  have e0:idx ([fV (cJ n.av false),dz k]:List Item) (0:Int)=fV (cJ n.av false):=rfl
  have e1:idx ([fV (cJ n.av false),dz k]:List Item) (1:Int)=dz k:=rfl
  have e2:(fV (cJ n.av false)).fS=cJ n.av false:=rfl
  simp only [e0,e1,e2]
  rw [IS c1]
  show (pz self (dz k)).bind _=_
  rw [hK,Option.bind_some]
  show (nP self ⟨2,n.av,[],(aD.rep 16 []).put 0 k⟩).bind _=_
  rw [← en,hM,Option.bind_some]
  show (mc n).bind _=_
  rw [hP,Option.bind_some,beq_self_eq_true]
  rfl
 ·have hi:gk n=⟨true,[],n.aC.1.map dz++[fV []]⟩:=by unfold gk;rw [if_neg (by omega),if_neg (by omega)]
  have c4:=c3
  unfold mh at c4
  rw [decide_eq_false (p:=n.aG=1) (by omega),cond_false,decide_eq_false (p:=n.aG=2) (by omega),cond_false,decide_eq_true h,cond_true] at c4
  simp only [Bool.and_eq_true,decide_eq_true_eq,beq_iff_eq] at c4
  obtain ⟨⟨v1,v2⟩,_⟩:=c4
  have rU:n.av=[]:=List.eq_nil_of_length_eq_zero (by omega)
  have en:n=⟨3,[],[],n.aC⟩:=by
   have:n=⟨n.aG,n.av,n.aq,n.aC⟩:=rfl
   rw [h,v1,rU] at this
   exact this
  have hfl:(n.aC.1.map dz++[fV []]).length=17:=by simp [vf]
  let g:Nat→List UInt8:=fun c=>idx n.aC.1 (c:Int)
  have Z3:tM g 16=n.aC:=by
   apply Subtype.ext
   rw [IM]
   apply List.ext_getElem
   ·simp [vf]
   ·intro i h1 h2
    rw [List.getElem_map,List.getElem_range]
    exact iU _ h2
  refine bZ (Comes.next (c':= .L1 ((0:Nat):Int) true [] (n.aC.1.map dz++[fV []]) (tM g 0)) ?_ (Comes.upto (fun i=>wq.L1 (i:Int) true [] (n.aC.1.map dz++[fV []]) (tM g i)) 16 (fun i hi2=>?_) (Comes.stop ?_)))
  ·simp only [jv]
   rw [hr,Option.bind_some,hi,Lx]
   simp only [hfl]
   rfl
  ·have hm:=eg n.aC.1 (i:=i) (by omega)
   have hK:=KJ (hg _ hm) (dZ _ hm)
   have e:idx (n.aC.1.map dz++[fV []]) (i:Int)=dz (g i):=by
    rw [iU _ (by omega),List.getElem_append_left (by simp [vf];omega),List.getElem_map, ← iU _ (by omega)]
   simp only [jv]
   rw [decide_eq_true (by omega),cond_true,ah (by omega),e,hK,Option.bind_some,Bool.not_true,cond_false,ah (by omega),ah (by unfold bf;omega)]
   show some (Sum.inl (wq.L1 _ true [] _ ((tM g i).put (i:Int) (g i))))=_
   rw [Fv g hi2];rfl
  ·simp only [jv]
   rw [decide_eq_false (by omega),cond_false,Z3, ← en,hM,Option.bind_some,show (true==true)=true from rfl,cond_true,hP,Option.bind_some,beq_self_eq_true]
   rfl
theorem IU (v:Nat):∀ (n d:Nat) (l:List In),d<n→WG v d l→∀ m,d+1<m→ef m (kQ (gD l))=some true
 | 0,d,l,h,_=>by omega
 | n+1,d,l,hd,h=>by
  have ih:=IU v n
  have up:∀ s,(s=[]∨s.length=32)→∀ m,d+1<m→ef m s=some true:=by
   intro s hs m hm
   obtain ⟨m,rfl⟩:∃ k,m=k+1:=⟨m-1,by omega⟩
   show ff (ef m) s=_
   unfold ff
   rw [Cj hs,cond_true]
  by_cases hl:l=[]
  ·subst hl
   rw [zl,KF]
   exact up _ (.inl rfl)
  ·have hk:∀ k∈(cC l).aC.1,∀ m,d+1≤m→ef m k=some true:=by
    intro k hk m hm
    rcases EI h hl k hk with rfl | ⟨d',l',h1,h2,rfl⟩
    ·obtain ⟨m,rfl⟩:∃ k,m=k+1:=⟨m-1,by omega⟩
     show ff (ef m) []=_
     unfold ff
     rw [Cj (.inl rfl),cond_true]
    ·exact ih d' l' (by omega) h2 m (by omega)
   have hlen:=pF h.wf hl
   have PU:=h.wf.top
   have hg:∀ k∈(cC l).aC.1,good k:=fun k hk=>(zm h hl k hk).2
   have e:gD l=bI (gk (cC l)):=by
    rw [xF h.wf];unfold qC
    rw [if_neg hl];exact Af h hl hg
   intro m hm
   unfold kQ
   by_cases M1:32≤(gD l).length
   ·rw [if_pos M1]
    exact up _ (.inr (zi _)) m hm
   ·rw [if_neg M1]
    obtain ⟨m,rfl⟩:∃ k,m=k+1:=⟨m-1,by omega⟩
    show ff (ef m) (gD l)=_
    have hG:=IT (self:=ef m) (su h hl) hg (by have:=(qD h.wf hl).2.2.1;omega) e (by omega) (fun k hk'=>hk k hk' m (by omega))
    unfold ff
    rw [M5 (fun h0=>by rcases h0 with h0 | h0;(rw [h0] at hlen;simp at hlen);omega),cond_false,decide_eq_false (by omega),cond_false,hG]
    rfl
theorem Rp {v d:Nat} {l:List In} (h:WG v d l) (hl:l≠[]):z4 (gD l)=some (cC l,true):=by
 have hlen:=pF h.wf hl
 have PU:=h.wf.top
 have hg:∀ k∈(cC l).aC.1,good k:=fun k hk=>(zm h hl k hk).2
 have e:gD l=bI (gk (cC l)):=by
  rw [xF h.wf];unfold qC
  rw [if_neg hl];exact Af h hl hg
 refine IT (self:=oR) (su h hl) hg (by have:=(qD h.wf hl).2.2.1;omega) e (by omega) fun k hk=>?_
 rcases EI h hl k hk with rfl | ⟨d',l',h1,h2,rfl⟩
 ·exact jY 1 fun m hm=>by
   obtain ⟨m,rfl⟩:∃ k,m=k+1:=⟨m-1,by omega⟩
   show ff (ef m) []=_
   unfold ff
   rw [Cj (.inl rfl),cond_true]
 ·exact jY (d'+2) fun m hm=>IU v (d'+1) d' l' (by omega) h2 m (by omega)
end Go.Proofs.YtlfjfoknbjcncaaGreat.K
namespace Go.Proofs.YtlfjfoknbjcncaaGreat.K
open Go
set_option linter.unusedVariables false
set_option linter.unusedSimpArgs false
noncomputable def ye (x:b8):b8:=
 let y:b8:=if x.aq=[] then ⟨x.fG,[118]⟩ else x
 if 100<y.aq.length then ⟨y.fG,y.aq.take 100⟩ else y
theorem Ua (x:b8):(ye x).aq.length≤100:=by
 unfold ye
 simp only
 generalize (if x.aq=[] then (⟨x.fG,[118]⟩:b8) else x)=y
 split
 ·rw [List.length_take];omega
 ·omega
theorem Rq (l:List b8):xo l=some ((l.take 24).map ye):=by
 refine bZ (Comes.next (c':= .L1 ((l.take 0).map ye) ((0:Nat):Int)) (by simp only [kf];rfl) ?_)
 refine Comes.upto (fun i=>xl.L1 ((l.take i).map ye) (i:Int)) (min l.length 24) (fun i hi=>?_) (Comes.stop ?_)|>fun h=>(show l.take 24=l.take (min l.length 24) from ?_)▸h
 ·have hi1:i<l.length:=by omega
  have e3:((l.take i).map ye).length≤24:=by rw [List.length_map,List.length_take];omega
  have eb:((idx l (i:Int)).aq==([]:List UInt8))=decide ((idx l (i:Int)).aq=[]):=by rw [Bool.eq_iff_iff];simp
  simp only [kf]
  rw [decide_eq_true (by omega),decide_eq_true (by omega),Bool.true_and,cond_true,ah (by omega),eb,ng l hi1,List.map_append,List.map_cons,List.map_nil]
  generalize idx l (i:Int)=x
  generalize (l.take i).map ye=acc at*
  have:((bif decide (x.aq=[]) then some (⟨x.fG,[118]⟩:b8) else some x):Option b8)=some (if x.aq=[] then ⟨x.fG,[118]⟩ else x):=by
   by_cases h:x.aq=[]
   ·rw [decide_eq_true h,cond_true,if_pos h]
   ·rw [decide_eq_false h,cond_false,if_neg h]
  rw [this,Option.bind_some]
  unfold ye
  simp only
  generalize (if x.aq=[] then (⟨x.fG,[118]⟩:b8) else x)=y
  by_cases h:100<y.aq.length
  ·rw [decide_eq_true (by omega),cond_true,ah (by omega),Option.bind_some,ah (by simp only [List.length_singleton];omega),ah (by unfold bf;omega),if_pos h]
   rfl
  ·rw [decide_eq_false (by omega),cond_false,Option.bind_some,ah (by simp only [List.length_singleton];omega),ah (by unfold bf;omega),if_neg h]
   rfl
 ·simp only [kf]
  by_cases h:l.length<24
  ·rw [decide_eq_false (by omega),Bool.false_and,cond_false]
  ·rw [decide_eq_false (p:=((min l.length 24:Nat):Int)<24) (by omega),Bool.and_false,cond_false]
 ·by_cases h:l.length≤24
  ·rw [Nat.min_eq_left h,List.take_length,List.take_of_length_le h]
  ·rw [Nat.min_eq_right (by omega)]
def LC (r:List b8) (x:b8):Bool:=r.all fun y=> !(y.fG.1==x.fG.1)
def qO:List b8→List In
 | []=>[]
 | x::r=>(if LC r x=true then [⟨dO x.fG.1,x.aq⟩] else [])++qO r
theorem KK:∀ l:List b8,(qO l).length≤l.length
 | []=>Nat.le_refl _
 | x::r=>by
  have:=KK r
  rw [qO,List.length_append,List.length_cons]
  split
  ·rw [List.length_singleton];omega
  ·rw [List.length_nil];omega
theorem wE:∀ (l:List b8) (y:In),y∈qO l→∃ x∈l,y=⟨dO x.fG.1,x.aq⟩
 | [],y,h=>by simp [qO] at h
 | x::r,y,h=>by
  rw [qO] at h
  rcases List.mem_append.1 h with h | h
  ·split at h
   ·exact ⟨x,List.mem_cons_self ..,List.mem_singleton.1 h⟩
   ·simp at h
  ·obtain ⟨z,hz,e⟩:=wE r y h
   exact ⟨z,List.mem_cons_of_mem _ hz,e⟩
theorem Nv:∀ l:List b8,(qO l).Pairwise fun x y=>x.av≠y.av
 | []=>List.Pairwise.nil
 | x::r=>by
  have ih:=Nv r
  rw [qO]
  split
  ·rename_i h
   rw [List.singleton_append,List.pairwise_cons]
   refine ⟨fun y hy e=>?_,ih⟩
   obtain ⟨z,hz,rfl⟩:=wE r y hy
   have h1:=List.all_eq_true.1 h z hz
   have h2:x.fG.1=z.fG.1:=by
    have:=congrArg fj (show dO x.fG.1=dO z.fG.1 from e)
    rwa [oW,oW] at this
   rw [h2] at h1
   simp at h1
  ·exact ih
end Go.Proofs.YtlfjfoknbjcncaaGreat.K
namespace Go.Proofs.YtlfjfoknbjcncaaGreat.K
open Go
set_option linter.unusedVariables false
set_option linter.unusedSimpArgs false
theorem Co (k:aD 32 UInt8):PQ 64 (dO k.1):=⟨by rw [mX,k.2],tG _⟩
theorem Pd {a b:List UInt8} (h:dO a=dO b):a=b:=by
 have:=congrArg fj h
 rwa [oW,oW] at this
theorem key_inj {a b:aD 32 UInt8} (h:dO a.1=dO b.1):a=b:=Subtype.ext (Pd h)
def keyOf (s:List UInt8) (h:PQ 64 s):aD 32 UInt8:=⟨fj s,by rw [sN,h.1]⟩
theorem KL {s:List UInt8} (h:PQ 64 s):dO (keyOf s h).1=s:=wv s (by rw [h.1]) h.2
def nF:List b8→aD 32 UInt8→Option (List UInt8)
 | [],_=>none
 | x::r,k=>match nF r k with
  | some w=>some w
  | none=>if x.fG=k then some x.aq else none
theorem Rr (l:List b8) (x:b8) (k:aD 32 UInt8):nF (l++[x]) k=if x.fG=k then some x.aq else nF l k:=by
 induction l with
 | nil=>rfl
 | cons y r ih=>
  show (match nF (r++[x]) k with | some w=>some w | none=>_)=_
  rw [ih]
  by_cases h:x.fG=k
  ·rw [if_pos h,if_pos h]
  ·rw [if_neg h,if_neg h];rfl
def Ub (l:List b8) (k:aD 32 UInt8):List b8:=l.filter fun x=> !(x.fG.1==k.1)
theorem P1 {a b:aD 32 UInt8}:(a.1==b.1)=decide (a=b):=by
 rw [Bool.eq_iff_iff,beq_iff_eq,decide_eq_true_eq]
 exact ⟨fun h=>Subtype.ext h,fun h=>by rw [h]⟩
theorem Uc (l:List b8) (k j:aD 32 UInt8):nF (Ub l k) j=if j=k then none else nF l j:=by
 induction l with
 | nil=>unfold Ub;simp [nF]
 | cons x r ih=>
  unfold Ub at ih ⊢
  rw [List.filter_cons]
  by_cases h:x.fG=k
  ·rw [if_neg (by rw [P1,decide_eq_true h];decide),ih]
   by_cases h2:j=k
   ·rw [if_pos h2,if_pos h2]
   ·rw [if_neg h2,if_neg h2]
    show _=match nF r j with | some w=>some w | none=>_
    rw [if_neg (fun e=>h2 (e.symm.trans h))]
    cases nF r j<;>rfl
  ·rw [if_pos (by rw [P1,decide_eq_false h];rfl)]
   show (match nF (r.filter _) j with | some w=>some w | none=>_)=_
   rw [ih]
   by_cases h2:j=k
   ·rw [if_pos h2,if_pos h2]
    simp only
    rw [if_neg (fun e=>h (e.trans h2))]
   ·rw [if_neg h2,if_neg h2];rfl
theorem DK:∀ (l:List b8) (k:aD 32 UInt8),nF l k=none↔∀ x∈l,x.fG≠k
 | [],k=>by simp [nF]
 | x::r,k=>by
  have ih:=DK r k
  show (match nF r k with | some w=>some w | none=>_)=none↔_
  cases h:nF r k with
  | some w=>
   rw [h] at ih
   simp only [List.mem_cons,forall_eq_or_imp]
   constructor
   ·intro e;cases e
   ·intro e;exact absurd (ih.2 e.2) (by simp)
  | none=>
   simp only [List.mem_cons,forall_eq_or_imp]
   by_cases h2:x.fG=k
   ·rw [if_pos h2]
    constructor
    ·intro e;cases e
    ·intro e;exact absurd h2 e.1
   ·rw [if_neg h2]
    exact ⟨fun _=>⟨h2,ih.1 h⟩,fun _=>rfl⟩
theorem Cp:∀ (l:List b8) (k:aD 32 UInt8) (w:List UInt8),(⟨dO k.1,w⟩:In)∈qO l↔nF l k=some w
 | [],k,w=>by simp [qO,nF]
 | x::r,k,w=>by
  have ih:=Cp r k w
  have hl:LC r x=true↔nF r x.fG=none:=by
   rw [DK]
   unfold LC
   rw [List.all_eq_true]
   constructor
   ·intro h y hy e
    have:=h y hy
    rw [P1,decide_eq_true e] at this;cases this
   ·intro h y hy
    rw [P1,decide_eq_false (h y hy)];rfl
  rw [qO,List.mem_append,ih]
  show _↔(match nF r k with | some w=>some w | none=>_)=some w
  by_cases hx:x.fG=k
  ·subst hx
   cases h:nF r x.fG with
   | some z=>
    rw [if_neg (by rw [hl,h];simp)]
    simp
   | none=>
    rw [if_pos (hl.2 h),if_pos rfl]
    simp only [List.mem_singleton,In.mk.injEq,true_and,reduceCtorEq,or_false,Option.some.injEq]
    exact ⟨fun e=>e.symm,fun e=>e.symm⟩
  ·have hn:¬ (⟨dO k.1,w⟩:In)∈(if LC r x=true then [(⟨dO x.fG.1,x.aq⟩:In)] else []):=by
    split
    ·rw [List.mem_singleton,In.mk.injEq]
     exact fun e=>hx (key_inj e.1).symm
    ·simp
   rw [if_neg hx]
   constructor
   ·intro h
    rw [h.resolve_left hn]
   ·intro h
    refine .inr ?_
    revert h
    cases nF r k with
    | some z=>exact fun h=>h
    | none=>exact fun h=>h
theorem GN (v:Nat) (l:List b8) (hn:l.length≤64) (hv:∀ x∈l,x.aq≠[]∧x.aq.length≤v) (Ud:v≤200):WG v 64 (qO l) where
 wf:={
  len:=fun x hx=>by
   obtain ⟨y,hy,rfl⟩:=wE l x hx
   exact (Co y.fG).1
  Lw:=fun x hx=>by
   obtain ⟨y,hy,rfl⟩:=wE l x hx
   exact tG _
  val:=fun x hx=>by
   obtain ⟨y,hy,rfl⟩:=wE l x hx
   exact (hv y hy).2
  nd:=Nv l
  cnt:=Nat.le_trans (KK l) hn
  dep:=Nat.le_refl _
  top:=Ud}
 ne x hx:=by
  obtain ⟨y,hy,rfl⟩:=wE l x hx
  exact (hv y hy).1
structure ua (t:af) (m:List b8):Prop where
 tn:TN 64 t
 val:∀ k,look t (dO k.1)=nF m k
theorem ua.same {t:af} {m:List b8} (h:ua t m):ow 64 t (qO m):=by
 intro s w hs
 rw [← KL hs,h.val,Cp]
theorem ua.nil:ua .nil []:=⟨.inl rfl,fun k=>by rw [pE];rfl⟩
theorem ua.empty {t:af} {m:List b8} (h:ua t m):t.isNil=decide (m=[]):=by
 rw [Bool.eq_iff_iff,xE,decide_eq_true_eq]
 constructor
 ·intro e
  subst e
  rw [List.eq_nil_iff_forall_not_mem]
  intro x hx
  have:=h.val x.fG
  rw [pE] at this
  exact (DK m x.fG).1 this.symm x hx rfl
 ·intro e
  subst e
  rcases h.tn with h1 | h1
  ·exact h1
  ·obtain ⟨s,w,h2,h3⟩:=h1.has
   have:=h.val (keyOf s h2)
   rw [KL,h3] at this
   cases this
theorem Ue {t:af} {m:List b8} {k:aD 32 UInt8} {v:List UInt8} (h:ua t m) (hv:v≠[]) (hl:v.length≤65552):∃ t',oh ⟨t⟩ k v=some (⟨t'⟩,0)∧TW 64 t'∧∀ s,PQ 64 s→look t' s=if s=dO k.1 then some v else look t s:=by
 obtain ⟨t',h1,h2,h3⟩:=Ri v h.tn (Co k) (Nat.le_refl _)
 refine ⟨t',?_,h2,h3⟩
 unfold oh
 rw [show (v==([]:List UInt8))=false from beq_eq_false_iff_ne.2 hv,decide_eq_false (by omega),Bool.or_self,cond_false,Fw,Option.bind_some,h1]
 rfl
theorem ua.put {t t':af} {m:List b8} {k:aD 32 UInt8} {v:List UInt8} (h:ua t m) (h2:TW 64 t') (h3:∀ s,PQ 64 s→look t' s=if s=dO k.1 then some v else look t s) (m':List b8) (hm:∀ j,nF m' j=if j=k then some v else nF m j):ua t' m' where
 tn:= .inr h2
 val j:=by
  rw [h3 _ (Co j),hm,h.val]
  by_cases e:j=k
  ·rw [if_pos e,if_pos (by rw [e])]
  ·rw [if_neg e,if_neg (fun e2=>e (key_inj e2))]
theorem Nw {t:af} {m:List b8} (k:aD 32 UInt8) (h:ua t m):kL ⟨t⟩ k=some (match nF m k with | some w=>(w,0) | none=>([],7)):=by
 obtain ⟨v,b,h1,h2⟩:=Rj h.tn (Co k) (Nat.le_refl _)
 rw [h.val] at h2
 unfold kL
 rw [Fw,Option.bind_some,h1,Option.bind_some,h2]
 cases b<;>rfl
theorem Uf {t:af} {m:List b8} {k:aD 32 UInt8} {w:List UInt8} (h:ua t m) (hn:nF m k=some w):∃ t',mF ⟨t⟩ k=some (⟨t'⟩,0)∧ua t' (Ub m k):=by
 have hl:look t (dO k.1)≠none:=by rw [h.val,hn];simp
 rcases h.tn with rfl | ht
 ·rw [pE] at hl;exact absurd rfl hl
 ·obtain ⟨t',h1,h2,h3⟩:=Rl ht (Co k) (Nat.le_refl _) hl
  refine ⟨t',?_,h2,fun j=>?_⟩
  ·unfold mF
   rw [Nw k h,hn,Option.bind_some]
   show (sB k).bind _=_
   rw [Fw,Option.bind_some,h1];rfl
  ·rw [h3 _ (Co j),Uc,h.val]
   by_cases e:j=k
   ·rw [if_pos e,if_pos (by rw [e])]
   ·rw [if_neg e,if_neg (fun e2=>e (key_inj e2))]
theorem LD (l:List b8) (hn:l.length≤1000000) (hv:∀ x∈l,x.aq≠[]∧x.aq.length≤65552):∃ t,sg l=some ⟨t⟩∧ua t l:=by
 have main:∀ (k i:Nat) (t:af),k+i=l.length→ua t (l.take i)→∀ u,∃ t',Comes (mu l) (.L1 (i:Int) u t) ⟨t'⟩∧ua t' l:=by
  intro k
  induction k with
  | zero=>
   intro i t hi h u
   rw [List.take_of_length_le (by omega)] at h
   refine ⟨t,Comes.stop ?_,h⟩
   simp only [mu]
   rw [decide_eq_false (by omega),cond_false]
  | succ k ih=>
   intro i t hi h u
   have hi2:i<l.length:=by omega
   obtain ⟨v1,v2⟩:=hv _ (eg l hi2)
   obtain ⟨t',g1,g2,g3⟩:=Ue (k:=(idx l (i:Int)).fG) h v1 v2
   obtain ⟨t2,c1,c2⟩:=ih (i+1) t' (by omega) (h.put g2 g3 _ fun j=>by
    rw [ng l hi2,Rr]
    by_cases e:j=(idx l (i:Int)).fG
    ·rw [if_pos e,if_pos e.symm]
    ·rw [if_neg e,if_neg (fun e2=>e e2.symm)]) u
   refine ⟨t2,Comes.next ?_ c1,c2⟩
   simp only [mu]
   rw [decide_eq_true (by omega),cond_true,ah (by omega),g1,Option.bind_some,decide_eq_true rfl,cond_true,ah (by unfold bf;omega)]
   rfl
 obtain ⟨t,h1,h2⟩:=main l.length 0 .nil rfl (by rw [List.take_zero];exact .nil) .nil
 exact ⟨t,bZ (Comes.next (by simp only [mu];rfl) h1),h2⟩
theorem ua.enc {t:af} {m:List b8} {v:Nat} (h:ua t m) (hn:m.length≤64) (hv:∀ x∈m,x.aq≠[]∧x.aq.length≤v) (Ud:v≤200):jP ⟨t⟩=some (gD (qO m))∧wu (qO m)=some (gD (qO m))∧gB ⟨t⟩=some (kQ (gD (qO m))):=by
 have hw:=GN v m hn hv Ud
 exact ⟨Nu h.tn hw h.same,by rw [PT hw.wf,xF hw.wf],EJ h.tn hw h.same⟩
end Go.Proofs.YtlfjfoknbjcncaaGreat.K
namespace Go.Proofs.YtlfjfoknbjcncaaGreat.K
open Go
set_option linter.unusedVariables false
set_option linter.unusedSimpArgs false
def gX (f:Fin 16→af):List Tree:=((List.ofFn f).filter fun x=> !x.isNil).map Tree.mk
theorem Gb {α β:Type} [Inhabited α] (p:α→Bool) (g:α→β) (l:List α) {i:Nat} (hi:i<l.length):((l.take (i+1)).filter p).map g=((l.take i).filter p).map g++(if p (idx l (i:Int))=true then [g (idx l (i:Int))] else []):=by
 rw [DG p l hi,List.map_append]
 split<;>rfl
theorem Pe:lN ⟨.nil⟩=some (⟨0,[],[],aD.rep 16 []⟩,[]):=bZ (Comes.stop (by simp only [gN];rfl))
theorem KM {k:Int} {p v r:List UInt8} {f:Fin 16→af} {n:Node} (hk:k≠ -1) (hn:pP (.node k p v f r)=some n):lN ⟨.node k p v f r⟩=some (n,gX f):=by
 have hl:(List.ofFn f).length=16:=by simp
 refine bZ (Comes.next (c':= .L1 ((((List.ofFn f).take 0).filter fun x=> !x.isNil).map Tree.mk) ((0:Nat):Int)) ?_ ?_)
 ·simp only [gN]
  show gO ((af.node k p v f r).isNil=false→(af.node k p v f r).isNil=false) (bif (af.node k p v f r).isNil||decide (k= -1) then _ else _)=_
  rw [ah (fun h=>h),decide_eq_false hk,show (af.node k p v f r).isNil=false from rfl,Bool.or_self,cond_false,ah rfl]
  rfl
 ·refine Comes.upto (fun i=>tw.L1 ((((List.ofFn f).take i).filter fun x=> !x.isNil).map Tree.mk) (i:Int)) 16 (fun i hi=>?_) (Comes.stop ?_)
  ·have hle:((((List.ofFn f).take i).filter fun x=> !x.isNil).map Tree.mk).length≤16:=by
    rw [List.length_map]
    have:=List.length_filter_le (fun x:af=> !x.isNil) ((List.ofFn f).take i)
    rw [List.length_take] at this;omega
   simp only [gN]
   rw [Gb _ _ _ (show i<(List.ofFn f).length by omega)]
   rw [decide_eq_true (by omega),cond_true,ah (by omega),show (af.node k p v f r).at.cg.1=List.ofFn f from rfl]
   cases hb:(!(idx (List.ofFn f) (i:Int)).isNil) with
   | true=>rw [cond_true,ah (by simp only [List.length_singleton];omega),ah (by unfold bf;omega),if_pos rfl];rfl
   | false=>rw [cond_false,ah (by unfold bf;omega),if_neg (by simp),List.append_nil];rfl
  ·simp only [gN]
   rw [decide_eq_false (by omega),cond_false,hn,List.take_of_length_le (by omega)]
   rfl
theorem Rs {v d:Nat} {f:Fin 16→af} {l:List In} (hb:TW (d+1) (gE f)) (hw:WG v (d+1) l) (hs:ow (d+1) (gE f) l):(gX f).length=((List.range 16).filter fun c=> !(rH l c).isEmpty).length:=by
 obtain ⟨c1,c2,c3⟩:=IQ hw.wf hb hs
 have hk:∀ c,f c≠ .nil→TW d (f c):=by
  generalize e:gE f=t at hb
  cases hb with
  | leaf _=>cases e
  | ext _ _ _ _=>cases e
  | @br d' _ g he hk h2=>
   have hg:f=g:=by unfold gE at e;injection e
   subst hg
   have:d'=d:=by omega
   subst this;exact hk
 have e1:∀ c (h:c<16),(!(f ⟨c,h⟩).isNil)=(!(rH l c).isEmpty):=by
  intro c h
  congr 1
  rw [Bool.eq_iff_iff,xE,List.isEmpty_iff]
  have h3:=c3 c h
  constructor
  ·intro e
   rw [e] at h3
   exact BM.1 (Fx (hw.BJ (by omega) c).wf h3)
  ·intro e
   rcases TN.BJ hk ⟨c,h⟩ with h4 | h4
   ·exact h4
   ·obtain ⟨s,w,h5,h6⟩:=h4.has
    have:=(h3 s w h5).1 h6
    rw [e] at this;cases this
 unfold gX
 rw [List.length_map]
 have e2:List.ofFn f=(List.range 16).map fun c=>if h:c<16 then f ⟨c,h⟩ else .nil:=by
  apply List.ext_getElem
  ·simp
  ·intro i h1 h2
   have hi:i<16:=by rw [List.length_ofFn] at h1;exact h1
   rw [List.getElem_ofFn,List.getElem_map,List.getElem_range,dif_pos hi]
 rw [e2,List.filter_map,List.length_map]
 congr 1
 refine List.filter_congr fun c hc=>?_
 have hc:c<16:=by simpa using hc
 simp only [Function.comp]
 rw [dif_pos hc]
 exact e1 c hc
def Pf:aD 32 UInt8:=aD.rep 32 (0:UInt8)
def EK:aD 32 UInt8:=(aD.rep 32 (0:UInt8)).put (0:Int) (16:UInt8)
def EL:List b8:=[⟨Pf,[120]⟩,⟨EK,[121]⟩]
theorem Ym:Ub EL Pf=[⟨EK,[121]⟩]:=rfl
theorem Nx (l:List b8) (h:l=EL∨l=[⟨EK,[121]⟩]):l.length≤64∧∀ x∈l,x.aq≠[]∧x.aq.length≤1:=by
 rcases h with rfl | rfl
 ·refine ⟨by decide,fun x hx=>?_⟩
  simp only [EL,List.mem_cons,List.not_mem_nil,or_false] at hx
  rcases hx with rfl | rfl<;>exact ⟨by simp,by simp⟩
 ·refine ⟨by simp,fun x hx=>?_⟩
  rw [List.mem_singleton.1 hx];exact ⟨by simp,by simp⟩
theorem KN:lD=some true:=by
 have hA:nF EL Pf=some [120]:=by decide
 have hB:nF EL EK=some [121]:=by decide
 have hB1:nF [⟨EK,[121]⟩] EK=some [121]:=by decide
 obtain ⟨n1,v1⟩:=Nx EL (.inl rfl)
 obtain ⟨n2,v2⟩:=Nx _ (.inr rfl)
 obtain ⟨t,t1,t2⟩:=LD EL (by omega) fun x hx=>⟨(v1 x hx).1,by have:=(v1 x hx).2;omega⟩
 obtain ⟨s,s1,s2⟩:=LD [⟨EK,[121]⟩] (by omega) fun x hx=>⟨(v2 x hx).1,by have:=(v2 x hx).2;omega⟩
 obtain ⟨u,u1,u2⟩:=Uf (k:=Pf) (w:=[120]) t2 hA
 rw [Ym] at u2
 have g1:=Nw EK t2
 rw [hB] at g1
 have e1:=(u2.enc n2 v2 (by omega)).1
 have e2:=(s2.enc n2 v2 (by omega)).1
 have hw:=GN 1 EL n1 v1 (by omega)
 have Yi:=GN 1 _ n2 v2 (by omega)
 have ht:TW 64 t:=t2.tn.resolve_left fun e=>by
  have:=t2.empty
  rw [e] at this;cases this
 have hs:=t2.same
 have hm:∀ (k:aD 32 UInt8) (w:List UInt8),nF EL k=some w→(⟨dO k.1,w⟩:In)∈qO EL:=fun k w h=>(Cp EL k w).2 h
 have pA:dO Pf.1=0::(dO Pf.1).drop 1:=by decide
 have pB:dO EK.1=1::(dO EK.1).drop 1:=by decide
 have mA:=hm _ _ hA
 have mB:=hm _ _ hB
 rw [pA] at mA
 rw [pB] at mB
 obtain ⟨c1,_,c2⟩:=LB (p:=[]) hw.wf (show (0:UInt8)≠1 by decide) mA mB (fun x _=>rfl)
 obtain ⟨hN,hl⟩:=KH ht hw hs
 have hk3:(cC (qO EL)).aG=3:=by
  unfold cC
  rw [if_neg (by omega),if_neg (by rw [c1];simp)]
 have hlk:(qO EL)=[⟨dO Pf.1,[120]⟩,⟨dO EK.1,[121]⟩]:=rfl
 have Yn:∃ ks,lN ⟨t⟩=some (cC (qO EL),ks)∧ks.length=2:=by
  cases ht with
  | @leaf _ p w hp=>
   have:=DJ hw.wf hp hs
   rw [this] at c2;simp at c2
  | @ext d' _ p f he rU BF hb=>
   obtain ⟨k1,_,_,_⟩:=Fy hw.wf he rU BF hb hs
   have Lc:0<p.length:=List.length_pos_iff.2 rU
   rw [c1] at k1
   have k1:0=p.length:=k1
   omega
  | @br d' _ f he hkk h2=>
   obtain rfl:d'=63:=by omega
   refine ⟨_,KM (by decide) hN,?_⟩
   rw [Rs (v:=1) (.br rfl hkk h2) hw hs,hlk]
   decide
 obtain ⟨ks,k1,k2⟩:=Yn
 have eb:=pF Yi.wf (by
  intro e
  have:=(Cp [⟨EK,[121]⟩] EK [121]).2 hB1
  rw [e] at this;cases this)
 have hz:(gD (qO [⟨EK,[121]⟩])==([]:List UInt8))=false:=by
  rw [beq_eq_false_iff_ne]
  intro e;rw [e] at eb;simp at eb
 unfold lD
 rw [show sg ([(⟨(aD.rep 32 (0:UInt8)),([120]:List UInt8)⟩:b8),(⟨((aD.rep 32 (0:UInt8)).put (0:Int) (16:UInt8)),([121]:List UInt8)⟩:b8)]:List b8)=_ from t1,Option.bind_some]
 rw [show kL ⟨t⟩ ((aD.rep 32 (0:UInt8)).put (0:Int) (16:UInt8))=_ from g1,Option.bind_some]
 rw [show mF ⟨t⟩ (aD.rep 32 (0:UInt8))=_ from u1,Option.bind_some,k1,Option.bind_some]
 have q1:((([121],(0:Int)).1==([121]:List UInt8))&&decide (([121],(0:Int)).2=0))=true:=rfl
 simp only [beq_self_eq_true,decide_true,Bool.and_self,cond_true,e1,Option.bind_some,Bool.true_and]
 rw [show sg ([(⟨((aD.rep 32 (0:UInt8)).put (0:Int) (16:UInt8)),([121]:List UInt8)⟩:b8)]:List b8)=_ from s1,Option.bind_some,e2,Option.bind_some]
 have k3:decide ((ks.length:Int)=2)=true:=by rw [k2];rfl
 simp only [hk3,k3,hz,beq_self_eq_true,decide_true,Bool.and_self,cond_true,Option.bind_some,Bool.true_and,Bool.not_false]
 rfl
end Go.Proofs.YtlfjfoknbjcncaaGreat.K
namespace Go.Proofs.YtlfjfoknbjcncaaGreat.K
open Go
set_option linter.unusedVariables false
set_option linter.unusedSimpArgs false
theorem Ug (x:b8):(ye x).aq≠[]∧(ye x).aq.length≤100:=by
 refine ⟨?_,Ua x⟩
 unfold ye
 simp only
 have:(if x.aq=[] then (⟨x.fG,[118]⟩:b8) else x).aq≠[]:=by
  by_cases h:x.aq=[]
  ·rw [if_pos h];simp
  ·rw [if_neg h];exact h
 generalize (if x.aq=[] then (⟨x.fG,[118]⟩:b8) else x)=y at this
 split
 ·show y.aq.take 100≠[]
  intro e
  rw [List.take_eq_nil_iff] at e
  exact e.elim (by omega) this
 ·exact this
end Go.Proofs.YtlfjfoknbjcncaaGreat.K
namespace Go.Proofs.YtlfjfoknbjcncaaGreat.K
open Go
set_option linter.unusedVariables false
set_option linter.unusedSimpArgs false
structure Yo (v d:Nat) (l:List In) (k:Int) (p w:List UInt8) (f:Fin 16→af):Prop where
 node:cC l=⟨k,p,w,(cC l).aC⟩
 kind:k=1∨k=2∨k=3
 len:p.length≤64
 BJ:∀ c (h:c<16),(f ⟨c,h⟩= .nil∧idx (cC l).aC.1 (c:Int)=[])∨
  (∃ d' l',d'<d∧TW d' (f ⟨c,h⟩)∧WG v d' l'∧ow d' (f ⟨c,h⟩) l'∧idx (cC l).aC.1 (c:Int)=kQ (gD l')∧l'≠[]∧(k=2→(f ⟨c,h⟩).at.aX=3))
 leaf:(k=1↔gX f=[])
theorem DL (f:Fin 16→af):gX f=[]↔∀ c,f c= .nil:=by
 unfold gX
 rw [List.map_eq_nil_iff,List.filter_eq_nil_iff]
 constructor
 ·intro h c
  have:=h (f c) (by rw [List.mem_ofFn];exact ⟨c,rfl⟩)
  simp only [Bool.not_eq_true',Bool.not_eq_false] at this
  exact xE.1 this
 ·intro h x hx
  obtain ⟨c,rfl⟩:=List.mem_ofFn.1 hx
  rw [h c];decide
theorem parts {v d:Nat} {t:af} {l:List In} (ht:TW d t) (hw:WG v d l) (hs:ow d t l):∃ k p w f,t= .node k p w f []∧Yo v d l k p w f:=by
 have T3:=hw.wf.dep
 cases ht with
 | @leaf _ p w hp=>
  have hl:=DJ hw.wf hp hs
  have Fq:=hp.1
  have hn:cC l=⟨1,p,w,aD.rep 16 []⟩:=by rw [hl];rfl
  refine ⟨1,p,w,fun _=> .nil,rfl,by rw [hn], .inl rfl,by omega,fun c h=> .inl ⟨rfl,?_⟩,⟨fun _=>(DL _).2 fun _=>rfl,fun _=>rfl⟩⟩
  rw [hn]
  exact List.eq_of_mem_replicate (eg (aD.rep 16 ([]:List UInt8)).1 (i:=c) (by rw [(aD.rep 16 ([]:List UInt8)).2];exact h))
 | @ext d' _ p f he rU BF hb=>
  obtain ⟨c1,c2,c3,c4⟩:=Fy hw.wf he rU BF hb hs
  have Lc:0<p.length:=List.length_pos_iff.2 rU
  have hwk:WG v d' (rest l p.length):=by
   have:=hw.ext
   rw [c1,show d-p.length=d' by omega] at this
   exact this
  have hn:cC l=⟨2,p,[],(aD.rep 16 []).put 0 (kQ (gD (rest l p.length)))⟩:=by
   unfold cC
   rw [if_neg (by omega),if_pos (by omega),c1,c2]
  refine ⟨2,p,[],one (gE f),rfl,by rw [hn], .inr (.inl rfl),by omega,fun c h=>?_,⟨fun h=>absurd h (by decide),fun h=>?_⟩⟩
  ·rw [hn]
   by_cases h0:c=0
   ·subst h0
    exact .inr ⟨d',rest l p.length,by omega,hb,hwk,c4,rfl,fun e=>by rw [BM] at e;rw [e] at c3;simp at c3,fun _=>rfl⟩
   ·refine .inl ⟨if_neg (fun e=>h0 (congrArg Fin.val e)),?_⟩
    show idx ((aD.rep 16 ([]:List UInt8)).1.set 0 _) (c:Int)=[]
    rw [iU _ (by rw [List.length_set,(aD.rep 16 ([]:List UInt8)).2];exact h),List.getElem_set_ne (fun e=>h0 e.symm)]
    exact List.getElem_replicate ..
  ·have:=(DL _).1 h 0
   cases this
 | @br d' _ f he hk h2=>
  subst he
  have hb:TW (d'+1) (gE f):= .br rfl hk h2
  obtain ⟨c1,c2,c3⟩:=IQ hw.wf hb hs
  have hn:cC l=⟨3,[],[],sr l⟩:=by
   unfold cC
   rw [if_neg (by omega),if_neg (by omega)]
  refine ⟨3,[],[],f,rfl,by rw [hn], .inr (.inr rfl),by simp,fun c h=>?_,⟨fun h=>absurd h (by decide),fun h=>?_⟩⟩
  ·have e:idx (cC l).aC.1 (c:Int)=kQ (gD (rest (rH l c) 1)):=by
    rw [hn]
    show idx (sr l).1 (c:Int)=_
    rw [iU _ (by rw [(sr l).2];exact h)]
    unfold sr
    simp
   have hwk:=hw.BJ (by omega) c
   rcases TN.BJ hk ⟨c,h⟩ with h0 | h0
   ·refine .inl ⟨h0,?_⟩
    have:=c3 c h
    rw [h0] at this
    rw [e,Fx hwk.wf this,zl];rfl
   ·refine .inr ⟨d',_,by omega,h0,hwk,c3 c h,e,fun e2=>?_,fun e=>by cases e⟩
    obtain ⟨s,w,h5,h6⟩:=h0.has
    have:=(c3 c h s w h5).1 h6
    rw [e2] at this;cases this
  ·obtain ⟨a,b,_,ha,_⟩:=h2
   exact absurd ((DL _).1 h a) ha
def tO (f:Fin 16→af) (i:Nat):List Tree:=(((List.ofFn f).take i).filter fun x=> !x.isNil).map Tree.mk
theorem Rt (f:Fin 16→af):tO f 16=gX f:=by
 unfold tO gX
 rw [List.take_of_length_le (by simp)]
theorem yf (f:Fin 16→af) (i:Nat) (hi:i<16):tO f (i+1)=tO f i++(if (f ⟨i,hi⟩).isNil=true then [] else [⟨f ⟨i,hi⟩⟩]):=by
 unfold tO
 rw [Gb _ _ _ (by simpa using hi),uE f i hi]
 cases (f ⟨i,hi⟩).isNil<;>rfl
theorem Pg (f:Fin 16→af) (i:Nat):∃ r,gX f=tO f i++r:=by
 unfold tO gX
 refine ⟨(((List.ofFn f).drop i).filter fun x=> !x.isNil).map Tree.mk,?_⟩
 rw [← List.map_append, ← List.filter_append,List.take_append_drop]
theorem Ru (f:Fin 16→af) (i:Nat) (hi:i<16) (hn:(f ⟨i,hi⟩).isNil=false):(tO f i).length<(gX f).length∧idx (gX f) ((tO f i).length:Int)=⟨f ⟨i,hi⟩⟩:=by
 obtain ⟨r,e⟩:=Pg f (i+1)
 rw [yf f i hi,hn] at e
 rw [e]
 have hl:(tO f i).length<((tO f i++(if false=true then [] else [(⟨f ⟨i,hi⟩⟩:Tree)]))++r).length:=by simp
 refine ⟨hl,?_⟩
 rw [iU _ hl]
 simp
def cut (f:Fin 16→af) (i:Nat):Fin 16→af:=fun c=>if c.1<i then f c else .nil
theorem Ny (f:Fin 16→af) (i:Nat) (hi:i<16):vj (cut f i) ⟨i,hi⟩ (f ⟨i,hi⟩)=cut f (i+1):=by
 funext c
 unfold vj cut
 by_cases h:c=⟨i,hi⟩
 ·rw [if_pos h,h,if_pos (Nat.lt_succ_self i)]
 ·rw [if_neg h]
  have:c.1≠i:=fun e=>h (Fin.ext e)
  by_cases h2:c.1<i
  ·rw [if_pos h2,if_pos (by omega)]
  ·rw [if_neg h2,if_neg (by omega)]
theorem Uh (f:Fin 16→af) (i:Nat) (hi:i<16) (h:f ⟨i,hi⟩= .nil):cut f i=cut f (i+1):=by
 rw [← Ny f i hi,h]
 funext c
 unfold vj cut
 by_cases h:c=⟨i,hi⟩
 ·rw [if_pos h,h,if_neg (Nat.lt_irrefl i)]
 ·rw [if_neg h]
theorem EM (n:Node) (f:Fin 16→af) (h:∀ c (hc:c<16),(f ⟨c,hc⟩).isNil=(idx n.aC.1 (c:Int)==[])):(n.aC.1.filter qA).length=(gX f).length:=by
 have vf:=pT n
 have:∀ i,i≤16→((n.aC.1.take i).filter qA).length=(tO f i).length:=by
  intro i
  induction i with
  | zero=>intro _;rfl
  | succ i ih=>
   intro hi
   rw [DG qA _ (by omega),yf f i (by omega),List.length_append,List.length_append,ih (by omega),h i (by omega)]
   unfold qA
   cases (idx n.aC.1 (i:Int)==[])<;>rfl
 have e:=this 16 (Nat.le_refl _)
 rw [List.take_of_length_le (by omega),Rt] at e
 exact e
theorem Rv {n:Node} {f:Fin 16→af} (hc:rq n=some 0) (hp:n.av.length≤1000000)
  (hk:∀ c (h:c<16),(f ⟨c,h⟩= .nil∧idx n.aC.1 (c:Int)=[])∨((f ⟨c,h⟩).isNil=false∧idx n.aC.1 (c:Int)≠[]∧gB ⟨f ⟨c,h⟩⟩=some (idx n.aC.1 (c:Int))∧(n.aG=2→(f ⟨c,h⟩).at.aX≤0∨(f ⟨c,h⟩).at.aX=3))):
  oQ n (gX f)=some (⟨.node n.aG n.av n.aq f []⟩,0):=by
 have vf:=pT n
 have vU:=EM n f fun c hc=>by
  rcases hk c hc with ⟨h1,h2⟩ | ⟨h1,h2,_⟩
  ·rw [h1,h2];rfl
  ·rw [h1,beq_eq_false_iff_ne.2 h2]
 have NH:(gX f).length≤16:=by
  rw [← vU]
  have:=List.length_filter_le qA n.aC.1
  omega
 have c0:yI (cut f 0)=aD.rep 16 af.nil:=by rw [EG];rfl
 have Pb:cut f 16=f:=by funext c;exact if_pos c.2
 refine bZ (Comes.next (c':= .L1 ((tO f 0).length:Int) ((0:Nat):Int) .nil n.av (yI (cut f 0))) ?_ ?_)
 ·simp only [kr]
  rw [hc,Option.bind_some]
  show (nw n).bind _=_
  rw [IB,Option.bind_some,vU,decide_eq_true (p:=(0:Int)=0) rfl,decide_eq_true (p:=((gX f).length:Int)=_) rfl]
  show (cA n.av).bind _=_
  rw [Cl _ hp,Option.bind_some,c0];rfl
 ·refine Comes.upto (fun i=>zW.L1 ((tO f i).length:Int) (i:Int) .nil n.av (yI (cut f i))) 16 (fun i hi=>?_) (Comes.stop ?_)
  ·simp only [kr]
   rw [decide_eq_true (p:=(i:Int)<16) (by omega),cond_true,ah (by omega)]
   rcases hk i hi with ⟨h1,h2⟩ | ⟨h1,h2,h3,h4⟩
   ·rw [h2,yf f i hi,h1, ← Uh f i hi h1,ah (by unfold bf;omega)]
    rw [if_pos (show af.nil.isNil=true from rfl),List.append_nil]
    rfl
   ·obtain ⟨a1,a2⟩:=Ru f i hi h1
    rw [beq_eq_false_iff_ne.2 h2,cond_false,ah (by omega),ah (by unfold bf;omega),a2,h3,Option.bind_some,ah (fun _=>h1),ah (fun _=>h1),beq_self_eq_true,Bool.not_true,Bool.false_or]
    have hz:((decide (n.aG=2)&&decide ((0:Int)<(f ⟨i,hi⟩).at.aX))&& !decide ((f ⟨i,hi⟩).at.aX=3))=false:=by
     by_cases e:n.aG=2
     ·rcases h4 e with h5 | h5
      ·rw [decide_eq_false (p:=(0:Int)<_) (by omega),Bool.and_false,Bool.false_and]
      ·rw [decide_eq_true h5,Bool.not_true,Bool.and_false]
     ·rw [decide_eq_false e,Bool.false_and,Bool.false_and]
    rw [hz,cond_false,ah (by omega),ah (by unfold bf;omega),xD _ i hi,Ny f i hi,yf f i hi,h1]
    rw [if_neg (by simp),List.length_append,List.length_singleton]
    rfl
  ·simp only [kr]
   rw [decide_eq_false (by decide),cond_false,Pb,Cn]
theorem Ph {n:Node} {ks:List Tree} (hc:rq n=some 0) (h:ks.length≠(n.aC.1.filter qA).length):oQ n ks=some (⟨.nil⟩,2):=by
 refine bZ (Comes.stop ?_)
 simp only [kr]
 rw [hc,Option.bind_some]
 show (nw n).bind _=_
 rw [IB,Option.bind_some,decide_eq_true (p:=(0:Int)=0) rfl,decide_eq_false (p:=(ks.length:Int)=_) (by omega)]
 rfl
theorem Pj {f:Fin 16→af} {x:Tree} (h:x∈gX f):∃ c,∃ hc:c<16,x=⟨f ⟨c,hc⟩⟩∧f ⟨c,hc⟩≠ .nil:=by
 unfold gX at h
 obtain ⟨y,hy,rfl⟩:=List.mem_map.1 h
 obtain ⟨h1,h2⟩:=List.mem_filter.1 hy
 obtain ⟨c,rfl⟩:=List.mem_ofFn.1 h1
 refine ⟨c.1,c.2,rfl,fun e=>?_⟩
 rw [e] at h2;cases h2
theorem Nz (n:Node):rC n n=some true:=by
 unfold rC
 rw [decide_eq_true rfl,beq_self_eq_true,beq_self_eq_true,(MR n.aC n.aC).2 rfl]
 rfl
theorem KO (l0:List b8) (key:aD 32 UInt8):∀ (n d i:Nat) (t:af) (l:List In),d<n→d+i≤64→TW d t→WG 100 d l→ow d t l→Comes (fF l0 key) (.L1 (i:Int) t) true
 | 0,d,i,t,l,h,_,_,_,_=>by omega
 | n+1,d,i,t,l,hd,hi,ht,hw,hs=>by
  have ih:=KO l0 key n
  obtain ⟨hN,hl⟩:=KH ht hw hs
  have hE:=Nu (.inr ht) hw hs
  have hR:=EJ (.inr ht) hw hs
  have hlen:=Np hw.wf
  have hC:=Pa hw hl
  obtain ⟨k,p,w,f,rfl,P⟩:=parts ht hw hs
  have O6:k≠ -1:=by rcases P.kind with h | h | h<;>omega
  have hO:=KM O6 hN
  have Fq:=P.len
  have vU:=EM (cC l) f fun c hc=>by
   rcases P.BJ c hc with ⟨h1,h2⟩ | ⟨d',l',h1,h2,h3,h4,h5,h6,_⟩
   ·rw [h1,h2];rfl
   ·rw [h2.isNil,h5,beq_eq_false_iff_ne.2 (BL (pF h3.wf h6).1)]
  have hM:oQ (cC l) (gX f)=some (⟨.node k p w f []⟩,0):=by
   have:=Rv (n:=cC l) (f:=f) hC (by rw [P.node];show p.length≤1000000;omega) fun c hc=>by
    rcases P.BJ c hc with ⟨h1,h2⟩ | ⟨d',l',h1,h2,h3,h4,h5,h6,h7⟩
    ·exact .inl ⟨h1,h2⟩
    ·exact .inr ⟨h2.isNil,by rw [h5];exact BL (pF h3.wf h6).1,by rw [h5];exact EJ (.inr h2) h3 h4,fun e=> .inr (h7 (by rw [P.node] at e;exact e))⟩
   rw [this]
   have e1:(cC l).aG=k:=by rw [P.node]
   have e2:(cC l).av=p:=by rw [P.node]
   have e3:(cC l).aq=w:=by rw [P.node]
   rw [e1,e2,e3]
  have NH:(gX f).length≤16:=by
   rw [← vU]
   have:=List.length_filter_le qA (cC l).aC.1
   have:=pT (cC l)
   omega
  have e1:(cC l).aG=k:=by rw [P.node]
  have pre:∀ c:oT⊕Bool,((bif (decide (((gX f).length:Int)=(0:Int))) then
    ((lD).bind fun (y7:Bool)=>some (.inr (y7&&(decide ((cC l).aG=(1:Int))))))
    else
    gO (0≤(1:Int)∧(1:Int)≤((gX f).length:Int)∧((gX f).length:Int)≤((gX f).length:Int)) (
    ((oQ (cC l) (sub (gX f) (1:Int) ((gX f).length:Int))).bind fun (By:(Tree×Int))=>
    (bif (!decide ((By.2)=(2:Int))) then
    some (.inr false)
    else
    gO (0≤((i:Int).tmod (32:Int))∧((i:Int).tmod (32:Int))<((32:Nat):Int)) (
    gO (((gX f).length:Int)≠0) (
    gO (0≤(((idx key.1 ((i:Int).tmod (32:Int))).toNat:Int).tmod ((gX f).length:Int))∧(((idx key.1 ((i:Int).tmod (32:Int))).toNat:Int).tmod ((gX f).length:Int))<((gX f).length:Int)) (
    gO (bf ((i:Int)+(1:Int))) (
    some (.inl (.L1 ((i:Int)+(1:Int)) ((idx (gX f) (((idx key.1 ((i:Int).tmod (32:Int))).toNat:Int).tmod ((gX f).length:Int))).fp))))))))))):Option (oT⊕Bool))=some c→fF l0 key (.L1 (i:Int) (.node k p w f []))=some c:=by
   intro c hc
   simp only [fF]
   rw [decide_eq_true (p:=(i:Int)<70) (by omega),cond_true,hO,Option.bind_some]
   rw [show mU ⟨af.node k p w f []⟩=some false from rfl,Option.bind_some,cond_false,hE,Option.bind_some,Rp hw hl,Option.bind_some,hM,Option.bind_some]
   rw [show ((!true)==false)=true from rfl,cond_true,Nz,Option.bind_some,decide_eq_true (p:=(0:Int)=0) rfl]
   rw [show ((((!true)||(!true))||(!true))==false)=true from rfl,cond_true,hE,Option.bind_some,beq_self_eq_true]
   rw [show (((((!true)||(!true))||(!true))||(!true))==false)=true from rfl,cond_true,hR,Option.bind_some,cond_true,Lu (by omega),Option.bind_some,beq_self_eq_true]
   rw [show (((((!true)||(!true))||(!true))||(!true))||(!true))=false from rfl,cond_false]
   exact hc
  by_cases h0:gX f=[]
  ·refine Comes.stop (pre _ ?_)
   rw [h0,e1,decide_eq_true (P.leaf.2 h0),KN]
   rfl
  ·have hpos:0<(gX f).length:=List.length_pos_iff.2 h0
   have hmod:(i:Int).tmod 32=((i%32:Nat):Int):=(Int.ofNat_tmod i 32).symm
   have Yp:∀ a:Nat,(a:Int).tmod ((gX f).length:Int)=((a%(gX f).length:Nat):Int):=fun a=>(Int.ofNat_tmod ..).symm
   have hlt:(idx key.1 ((i%32:Nat):Int)).toNat%(gX f).length<(gX f).length:=Nat.mod_lt _ hpos
   have abW:i%32<32:=Nat.mod_lt _ (by omega)
   obtain ⟨c,hc,hx,hne⟩:=Pj (eg (gX f) hlt)
   rcases P.BJ c hc with ⟨h1,_⟩ | ⟨d',l',h1,h2,h3,h4,_⟩
   ·exact absurd h1 hne
   ·refine Comes.next (pre _ ?_) (ih d' (i+1) (f ⟨c,hc⟩) l' (by omega) (by omega) h2 h3 h4)
    rw [decide_eq_false (by omega),cond_false,ah (by omega),show (1:Int)=((1:Nat):Int) from rfl,nD,Ph hC (by rw [vU,List.length_drop];omega),Option.bind_some]
    rw [hmod,Yp,hx,decide_eq_true (p:=(2:Int)=2) rfl,Bool.not_true,cond_false,ah (by omega),ah (by omega),ah (by omega),ah (by unfold bf;omega)]
    rfl
theorem Gz (l:List b8) (key:aD 32 UInt8):xp l key=some true:=by
 have h24:((l.take 24).map ye).length≤24:=by rw [List.length_map,List.length_take];omega
 have hval:∀ x∈(l.take 24).map ye,x.aq≠[]∧x.aq.length≤100:=by
  intro x hx
  obtain ⟨y,_,rfl⟩:=List.mem_map.1 hx
  exact Ug y
 obtain ⟨t,t1,t2⟩:=LD ((l.take 24).map ye) (by omega) fun x hx=>⟨(hval x hx).1,by have:=(hval x hx).2;omega⟩
 refine bZ (Comes.next (c':= .L1 ((0:Nat):Int) t) ?_ ?_)
 ·simp only [fF]
  rw [Rq,Option.bind_some,t1];rfl
 ·rcases t2.tn with rfl | ht
  ·refine Comes.stop ?_
   simp only [fF]
   rw [decide_eq_true (by decide),cond_true,Pe,Option.bind_some]
   show (lD).bind _=_
   rw [KN];rfl
  ·exact KO l key 65 64 0 t _ (by omega) (by omega) ht (GN 100 _ (by omega) hval (by omega)) t2.same
end Go.Proofs.YtlfjfoknbjcncaaGreat.K
namespace Go.Proofs.YtlfjfoknbjcncaaGreat.K
open Go Go.RowKit
set_option linter.unusedVariables false
theorem Ui {l:List D} (h:lI (.st [(.arr 32 (.int .u8)), .str]) l):∃ x:b8,l=g9 x:=by
 unfold lI Hh at h
 obtain ⟨a0,b0,rfl,h0,g0⟩:=h
 unfold Hh at g0
 obtain ⟨a1,b1,rfl,h1,g1⟩:=g0
 unfold Hh at g1
 subst g1
 obtain ⟨f0,rfl⟩:=(fun h=>Px (fun c h=>Po h) h) h0
 obtain ⟨f1,_,rfl⟩:=UM h1
 exact ⟨⟨f0,f1⟩,by simp [g9]⟩
theorem IV {l:List D} (h:lI (.slice (.st [(.arr 32 (.int .u8)), .str])) l):∃ x:(List b8),x.length≤maxLen∧l=[.slice ((x).map iD)]:=(fun h=>UN (c:=g9) (f:=iD) rfl B5 (fun l h=>Ui h) h) h
theorem IW {l:List D} (h:lI (.arr 32 (.int .u8)) l):∃ x:(aD 32 UInt8),l=x.1.map aa:=(fun h=>Px (fun c h=>Po h) h) h
theorem IX (l:(List b8)) (key:(aD 32 UInt8)):cD Tryz.prog 5 [.slice ((l).map iD), .agg ((key).1.map aa)] (.val (.bool true)):=Bz l key true (Gz l key)
end Go.Proofs.YtlfjfoknbjcncaaGreat.K
