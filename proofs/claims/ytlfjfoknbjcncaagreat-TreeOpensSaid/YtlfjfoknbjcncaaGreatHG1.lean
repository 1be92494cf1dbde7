/- Pure values, what they stand for in memory, and that this stays when memory grows. -/
import Derived.WalkKit
import Derived.Orders
import Derived.Laws.BytesString
import Derived.Laws.Tables
import Derived.Laws.Slices
import Derived.Laws.AppendOwn
namespace Go.Proofs.YtlfjfoknbjcncaaGreat.K
open Go
inductive D where
 | val (v:Value)
 | agg (l:List D)
 | slice (l:List D)
 | cF (l:List D)
 | m5 (z:Bool) (l:List D)
 | jT (f:Nat) (l:List D)
 | iface (t:Nat) (x:D)
 | tuple (l:List D)
 deriving Inhabited
abbrev Mem:=Nat→Nat→Option Value
abbrev dA:=Nat→Option (Nat×Nat)
def D.cells:D→List D
 | .agg l=>l
 | x=>[x]
mutual
def bk (m:Mem):D→Value→Prop
 | .val x,v=>v=x
 | .agg l,v=>∃ vs:List Value,v= .agg ⟨vs⟩∧bP m l vs∧∀ u∈vs,u.oneCell'=true
 | .slice l,v=>∃ (a:Option Addr) (c:Nat),v= .slice a l.length c∧l.length≤c∧(l=[]∨∃ b o,a=some ⟨b,o,none⟩∧gY m b l o)
 | .cF l,v=>∃ b o,v= .pointer (some ⟨b,o,none⟩)∧jw m b l o
 | .m5 z l,v=>(z=true∧v= .pointer none)∨(z=false∧∃ b o,v= .pointer (some ⟨b,o,none⟩)∧jw m b l o)
 | .jT f l,v=>∃ vs:List Value,v= .func (.func f) #[] ⟨vs⟩∧bP m l vs
 | .iface t x,v=>∃ u,v= .iface t u∧bk m x u
 | .tuple l,v=>∃ vs:List Value,v= .tuple ⟨vs⟩∧bP m l vs
def bP (m:Mem):List D→List Value→Prop
 | [],vs=>vs=[]
 | x::r,vs=>∃ v vr,vs=v::vr∧bk m x v∧bP m r vr
def jw (m:Mem) (b:Nat):List D→Nat→Prop
 | [],_=>True
 | x::r,o=>(∃ v,m b o=some v∧bk m x v)∧jw m b r (o+1)
def gY (m:Mem) (b:Nat):List D→Nat→Prop
 | [],_=>True
 | .agg l::r,o=>jw m b l o∧gY m b r (o+l.length)
 | x::r,o=>(∃ v,m b o=some v∧bk m x v)∧gY m b r (o+1)
end
def Mem.le (m m':Mem):Prop:=∀ b o v,m b o=some v→m' b o=some v
theorem Mem.le_refl (m:Mem):m.le m:=fun _ _ _ h=>h
theorem Mem.le_trans {a b c:Mem} (h:a.le b) (k:b.le c):a.le c:=fun x o v e=>k x o v (h x o v e)
mutual
theorem bk.mono {m m':Mem} (h:m.le m'):∀ (x:D) (v:Value),bk m x v→bk m' x v
 | .val x,v,e=>by simpa [bk] using e
 | .agg l,v,e=>by
  simp only [bk] at e ⊢
  obtain ⟨vs,e1,e2,e3⟩:=e
  exact ⟨vs,e1,bP.mono h l vs e2,e3⟩
 | .slice l,v,e=>by
  simp only [bk] at e ⊢
  obtain ⟨a,c,e1,e0,e2⟩:=e
  refine ⟨a,c,e1,e0,e2.imp id ?_⟩
  rintro ⟨b,o,e3,e4⟩
  exact ⟨b,o,e3,gY.mono h b l o e4⟩
 | .cF l,v,e=>by
  simp only [bk] at e ⊢
  obtain ⟨b,o,e1,e2⟩:=e
  exact ⟨b,o,e1,jw.mono h b l o e2⟩
 | .m5 z l,v,e=>by
  simp only [bk] at e ⊢
  rcases e with e | ⟨e0,b,o,e1,e2⟩
  ·exact .inl e
  ·exact .inr ⟨e0,b,o,e1,jw.mono h b l o e2⟩
 | .jT f l,v,e=>by
  simp only [bk] at e ⊢
  obtain ⟨vs,e1,e2⟩:=e
  exact ⟨vs,e1,bP.mono h l vs e2⟩
 | .iface t x,v,e=>by
  simp only [bk] at e ⊢
  obtain ⟨u,e1,e2⟩:=e
  exact ⟨u,e1,bk.mono h x u e2⟩
 | .tuple l,v,e=>by
  simp only [bk] at e ⊢
  obtain ⟨vs,e1,e2⟩:=e
  exact ⟨vs,e1,bP.mono h l vs e2⟩
theorem bP.mono {m m':Mem} (h:m.le m'):∀ (l:List D) (vs:List Value),bP m l vs→bP m' l vs
 | [],vs,e=>by simpa [bP] using e
 | x::r,vs,e=>by
  simp only [bP] at e ⊢
  obtain ⟨v,vr,e1,e2,e3⟩:=e
  exact ⟨v,vr,e1,bk.mono h x v e2,bP.mono h r vr e3⟩
theorem jw.mono {m m':Mem} (h:m.le m') (b:Nat):∀ (l:List D) (o:Nat),jw m b l o→jw m' b l o
 | [],o,e=>by simp [jw]
 | x::r,o,e=>by
  simp only [jw] at e ⊢
  obtain ⟨⟨v,e1,e2⟩,e3⟩:=e
  exact ⟨⟨v,h _ _ _ e1,bk.mono h x v e2⟩,jw.mono h b r _ e3⟩
theorem gY.mono {m m':Mem} (h:m.le m') (b:Nat):∀ (l:List D) (o:Nat),gY m b l o→gY m' b l o
 | [],o,e=>by simp [gY]
 | .agg l::r,o,e=>by
  simp only [gY] at e ⊢
  exact ⟨jw.mono h b l o e.1,gY.mono h b r _ e.2⟩
 | .val x::r,o,e=>by
  simp only [gY] at e ⊢
  obtain ⟨⟨v,e1,e2⟩,e3⟩:=e
  exact ⟨⟨v,h _ _ _ e1,bk.mono h _ v e2⟩,gY.mono h b r _ e3⟩
 | .slice x::r,o,e=>by
  simp only [gY] at e ⊢
  obtain ⟨⟨v,e1,e2⟩,e3⟩:=e
  exact ⟨⟨v,h _ _ _ e1,bk.mono h _ v e2⟩,gY.mono h b r _ e3⟩
 | .cF x::r,o,e=>by
  simp only [gY] at e ⊢
  obtain ⟨⟨v,e1,e2⟩,e3⟩:=e
  exact ⟨⟨v,h _ _ _ e1,bk.mono h _ v e2⟩,gY.mono h b r _ e3⟩
 | .m5 z x::r,o,e=>by
  simp only [gY] at e ⊢
  obtain ⟨⟨v,e1,e2⟩,e3⟩:=e
  exact ⟨⟨v,h _ _ _ e1,bk.mono h _ v e2⟩,gY.mono h b r _ e3⟩
 | .jT f x::r,o,e=>by
  simp only [gY] at e ⊢
  obtain ⟨⟨v,e1,e2⟩,e3⟩:=e
  exact ⟨⟨v,h _ _ _ e1,bk.mono h _ v e2⟩,gY.mono h b r _ e3⟩
 | .iface t x::r,o,e=>by
  simp only [gY] at e ⊢
  obtain ⟨⟨v,e1,e2⟩,e3⟩:=e
  exact ⟨⟨v,h _ _ _ e1,bk.mono h _ v e2⟩,gY.mono h b r _ e3⟩
 | .tuple x::r,o,e=>by
  simp only [gY] at e ⊢
  obtain ⟨⟨v,e1,e2⟩,e3⟩:=e
  exact ⟨⟨v,h _ _ _ e1,bk.mono h _ v e2⟩,gY.mono h b r _ e3⟩
end
end Go.Proofs.YtlfjfoknbjcncaaGreat.K
namespace Go.Proofs.YtlfjfoknbjcncaaGreat.K
open Go Go.RowKit
inductive PV where
 | d (x:D)
 | full (l:List D)
 | own (id:Nat) (l:List D)
 | aR (id off:Nat)
 | iG (id off n:Nat)
 | room (id n:Nat)
 | jT (f:Nat) (l:List PV)
 | agg (l:List PV)
 | tuple (l:List PV)
 | cond (g:Bool) (p:PV)
 | dJ
 deriving Inhabited
mutual
def aO (m:Mem) (ρ:dA):PV→Value→Prop
 | .d x,v=>bk m x v
 | .full l,v=>∃ a:Option Addr,v= .slice a l.length l.length∧(l=[]∨∃ b o,a=some ⟨b,o,none⟩∧gY m b l o)
 | .own id l,v=>(∃ b c,ρ id=some (b,c)∧v= .slice (some ⟨b,0,none⟩) l.length c∧l.length≤c∧gY m b l 0)∨(l=[]∧∃ a:Option Addr,v= .slice a 0 0)
 | .aR id off,v=>∃ b c,ρ id=some (b,c)∧v= .pointer (some ⟨b,off,none⟩)
 | .iG id off n,v=>(∃ b c k,ρ id=some (b,c)∧v= .slice (some ⟨b,off,none⟩) n k∧n≤k)∨(n=0∧∃ (a:Option Addr) (k:Nat),v= .slice a 0 k)
 | .room id n,v=>(∃ b c,ρ id=some (b,c)∧v= .slice (some ⟨b,0,none⟩) n c∧n≤c)∨(n=0∧∃ a:Option Addr,v= .slice a 0 0)
 | .jT f l,v=>∃ vs:List Value,v= .func (.func f) #[] ⟨vs⟩∧bC m ρ l vs
 | .agg l,v=>∃ vs:List Value,v= .agg ⟨vs⟩∧bC m ρ l vs∧∀ u∈vs,u.oneCell'=true
 | .tuple l,v=>∃ vs:List Value,v= .tuple ⟨vs⟩∧bC m ρ l vs
 | .cond g p,v=>(g=true→aO m ρ p v)∧(g=false→v=undef)
 | .dJ,_=>True
def bC (m:Mem) (ρ:dA):List PV→List Value→Prop
 | [],vs=>vs=[]
 | x::r,vs=>∃ v vr,vs=v::vr∧aO m ρ x v∧bC m ρ r vr
end
def dA.le (ρ ρ':dA):Prop:=∀ i x,ρ i=some x→ρ' i=some x
theorem dA.le_refl (ρ:dA):ρ.le ρ:=fun _ _ h=>h
theorem dA.le_trans {a b c:dA} (h:a.le b) (k:b.le c):a.le c:=fun i x e=>k i x (h i x e)
mutual
theorem aO.mono {m m':Mem} {ρ ρ':dA} (h:m.le m') (k:ρ.le ρ'):∀ (x:PV) (v:Value),aO m ρ x v→aO m' ρ' x v
 | .d x,v,e=>by simp only [aO] at e ⊢;exact e.mono h
 | .full l,v,e=>by
  simp only [aO] at e ⊢
  obtain ⟨a,e1,e2⟩:=e
  refine ⟨a,e1,e2.imp id ?_⟩
  rintro ⟨b,o,e3,e4⟩
  exact ⟨b,o,e3,e4.mono h⟩
 | .own id l,v,e=>by
  simp only [aO] at e ⊢
  rcases e with ⟨b,c,e1,e2,e0,e3⟩ | e
  ·exact .inl ⟨b,c,k _ _ e1,e2,e0,e3.mono h⟩
  ·exact .inr e
 | .aR id off,v,e=>by
  simp only [aO] at e ⊢
  obtain ⟨b,c,e1,e2⟩:=e
  exact ⟨b,c,k _ _ e1,e2⟩
 | .iG id off n,v,e=>by
  simp only [aO] at e ⊢
  rcases e with ⟨b,c,q,e1,e2⟩ | e
  ·exact .inl ⟨b,c,q,k _ _ e1,e2⟩
  ·exact .inr e
 | .room id n,v,e=>by
  simp only [aO] at e ⊢
  rcases e with ⟨b,c,e1,e2⟩ | e
  ·exact .inl ⟨b,c,k _ _ e1,e2⟩
  ·exact .inr e
 | .jT f l,v,e=>by
  simp only [aO] at e ⊢
  obtain ⟨vs,e1,e2⟩:=e
  exact ⟨vs,e1,bC.mono h k l vs e2⟩
 | .agg l,v,e=>by
  simp only [aO] at e ⊢
  obtain ⟨vs,e1,e2,e3⟩:=e
  exact ⟨vs,e1,bC.mono h k l vs e2,e3⟩
 | .tuple l,v,e=>by
  simp only [aO] at e ⊢
  obtain ⟨vs,e1,e2⟩:=e
  exact ⟨vs,e1,bC.mono h k l vs e2⟩
 | .cond g p,v,e=>by
  simp only [aO] at e ⊢
  exact ⟨fun hg=>aO.mono h k p v (e.1 hg),e.2⟩
 | .dJ,v,e=>by simp [aO]
theorem bC.mono {m m':Mem} {ρ ρ':dA} (h:m.le m') (k:ρ.le ρ'):∀ (l:List PV) (vs:List Value),bC m ρ l vs→bC m' ρ' l vs
 | [],vs,e=>by simpa [bC] using e
 | x::r,vs,e=>by
  simp only [bC] at e ⊢
  obtain ⟨v,vr,e1,e2,e3⟩:=e
  exact ⟨v,vr,e1,aO.mono h k x v e2,bC.mono h k r vr e3⟩
end
mutual
def PV.cN:PV→Option D
 | .d x=>some x
 | .full l=>some (.slice l)
 | .own _ l=>some (.slice l)
 | .aR .. =>none
 | .iG .. =>none
 | .room .. =>none
 | .jT f l=>(PV.dW l).map (.jT f)
 | .agg l=>(PV.dW l).map .agg
 | .tuple l=>(PV.dW l).map .tuple
 | .cond .. =>none
 | .dJ=>none
def PV.dW:List PV→Option (List D)
 | []=>some []
 | x::r=>match PV.cN x with | some y=>(PV.dW r).map (y::·) | none=>none
end
mutual
theorem aO.cN {m:Mem} {ρ:dA}:∀ (p:PV) (x:D) (v:Value),p.cN=some x→aO m ρ p v→bk m x v
 | .d x,y,v,h,e=>by simp only [PV.cN,Option.some.injEq] at h;subst h;simpa [aO] using e
 | .full l,y,v,h,e=>by
  simp only [PV.cN,Option.some.injEq] at h;subst h
  simp only [aO,bk] at e ⊢
  obtain ⟨a,e1,e2⟩:=e
  exact ⟨a,_,e1,Nat.le_refl _,e2⟩
 | .own id l,y,v,h,e=>by
  simp only [PV.cN,Option.some.injEq] at h;subst h
  simp only [aO,bk] at e ⊢
  rcases e with ⟨b,c,_,e2,e0,e3⟩ | ⟨rfl,a,e2⟩
  ·exact ⟨_,c,e2,e0, .inr ⟨b,0,rfl,e3⟩⟩
  ·exact ⟨a,0,e2,Nat.le_refl _, .inl rfl⟩
 | .aR ..,y,v,h,e=>by simp [PV.cN] at h
 | .iG ..,y,v,h,e=>by simp [PV.cN] at h
 | .room ..,y,v,h,e=>by simp [PV.cN] at h
 | .jT f l,y,v,h,e=>by
  simp only [PV.cN,Option.map_eq_some_iff] at h
  obtain ⟨z,h1,rfl⟩:=h
  simp only [aO,bk] at e ⊢
  obtain ⟨vs,e1,e2⟩:=e
  exact ⟨vs,e1,bC.dW l z vs h1 e2⟩
 | .agg l,y,v,h,e=>by
  simp only [PV.cN,Option.map_eq_some_iff] at h
  obtain ⟨z,h1,rfl⟩:=h
  simp only [aO,bk] at e ⊢
  obtain ⟨vs,e1,e2,e3⟩:=e
  exact ⟨vs,e1,bC.dW l z vs h1 e2,e3⟩
 | .tuple l,y,v,h,e=>by
  simp only [PV.cN,Option.map_eq_some_iff] at h
  obtain ⟨z,h1,rfl⟩:=h
  simp only [aO,bk] at e ⊢
  obtain ⟨vs,e1,e2⟩:=e
  exact ⟨vs,e1,bC.dW l z vs h1 e2⟩
 | .cond ..,y,v,h,e=>by simp [PV.cN] at h
 | .dJ,y,v,h,e=>by simp [PV.cN] at h
theorem bC.dW {m:Mem} {ρ:dA}:∀ (l:List PV) (z:List D) (vs:List Value),PV.dW l=some z→bC m ρ l vs→bP m z vs
 | [],z,vs,h,e=>by
  simp only [PV.dW,Option.some.injEq] at h;subst h;simpa [bC,bP] using e
 | p::r,z,vs,h,e=>by
  simp only [PV.dW] at h
  cases hp:PV.cN p with
  | none=>simp [hp] at h
  | some y=>
   simp only [hp,Option.map_eq_some_iff] at h
   obtain ⟨zr,h1,rfl⟩:=h
   simp only [bC,bP] at e ⊢
   obtain ⟨v,vr,e1,e2,e3⟩:=e
   exact ⟨v,vr,e1,aO.cN p y v hp e2,bC.dW r zr vr h1 e3⟩
end
inductive HO where
 | var (l:List PV)
 | spare (sz n:Nat)
 | dead
 | CX (sz:Nat) (l:List PV)
abbrev HM:=Nat→Option HO
def gr (m:Mem) (w:World):Prop:=∀ b o v,m b o=some v→w.cell? ⟨b,o,none⟩=some v∧v.oneCell'=true
theorem gr.lt {m:Mem} {w:World} (h:gr m w) {b o:Nat} {v:Value} (e:m b o=some v):b<w.heap.size:=
 block_lt_of_cell (h b o v e).1
def iw (m:Mem) (ρ:dA) (w:World) (i:Nat):HO→Prop
 | .var l=>(l=[]∧ρ i=none)∨∃ b c vs tail t,ρ i=some (b,c)∧w.heap[b]? =some (.cells ⟨vs++tail⟩ t (0,0))∧bC m ρ l vs∧(∀ u∈vs,u.oneCell'=true)∧∀ o,m b o=none
 | .spare sz n=>(n=0∧ρ i=none)∨∃ b c vs t fr,ρ i=some (b,c)∧w.heap[b]? =some (.cells vs t fr)∧vs.size=c*sz∧n≤c∧c≤maxLen∧vs.size≤fr.1+(if fr=(0,0) then vs.size else 0)∧∀ o,n*sz≤o→m b o=none
 | .dead=>False
 | .CX sz l=>(l=[]∧ρ i=none)∨∃ b c vs tail t,ρ i=some (b,c)∧w.heap[b]? =some (.cells ⟨vs++tail⟩ t (0,0))∧bC m ρ l vs∧(∀ u∈vs,u.oneCell'=true)∧(∀ o,m b o=none)∧vs.length+tail.length=c*sz∧c≤maxLen
structure eu (T:Nat→Prop) (m:Mem) (ρ:dA) (w:World) (H:HM):Prop where
 mem:gr m w
 entry:∀ i o,T i→H i=some o→iw m ρ w i o
 apart:∀ i j b c c',T i→T j→H i≠none→H j≠none→ρ i=some (b,c)→ρ j=some (b,c')→i=j
structure Ext (FB:Nat→Prop) (m:Mem) (w:World) (m':Mem) (w':World):Prop where
 mem:m.le m'
 size:w.heap.size≤w'.heap.size
 block:∀ b,b<w.heap.size→¬ FB b→w'.heap[b]? =w.heap[b]?
 os:w'.os=w.os
 tape:w'.tape=w.tape
 output:w'.output=w.output
 new:∀ b o v,m' b o=some v→m b o=some v∨FB b∨w.heap.size≤b
theorem Ext.refl (FB:Nat→Prop) (m:Mem) (w:World):Ext FB m w m w:=
 ⟨Mem.le_refl _,Nat.le_refl _,fun _ _ _=>rfl,rfl,rfl,rfl,fun _ _ _ h=> .inl h⟩
theorem Ext.trans {FB Rx:Nat→Prop} {m m1 m2:Mem} {w w1 w2:World} (h:Ext FB m w m1 w1) (k:Ext Rx m1 w1 m2 w2)
  (hf:∀ b,Rx b→FB b∨w.heap.size≤b):Ext FB m w m2 w2:=by
 refine ⟨Mem.le_trans h.mem k.mem,Nat.le_trans h.size k.size,fun b hb hn=>?_,k.os.trans h.os,k.tape.trans h.tape,k.output.trans h.output,fun b o v e=>?_⟩
 ·rw [k.block b (Nat.lt_of_lt_of_le hb h.size) (fun f=>(hf b f).elim hn (by omega)),h.block b hb hn]
 ·rcases k.new b o v e with e1 | e1 | e1
  ·exact h.new b o v e1
  ·exact (hf b e1).elim (fun x=> .inr (.inl x)) (fun x=> .inr (.inr x))
  ·exact .inr (.inr (Nat.le_trans h.size e1))
theorem Ext.mono {FB Rx:Nat→Prop} {m m1:Mem} {w w1:World} (h:Ext FB m w m1 w1) (hf:∀ b,FB b→Rx b):Ext Rx m w m1 w1:=
 ⟨h.mem,h.size,fun b hb hn=>h.block b hb (fun f=>hn (hf b f)),h.os,h.tape,h.output,fun b o v e=>(h.new b o v e).imp id (.imp (hf b) id)⟩
def yg (ρ:dA) (H:HM) (T:Nat→Prop) (b:Nat):Prop:=∃ i c,T i∧H i≠none∧ρ i=some (b,c)
structure St where
 S:Nat→PV
 H:HM
 nx:Nat
 df:List (Nat×List PV)
def oF:Value→PV
 | .slice none 0 0=> .full []
 | .pointer none=> .d (.m5 true [])
 | v=> .d (.val v)
def qP:Value→PV
 | .slice none 0 0=> .full []
 | .pointer none=> .d (.m5 true [])
 | .agg vs=>if vs.toList.all Value.oneCell' then .agg (vs.toList.map oF) else .dJ
 | v=> .d (.val v)
def aH (S:Nat→PV):Operand→PV
 | .tmp t=>S t
 | .const v=>qP v
 | .global _=> .dJ
 | .func f=> .d (.jT f [])
def eK (S:Nat→PV) (dst:Option Tmp) (v:PV):Nat→PV:=
 match dst with
 | some d=>fun t=>if t=d then v else S t
 | none=>S
theorem ND (m:Mem) (ρ:dA) (v:Value):aO m ρ (oF v) v:=by
 unfold oF
 split
 ·simp [aO]
 ·simp [aO,bk]
 ·simp [aO,bk]
theorem rI (m:Mem) (ρ:dA):∀ vs:List Value,bC m ρ (vs.map oF) vs
 | []=>by simp [bC]
 | v::r=>by simp only [List.map_cons,bC];exact ⟨v,r,rfl,ND m ρ v,rI m ρ r⟩
theorem GO (m:Mem) (ρ:dA) (v:Value):aO m ρ (qP v) v:=by
 unfold qP
 split
 ·simp [aO]
 ·simp [aO,bk]
 ·rename_i vs
  split
  ·rename_i h
   simp only [aO]
   exact ⟨vs.toList,rfl,rI m ρ _,fun u hu=>List.all_eq_true.1 h u hu⟩
  ·simp [aO]
 ·simp [aO,bk]
structure Ah (T:Nat→Prop) (nx cw:Nat) (m:Mem) (ρ:dA) (w:World) (H:HM) (m':Mem) (ρ':dA) (w':World) (H':HM):Prop where
 ext:Ext (yg ρ H T) m w m' w'
 pU:ρ.le ρ'
 fresh:∀ i,ρ' i=ρ i∨(nx≤i∧i<cw)
 valid:eu (fun i=>T i∨(nx≤i∧i<cw)) m' ρ' w' H'
 place:∀ b,yg ρ' H' (fun i=>T i∨(nx≤i∧i<cw)) b→yg ρ H T b∨w.heap.size≤b
structure n4 (P:Program) (o:Oper) (s:St) (v:PV) (H':HM) (cw:Nat) (T W:List Nat):Prop where
 le:s.nx≤cw
 keep:∀ i,i∉W→i<s.nx→H' i=s.H i
 nil:∀ i,cw≤i→H' i=none
 sub:∀ i∈W,i∈T
 old:∀ i∈T,i<s.nx
 sem:∀ (m:Mem) (ρ:dA) (a:Act) (w:World) (K:Act→World→Prop) (Q:Exit→Act→World→Prop),eu (· ∈T) m ρ w s.H→(∀ i,s.nx≤i→i<cw→ρ i=none)→
  (∀ x∈o.op.operands,aO m ρ (aH s.S x) (a.eval x))→
  (∀ u m' ρ' w',Ah (· ∈T) s.nx cw m ρ w s.H m' ρ' w' H'→aO m' ρ' v u→K (a.put o.dst u) w')→o.wp P a w K Q
def rJ (ops:Array Oper) (o:Oper) (S:Nat→PV):Option Bool:=
 match o.guard with
 | none=>none
 | some (j,want)=>
  match (ops[j]?).bind (·.dst) with
  | some t=>match S t with
   | .d (.val (.bool b))=>some (b==want)
   | .cond g (.d (.val (.bool b)))=>some (g&&(b==want))
   | _=>none
  | none=>none
structure Rec where
 T:List Nat
 W:List Nat
 lo:Nat
 hi:Nat
inductive qo (P:Program) (ops:Array Oper) (o:Oper) (s:St):PV→HM→Rec→Prop where
 | run {v:PV} {H':HM} {cw:Nat} {T W:List Nat} (h:o.guard=none) (hs:n4 P o s v H' cw T W):qo P ops o s v H' ⟨T,W,s.nx,cw⟩
 | gd {v:PV} {g:Bool} {T:List Nat} (h:rJ ops o s.S=some g) (old:∀ i∈T,i<s.nx)
   (hs:g=true→∃ S':Nat→PV,(∀ x∈o.op.operands,∀ m ρ u,aO m ρ (aH s.S x) u→aO m ρ (aH S' x) u)∧n4 P o ⟨S',s.H,s.nx,s.df⟩ v s.H s.nx T []):
   qo P ops o s (.cond g v) s.H ⟨T,[],s.nx,s.nx⟩
 | on {v:PV} {H':HM} {cw:Nat} {T W:List Nat} (h:rJ ops o s.S=some true) (S':Nat→PV) (hu:∀ x∈o.op.operands,∀ m ρ u,aO m ρ (aH s.S x) u→aO m ρ (aH S' x) u) (hs:n4 P o ⟨S',s.H,s.nx,s.df⟩ v H' cw T W):qo P ops o s v H' ⟨T,W,s.nx,cw⟩
end Go.Proofs.YtlfjfoknbjcncaaGreat.K
namespace Go.Proofs.YtlfjfoknbjcncaaGreat.K
open Go Go.RowKit
def xJ (m:Mem) (ρ:dA):List (Nat×List PV)→List Deferred→Prop
 | [],l=>l=[]
 | x::r,l=>∃ d l',l=d::l'∧d.target= .fn (.func x.1) #[]∧bC m ρ x.2 d.args.toList∧xJ m ρ r l'
theorem xJ.mono {m m':Mem} {ρ ρ':dA} (h:m.le m') (k:ρ.le ρ'):∀ (l:List (Nat×List PV)) (ds:List Deferred),xJ m ρ l ds→xJ m' ρ' l ds
 | [],_,e=>e
 | _::r,_,⟨d,l',e1,e2,e3,e4⟩=>⟨d,l',e1,e2,e3.mono h k,xJ.mono h k r l' e4⟩
structure Inv (N:Nat) (s:St) (m:Mem) (ρ:dA) (a:Act) (w:World):Prop where
 size:a.tmps.size=N
 defers:xJ m ρ s.df a.defers
 slots:∀ t,aO m ρ (s.S t) (a.tmps.getD t undef)
 valid:eu (fun _=>True) m ρ w s.H
 iq:∀ i,s.nx≤i→s.H i=none
 oX:∀ i,s.nx≤i→ρ i=none
structure oG (n0:Nat) (m0:Mem) (lG:dA) (w0:World) (H0:HM) (n:Nat) (m:Mem) (ρ:dA) (w:World) (H:HM):Prop where
 ext:Ext (yg lG H0 fun _=>True) m0 w0 m w
 pU:lG.le ρ
 place:∀ b,yg ρ H (fun _=>True) b→yg lG H0 (fun _=>True) b∨w0.heap.size≤b
 le:n0≤n
 old:∀ i,i<n0→ρ i=lG i
theorem oG.refl (n:Nat) (m:Mem) (ρ:dA) (w:World) (H:HM):oG n m ρ w H n m ρ w H:=⟨Ext.refl _ _ _,dA.le_refl _,fun _ h=> .inl h,Nat.le_refl _,fun _ _=>rfl⟩
theorem oG.trans {n0 n1 n2:Nat} {m0 m1 m2:Mem} {lG Gc lH:dA} {w0 w1 w2:World} {H0 H1 H2:HM} (h:oG n0 m0 lG w0 H0 n1 m1 Gc w1 H1) (k:oG n1 m1 Gc w1 H1 n2 m2 lH w2 H2):
  oG n0 m0 lG w0 H0 n2 m2 lH w2 H2:=by
 refine ⟨h.ext.trans k.ext h.place,dA.le_trans h.pU k.pU,fun b hb=>?_,Nat.le_trans h.le k.le,fun i hi=>?_⟩
 ·rcases k.place b hb with e | e
  ·exact h.place b e
  ·exact .inr (Nat.le_trans h.ext.size e)
 ·rw [k.old i (Nat.lt_of_lt_of_le hi h.le),h.old i hi]
theorem iw.pU {m:Mem} {ρ:dA} {w:World} {i:Nat} {o:HO} (h:iw m ρ w i o) {b c:Nat} (hr:ρ i=some (b,c)):b<w.heap.size:=by
 cases o with
 | var l=>
  rcases h with ⟨_,e⟩ | ⟨b',c',vs,tail,t,e1,e2,_⟩
  ·rw [hr] at e;cases e
  ·rw [hr] at e1;cases e1;exact (Array.getElem?_eq_some_iff.1 e2).1
 | spare sz n=>
  rcases h with ⟨_,e⟩ | ⟨b',c',vs,t,fr,e1,e2,_⟩
  ·rw [hr] at e;cases e
  ·rw [hr] at e1;cases e1;exact (Array.getElem?_eq_some_iff.1 e2).1
 | dead=>exact h.elim
 | CX sz l=>
  rcases h with ⟨_,e⟩ | ⟨b',c',vs,tail,t,e1,e2,_⟩
  ·rw [hr] at e;cases e
  ·rw [hr] at e1;cases e1;exact (Array.getElem?_eq_some_iff.1 e2).1
theorem iw.move {m m':Mem} {ρ ρ':dA} {w w':World} {i:Nat} {o:HO} (h:iw m ρ w i o) (hm:m.le m') (hr:ρ.le ρ') (hi:ρ' i=ρ i)
  (hb:∀ b c,ρ i=some (b,c)→w'.heap[b]? =w.heap[b]?) (hn:∀ b c,ρ i=some (b,c)→∀ o v,m' b o=some v→m b o=some v):iw m' ρ' w' i o:=by
 cases o with
 | var l=>
  rcases h with ⟨e0,e⟩ | ⟨b,c,vs,tail,t,e1,e2,e3,e5,e4⟩
  ·exact .inl ⟨e0,by rw [hi];exact e⟩
  refine .inr ⟨b,c,vs,tail,t,hr _ _ e1,by rw [hb b c e1];exact e2,e3.mono hm hr,e5,fun o=>?_⟩
  cases e:m' b o with
  | none=>rfl
  | some v=>have:=hn b c e1 o v e;rw [e4 o] at this;cases this
 | spare sz n=>
  rcases h with ⟨e0,e⟩ | ⟨b,c,vs,t,fr,e1,e2,e3,e4,e5,e6,e7⟩
  ·exact .inl ⟨e0,by rw [hi];exact e⟩
  refine .inr ⟨b,c,vs,t,fr,hr _ _ e1,by rw [hb b c e1];exact e2,e3,e4,e5,e6,fun o ho=>?_⟩
  cases e:m' b o with
  | none=>rfl
  | some v=>have:=hn b c e1 o v e;rw [e7 o ho] at this;cases this
 | dead=>exact h.elim
 | CX sz l=>
  rcases h with ⟨e0,e⟩ | ⟨b,c,vs,tail,t,e1,e2,e3,e5,e4,e6⟩
  ·exact .inl ⟨e0,by rw [hi];exact e⟩
  refine .inr ⟨b,c,vs,tail,t,hr _ _ e1,by rw [hb b c e1];exact e2,e3.mono hm hr,e5,fun o=>?_,e6⟩
  cases e:m' b o with
  | none=>rfl
  | some v=>have:=hn b c e1 o v e;rw [e4 o] at this;cases this
theorem combine {T:Nat→Prop} {nx cw:Nat} {m m':Mem} {ρ ρ':dA} {w w':World} {H Hs G Yt:HM} (V:eu (fun _=>True) m ρ w H)
  (Dn:Ah T nx cw m ρ w Hs m' ρ' w' Yt) (hs:∀ i,T i→Hs i=H i)
  (g1:∀ i,(T i∨(nx≤i∧i<cw))→G i=Yt i) (g2:∀ i,¬ (T i∨(nx≤i∧i<cw))→G i=H i) (hn:nx≤cw):
  eu (fun _=>True) m' ρ' w' G∧oG nx m ρ w H cw m' ρ' w' G:=by
 have live:∀ i,H i≠none→∀ b c,ρ i=some (b,c)→b<w.heap.size:=by
  intro i hi b c hr
  cases e:H i with
  | none=>exact absurd e hi
  | some o=>exact (V.entry i o trivial e).pU hr
 have NG:∀ i,¬ (T i∨(nx≤i∧i<cw))→H i≠none→∀ b c,ρ i=some (b,c)→¬ yg ρ Hs T b:=by
  rintro i hi hl b c hr ⟨j,c',hj,hjl,W4⟩
  rw [hs j hj] at hjl
  have:=V.apart i j b c c' trivial trivial hl hjl hr W4
  subst this
  exact hi (.inl hj)
 have Ry:∀ b,yg ρ Hs T b→yg ρ H (fun _=>True) b:=by
  rintro b ⟨j,c',hj,hjl,W4⟩
  exact ⟨j,c',trivial,by rw [← hs j hj];exact hjl,W4⟩
 refine ⟨⟨Dn.valid.mem,?_,?_⟩,⟨Dn.ext.mono Ry,Dn.pU,?_,hn,fun i hi=>(Dn.fresh i).elim id (by omega)⟩⟩
 ·intro i o _ hG
  by_cases hi:T i∨(nx≤i∧i<cw)
  ·rw [g1 i hi] at hG
   exact Dn.valid.entry i o hi hG
  ·rw [g2 i hi] at hG
   have hl:H i≠none:=by rw [hG];simp
   have he:=V.entry i o trivial hG
   have hsame:ρ' i=ρ i:=(Dn.fresh i).elim id (fun h=>absurd (.inr h) hi)
   refine he.move Dn.ext.mem Dn.pU hsame (fun b c hr=>?_) (fun b c hr o v e=>?_)
   ·exact Dn.ext.block _ (he.pU hr) (NG i hi hl _ _ hr)
   ·have hlt:=he.pU hr
    rcases Dn.ext.new _ o v e with h | h | h
    ·exact h
    ·exact absurd h (NG i hi hl _ _ hr)
    ·omega
 ·intro i j b c c' _ _ hi hj gi kn
  have old:∀ k,¬ (T k∨(nx≤k∧k<cw))→G k≠none→∀ c,ρ' k=some (b,c)→ρ k=some (b,c)∧b<w.heap.size:=by
   intro k hk NH c hr
   rw [g2 k hk] at NH
   have hsame:ρ' k=ρ k:=(Dn.fresh k).elim id (fun h=>absurd (.inr h) hk)
   rw [hsame] at hr
   exact ⟨hr,live k NH b c hr⟩
  have mix:∀ k l ck cl,(T k∨(nx≤k∧k<cw))→¬ (T l∨(nx≤l∧l<cw))→G k≠none→G l≠none→ρ' k=some (b,ck)→ρ' l=some (b,cl)→False:=by
   intro k l ck cl hk hl NH P2 Ul hrl
   obtain ⟨Yu,abF⟩:=old l hl P2 cl hrl
   rw [g1 k hk] at NH
   rcases Dn.place b ⟨k,ck,hk,NH,Ul⟩ with h | h
   ·rw [g2 l hl] at P2
    exact NG l hl P2 b cl Yu h
   ·omega
  by_cases hi':T i∨(nx≤i∧i<cw)<;>by_cases hj':T j∨(nx≤j∧j<cw)
  ·rw [g1 i hi'] at hi
   rw [g1 j hj'] at hj
   exact Dn.valid.apart i j b c c' hi' hj' hi hj gi kn
  ·exact (mix i j c c' hi' hj' hi hj gi kn).elim
  ·exact (mix j i c' c hj' hi' hj hi kn gi).elim
  ·have h1:=old i hi' hi c gi
   have h2:=old j hj' hj c' kn
   rw [g2 i hi'] at hi
   rw [g2 j hj'] at hj
   exact V.apart i j b c c' trivial trivial hi hj h1.1 h2.1
 ·rintro b ⟨i,c,_,hl,hr⟩
  by_cases hi:T i∨(nx≤i∧i<cw)
  ·rw [g1 i hi] at hl
   exact (Dn.place b ⟨i,c,hi,hl,hr⟩).imp (Ry b) id
  ·rw [g2 i hi] at hl
   have hsame:ρ' i=ρ i:=(Dn.fresh i).elim id (fun h=>absurd (.inr h) hi)
   rw [hsame] at hr
   exact .inl ⟨i,_,trivial,hl,hr⟩
theorem ER {s:St} {m:Mem} {ρ:dA} {a:Act} (h:∀ t,aO m ρ (s.S t) (a.tmps.getD t undef)) (x:Operand):aO m ρ (aH s.S x) (a.eval x):=by
 cases x with
 | tmp t=>exact h t
 | const v=>exact GO m ρ v
 | global g=>simp [aH,aO]
 | func f=>simp only [aH,aO,bk,Act.eval];exact ⟨[],rfl,by simp [bP]⟩
theorem ud {S:Nat→PV} {m:Mem} {ρ:dA} {a:Act} {N:Nat} (hN:a.tmps.size=N) (h:∀ t,aO m ρ (S t) (a.tmps.getD t undef)) (dst:Option Tmp) (hd:∀ d,dst=some d→d<N)
  {p:PV} {v:Value} (hv:aO m ρ p v) (t:Nat):aO m ρ (eK S dst p t) ((a.put dst v).tmps.getD t undef):=by
 cases dst with
 | none=>exact h t
 | some d=>
  have hlt:d<a.tmps.size:=by rw [hN];exact hd d rfl
  simp only [eK,Act.put]
  by_cases e:t=d
  ·subst e
   simp only [if_true]
   rw [Array.getD_eq_getD_getElem?,Array.getElem?_setIfInBounds_self_of_lt hlt]
   exact hv
  ·simp only [if_neg e]
   have:(a.tmps.setIfInBounds d v).getD t undef=a.tmps.getD t undef:=by
    rw [Array.getD_eq_getD_getElem?,Array.getD_eq_getD_getElem?,Array.getElem?_setIfInBounds_ne (fun h=>e h.symm)]
   rw [this];exact h t
theorem DM {ops:Array Oper} {o:Oper} {S:Nat→PV} {m:Mem} {ρ:dA} {a:Act} {N:Nat} (hN:a.tmps.size=N) (vE:∀ (k:Nat) (o:Oper) (d:Nat),ops[k]? =some o→o.dst=some d→d<N)
  (h:∀ t∈o.looksAt ops,aO m ρ (S t) (a.tmps.getD t undef)) {b:Bool} (hw:rJ ops o S=some b):Region.wanted o (yielded ops a.tmps)=b:=by
 unfold rJ at hw
 unfold Region.wanted
 cases hg:o.guard with
 | none=>simp [hg] at hw
 | some gw=>
  obtain ⟨j,want⟩:=gw
  simp only [hg] at hw ⊢
  cases hj:(ops[j]?).bind (·.dst) with
  | none=>simp [hj] at hw
  | some t=>
   simp only [hj] at hw
   have hr:=h t (by simp [Oper.looksAt,hg,hj])
   have hlt:t<a.tmps.size:=by
    simp only [Option.bind_eq_some_iff] at hj
    obtain ⟨oj,h1,h2⟩:=hj
    rw [hN]
    exact vE j oj t h1 h2
   have hy:yielded ops a.tmps j=match a.tmps.getD t undef with | .bool b=>some b | _=>none:=by
    unfold yielded
    simp only [hj,Option.bind_some,Array.getElem?_eq_getElem hlt]
    have:a.tmps.getD t undef=a.tmps[t]:=by simp [Array.getD_eq_getD_getElem?,hlt]
    rw [this]
    split<;>simp_all
   rw [hy]
   cases hS:S t with
   | d x=>
    simp only [hS] at hw hr
    cases x with
    | val v=>
     cases v with
     | bool b'=>
      simp only [Option.some.injEq] at hw
      simp only [aO,bk] at hr
      rw [hr]
      subst hw
      cases b'<;>cases want<;>rfl
     | _=>simp at hw
    | _=>simp at hw
   | cond g q=>
    simp only [hS] at hw hr
    cases q with
    | d x=>
     cases x with
     | val v=>
      cases v with
      | bool b'=>
       simp only [Option.some.injEq] at hw
       simp only [aO,bk] at hr
       subst hw
       cases g with
       | true=>
        rw [hr.1 rfl]
        cases b'<;>cases want<;>rfl
       | false=>
        rw [hr.2 rfl]
        rfl
      | _=>simp at hw
     | _=>simp at hw
    | _=>simp at hw
   | _=>simp [hS] at hw
theorem Ah.same {T:Nat→Prop} {nx:Nat} {m:Mem} {ρ:dA} {w:World} {H:HM} (V:eu T m ρ w H):Ah T nx nx m ρ w H m ρ w H:=by
 refine ⟨Ext.refl _ _ _,dA.le_refl _,fun i=> .inl rfl,⟨V.mem,fun i o h=>V.entry i o (h.elim id (by omega)),fun i j b c c' hi hj=>V.apart i j b c c' (hi.elim id (by omega)) (hj.elim id (by omega))⟩,?_⟩
 rintro b ⟨i,c,hi,hl,hr⟩
 exact .inl ⟨i,c,hi.elim id (by omega),hl,hr⟩
theorem wF {ops:Array Oper} {o:Oper} {s:St} {m:Mem} {ρ:dA} {a:Act} (h:∀ t∈o.looksAt ops,aO m ρ (s.S t) (a.tmps.getD t undef)) (x:Operand) (hx:x∈o.op.operands):aO m ρ (aH s.S x) (a.eval x):=by
 cases x with
 | tmp t=>exact h t (by
   unfold Oper.looksAt
   exact List.mem_append_left _ (List.mem_filterMap.2 ⟨.tmp t,by simpa using hx,rfl⟩))
 | const v=>exact GO m ρ v
 | global g=>simp [aH,aO]
 | func f=>simp only [aH,aO,bk,Act.eval];exact ⟨[],rfl,by simp [bP]⟩
theorem Jp {P:Program} {ops:Array Oper} {N:Nat} (vE:∀ (k:Nat) (o:Oper) (d:Nat),ops[k]? =some o→o.dst=some d→d<N) {i:Nat} {o:Oper} (ho:ops[i]? =some o)
  {s:St} {v:PV} {H':HM} {R:Rec} (hst:qo P ops o s v H' R) {m:Mem} {ρ:dA} {a:Act} {w:World} (hN:a.tmps.size=N)
  (hl:∀ t∈o.looksAt ops,aO m ρ (s.S t) (a.tmps.getD t undef)) (V:eu (· ∈R.T) m ρ w s.H) (hf:∀ i,R.lo≤i→i<R.hi→ρ i=none)
  {K:Act→World→Prop} {Q:Exit→Act→World→Prop}
  (hK:∀ u m' ρ' w',Ah (· ∈R.T) R.lo R.hi m ρ w s.H m' ρ' w' H'→aO m' ρ' v u→K (a.put o.dst u) w'):wpOp P ops Q i K a w:=by
 unfold wpOp
 simp only [ho]
 cases hst with
 | run hg hs=>
  have:Region.wanted o (yielded ops a.tmps)=true:=by unfold Region.wanted;simp only [hg]
  rw [this]
  simp only [if_true]
  exact .inl (hs.sem m ρ a w K Q V hf (wF hl) hK)
 | gd hg old hs=>
  rename_i v g T
  rw [DM hN vE hl hg]
  cases g with
  | true=>
   simp only [if_true]
   obtain ⟨S',hu,hs'⟩:=hs rfl
   refine .inl (hs'.sem m ρ a w K Q V hf (fun x hx=>hu x hx m ρ _ (wF hl x hx)) ?_)
   intro u m' ρ' w' hD hr
   exact hK u m' ρ' w' hD (by simpa [aO] using hr)
  | false=>
   simp only [Bool.false_eq_true,if_false]
   exact hK _ m ρ w (Ah.same V) (by simp [aO])
 | on hg S' hu hs=>
  rw [DM hN vE hl hg]
  simp only [if_true]
  exact .inl (hs.sem m ρ a w K Q V hf (fun x hx=>hu x hx m ρ _ (wF hl x hx)) hK)
theorem qo.facts {P:Program} {ops:Array Oper} {o:Oper} {s:St} {v:PV} {H':HM} {R:Rec} (h:qo P ops o s v H' R):
  R.lo=s.nx∧R.lo≤R.hi∧(∀ i,i∉R.W→i<s.nx→H' i=s.H i)∧((∀ i,s.nx≤i→s.H i=none)→∀ i,R.hi≤i→H' i=none)∧(∀ i∈R.W,i∈R.T)∧(∀ i∈R.T,i<s.nx):=by
 cases h with
 | run hg hs=>exact ⟨rfl,hs.le,hs.keep,fun _=>hs.nil,hs.sub,hs.old⟩
 | gd hg old hs=>exact ⟨rfl,Nat.le_refl _,fun _ _ _=>rfl,fun h=>h,by simp,old⟩
 | on hg S' hu hs=>exact ⟨rfl,hs.le,hs.keep,fun _=>hs.nil,hs.sub,hs.old⟩
theorem LG {P:Program} {ops:Array Oper} {N:Nat} (vE:∀ (k:Nat) (o:Oper) (d:Nat),ops[k]? =some o→o.dst=some d→d<N) {i:Nat} {o:Oper} (ho:ops[i]? =some o)
  {s:St} {v:PV} {H':HM} {R:Rec} (hst:qo P ops o s v H' R) {m:Mem} {ρ:dA} {a:Act} {w:World} (hI:Inv N s m ρ a w)
  {K:Act→World→Prop} {Q:Exit→Act→World→Prop}
  (hK:∀ a' w' m' ρ',Inv N ⟨eK s.S o.dst v,H',R.hi,s.df⟩ m' ρ' a' w'→oG s.nx m ρ w s.H R.hi m' ρ' w' H'→K a' w'):wpOp P ops Q i K a w:=by
 have hd:∀ d,o.dst=some d→d<N:=fun d h=>vE i o d ho h
 obtain ⟨f1,f2,f3,f4,f5,f6⟩:=hst.facts
 have KP:∀ i,R.lo≤i→i<R.hi→ρ i=none:=fun i h1 _=>hI.oX i (by omega)
 refine Jp vE ho hst hI.size (fun t _=>hI.slots t) ⟨hI.valid.mem,fun i o _ h=>hI.valid.entry i o trivial h,fun i j b c c' _ _=>hI.valid.apart i j b c c' trivial trivial⟩ KP ?_
 intro u m' ρ' w' hD hu
 have g2:∀ i,¬ ((fun j=>j∈R.T) i∨(R.lo≤i∧i<R.hi))→H' i=s.H i:=by
  intro i hi
  by_cases hlt:i<s.nx
  ·exact f3 i (fun h=>hi (.inl (f5 i h))) hlt
  ·have:R.hi≤i:=by
    rcases Nat.lt_or_ge i R.hi with h | h
    ·exact absurd (.inr ⟨by omega,h⟩) hi
    ·exact h
   rw [f4 hI.iq i this,hI.iq i (by omega)]
 obtain ⟨V',A⟩:=combine hI.valid hD (fun _ _=>rfl) (fun _ _=>rfl) g2 f2
 rw [f1] at A
 refine hK _ _ m' ρ' ⟨?_,?_,?_,V',f4 hI.iq,?_⟩ A
 ·cases o.dst<;>simp [Act.put,hI.size]
 ·have:=hI.defers.mono A.ext.mem A.pU
  cases o.dst<;>simpa [Act.put] using this
 ·exact ud hI.size (fun t=>(hI.slots t).mono A.ext.mem A.pU) o.dst hd hu
 ·intro i hi
  have hi':R.hi≤i:=hi
  rcases hD.fresh i with h | h
  ·rw [h];exact hI.oX i (by omega)
  ·omega
inductive DN (P:Program) (ops:Array Oper):List Oper→St→St→List Rec→Prop where
 | nil (s:St):DN P ops [] s s []
 | cons {o:Oper} {r:List Oper} {s s2:St} {v:PV} {H':HM} {R:Rec} {L:List Rec} (h:qo P ops o s v H' R) (k:DN P ops r ⟨eK s.S o.dst v,H',R.hi,s.df⟩ s2 L):DN P ops (o::r) s s2 (R::L)
end Go.Proofs.YtlfjfoknbjcncaaGreat.K
namespace Go.Proofs.YtlfjfoknbjcncaaGreat.K
open Go Go.RowKit
def pick {β:Type} (D wr:Nat→Bool) (val:Nat→β):Nat→β
 | 0=>val 0
 | k+1=>if D k&&wr k then val (k+1) else pick D wr val k
theorem AJ {β:Type} {D wr:Nat→Bool} {val:Nat→β} {n i:Nat} (hv:∀ k,k<n→wr k=false→val (k+1)=val k) (hi:i≤n)
  (h1:∀ j,j<i→wr j=true→D j=true) (h2:∀ j,i≤j→j<n→D j=true→wr j=false):pick D wr val n=val i:=by
 have a:∀ k,k≤i→pick D wr val k=val k:=by
  intro k
  induction k with
  | zero=>intro _;rfl
  | succ k ih=>
   intro hk
   simp only [pick]
   cases hw:wr k with
   | true=>rw [h1 k (by omega) hw];rfl
   | false=>rw [hv k (by omega) hw,Bool.and_false];simpa using ih (by omega)
 have b:∀ d,i+d≤n→pick D wr val (i+d)=val i:=by
  intro d
  induction d with
  | zero=>intro _;exact a i (Nat.le_refl _)
  | succ d ih=>
   intro hd
   show pick D wr val ((i+d)+1)=val i
   simp only [pick]
   cases hD:D (i+d) with
   | true=>rw [h2 (i+d) (by omega) (by omega) hD];simpa using ih (by omega)
   | false=>simpa using ih (by omega)
 have:=b (n-i) (by omega)
 rwa [show i+(n-i)=n from by omega] at this
def qF (D:Nat→Bool) (i:Nat):Nat→Bool:=fun k=>if k=i then true else D k
theorem Ai {β:Type} {D wr:Nat→Bool} {val:Nat→β} {i:Nat} (h:wr i=false):∀ n,pick (qF D i) wr val n=pick D wr val n:=by
 intro n
 induction n with
 | zero=>rfl
 | succ n ih=>
  simp only [pick,ih]
  by_cases e:n=i
  ·subst e;simp [h]
  ·simp [qF,e]
theorem Jq {β:Type} {D wr:Nat→Bool} {val:Nat→β} {i:Nat} (h:wr i=true) {n:Nat} (hi:i<n) (h2:∀ j,i<j→j<n→D j=true→wr j=false):
  pick (qF D i) wr val n=val (i+1):=by
 have b:∀ d,i+1+d≤n→pick (qF D i) wr val (i+1+d)=val (i+1):=by
  intro d
  induction d with
  | zero=>intro _;simp [pick,qF,h]
  | succ d ih=>
   intro hd
   show pick (qF D i) wr val ((i+1+d)+1)=_
   simp only [pick]
   have hne:¬ i+1+d=i:=by omega
   cases hD:D (i+1+d) with
   | true=>rw [h2 (i+1+d) (by omega) (by omega) hD];simpa using ih (by omega)
   | false=>simpa [qF,hne,hD] using ih (by omega)
 have:=b (n-i-1) (by omega)
 rwa [show i+1+(n-i-1)=n from by omega] at this
def cnt (D:Nat→Bool):Nat→Nat
 | 0=>0
 | k+1=>cnt D k+if D k then 0 else 1
theorem Rz {D:Nat→Bool} {i:Nat} (h:D i=false):∀ n,cnt (qF D i) n+(if i<n then 1 else 0)=cnt D n:=by
 intro n
 induction n with
 | zero=>simp [cnt]
 | succ n ih=>
  simp only [cnt]
  by_cases e:n=i
  ·subst e
   simp only [Nat.lt_irrefl,if_false,Nat.add_zero] at ih
   simp [qF,h,ih]
  ·have:(i<n+1)↔i<n:=by omega
   simp only [this,qF,if_neg e]
   omega
theorem P3 {D:Nat→Bool}:∀ n,cnt D n=0→∀ k,k<n→D k=true:=by
 intro n
 induction n with
 | zero=>intro _ k hk;omega
 | succ n ih=>
  intro h k hk
  simp only [cnt] at h
  by_cases e:k=n
  ·subst e
   cases hD:D k with
   | true=>rfl
   | false=>simp [hD] at h
  ·exact ih (by omega) k (by omega)
inductive AB (ops:Array Oper):Nat→Nat→Prop where
 | WI {k:Nat} {o:Oper} {e:Edge} (ho:ops[k]? =some o) (he:e∈o.after) (hb:Region.binds .any e=true):AB ops e.on k
 | trans {i j k:Nat} (h:AB ops i j) (h':AB ops j k):AB ops i k
def GQ (acc:List Nat) (o:Oper):Nat:=o.after.toList.foldl (fun s e=>if Region.binds .any e then s||| 2 ^ e.on||| acc.getD e.on 0 else s) 0
def masks:List Oper→List Nat→List Nat
 | [],acc=>acc
 | o::r,acc=>masks r (acc++[GQ acc o])
theorem I0 {ops:Array Oper} {k:Nat} {o:Oper} (ho:ops[k]? =some o) {acc:List Nat} (hacc:∀ j i,(acc.getD j 0).testBit i=true→AB ops i j) (i:Nat)
  (h:(GQ acc o).testBit i=true):AB ops i k:=by
 unfold GQ at h
 have key:∀ (l:List Edge) (s:Nat),(∀ e∈l,e∈o.after)→(∀ i,s.testBit i=true→AB ops i k)→
   ∀ i,(l.foldl (fun s e=>if Region.binds .any e then s||| 2 ^ e.on||| acc.getD e.on 0 else s) s).testBit i=true→AB ops i k:=by
  intro l
  induction l with
  | nil=>intro s _ hs i hi;exact hs i hi
  | cons e r ih=>
   intro s hl hs i hi
   simp only [List.foldl_cons] at hi
   refine ih _ (fun e' he'=>hl e' (List.mem_cons_of_mem _ he')) ?_ i hi
   intro i hi
   by_cases hb:Region.binds .any e=true
   ·have he:AB ops e.on k:= .WI ho (hl e (List.mem_cons_self ..)) hb
    simp only [hb,if_true,Nat.testBit_or,Bool.or_eq_true] at hi
    rcases hi with (hi | hi) | hi
    ·exact hs i hi
    ·rw [Nat.testBit_two_pow] at hi
     have:e.on=i:=by simpa using hi
     subst this;exact he
    ·exact .trans (hacc _ _ hi) he
   ·simp only [hb] at hi
    exact hs i hi
 exact key o.after.toList 0 (fun e he=>by simpa using he) (by simp) i h
theorem LH {ops:Array Oper}:∀ (r:List Oper) (acc:List Nat),(∀ j,r[j]? =ops[acc.length+j]?)→(∀ j i,(acc.getD j 0).testBit i=true→AB ops i j)→
  ∀ j i,((masks r acc).getD j 0).testBit i=true→AB ops i j:=by
 intro r
 induction r with
 | nil=>intro acc _ h;exact h
 | cons o r ih=>
  intro acc hr hacc
  simp only [masks]
  refine ih _ (fun j=>?_) ?_
  ·have:=hr (j+1)
   simp only [List.getElem?_cons_succ] at this
   rw [this,List.length_append,List.length_singleton]
   congr 1
   omega
  ·intro j i h
   by_cases hj:j<acc.length
   ·rw [List.getD_eq_getElem?_getD,List.getElem?_append_left hj, ← List.getD_eq_getElem?_getD] at h
    exact hacc j i h
   ·by_cases e:j=acc.length
    ·subst e
     rw [List.getD_eq_getElem?_getD,List.getElem?_append_right (Nat.le_refl _)] at h
     simp only [Nat.sub_self,List.getElem?_cons_zero,Option.getD_some] at h
     have ho:ops[acc.length]? =some o:=by have:=hr 0;simpa using this.symm
     exact I0 ho hacc i h
    ·rw [List.getD_eq_getElem?_getD,List.getElem?_eq_none (by simp;omega)] at h
     simp at h
def pW (ops:Array Oper) (x y:Oper):Bool:=
  (match x.dst with
   | some d=>(y.looksAt ops).contains d||y.dst==some d
   | none=>false)||
  (match y.dst with
   | some d=>(x.looksAt ops).contains d
   | none=>false)
def nG (ops:Array Oper) (M:List Nat):Bool:=
 (List.range ops.size).all fun j=>(List.range j).all fun i=>(M.getD j 0).testBit i|| !pW ops (ops.getD i default) (ops.getD j default)
def backward (ops:Array Oper):Bool:=
 (List.range ops.size).all fun j=>(ops.getD j default).after.all fun e=> !Region.binds .any e||e.on<j
def rK (ops:Array Oper) (N:Nat):Bool:=ops.all fun o=>match o.dst with | some d=>d<N | none=>true
theorem DO {ops:Array Oper} {N:Nat} (h:rK ops N=true) (k:Nat) (o:Oper) (d:Nat) (ho:ops[k]? =some o) (hd:o.dst=some d):d<N:=by
 unfold rK at h
 rw [Array.all_eq_true_iff_forall_mem] at h
 have:=h o (Array.mem_of_getElem? ho)
 simpa [hd] using this
def BN (ops:Array Oper) (N:Nat) (M:List Nat):Bool:=rK ops N&&backward ops&&nG ops M
theorem rO {ops:Array Oper} {M:List Nat} (h:nG ops M=true) {i j:Nat} {x y:Oper} (hij:i<j) (hx:ops[i]? =some x) (hy:ops[j]? =some y)
  (hc:pW ops x y=true):(M.getD j 0).testBit i=true:=by
 unfold nG at h
 rw [List.all_eq_true] at h
 have hj:j<ops.size:=(Array.getElem?_eq_some_iff.1 hy).1
 have h1:=h j (List.mem_range.2 hj)
 rw [List.all_eq_true] at h1
 have h2:=h1 i (List.mem_range.2 hij)
 have ex:ops.getD i default=x:=by simp [Array.getD_eq_getD_getElem?,hx]
 have ey:ops.getD j default=y:=by simp [Array.getD_eq_getD_getElem?,hy]
 rw [ex,ey,hc] at h2
 simpa using h2
theorem GR {ops:Array Oper} (h:backward ops=true) {j:Nat} {o:Oper} (ho:ops[j]? =some o) {e:Edge} (he:e∈o.after) (hb:Region.binds .any e=true):e.on<j:=by
 unfold backward at h
 rw [List.all_eq_true] at h
 have hj:j<ops.size:=(Array.getElem?_eq_some_iff.1 ho).1
 have h1:=h j (List.mem_range.2 hj)
 have eo:ops.getD j default=o:=by simp [Array.getD_eq_getD_getElem?,ho]
 rw [eo,Array.all_eq_true_iff_forall_mem] at h1
 have:=h1 e he
 simpa [hb] using this
def fH (M:List Nat) (L:List Rec):Prop:=
 ∀ i j a b,i<j→L[i]? =some a→L[j]? =some b→((∃ x,x∈b.T∧(x∈a.W∨(a.lo≤x∧x<a.hi)))∨(∃ x,x∈a.T∧x∈b.W))→(M.getD j 0).testBit i=true
theorem DN.trace {P:Program} {ops:Array Oper}:∀ {r:List Oper} {s s':St} {L:List Rec},DN P ops r s s' L→
  ∃ (st:Nat→St) (rc:Nat→Rec),st 0=s∧st r.length=s'∧∀ k o,r[k]? =some o→L[k]? =some (rc k)∧∃ v H',qo P ops o (st k) v H' (rc k)∧st (k+1)=⟨eK (st k).S o.dst v,H',(rc k).hi,(st k).df⟩:=by
 intro r
 induction r with
 | nil=>
  intro s s' L h
  cases h
  exact ⟨fun _=>s,fun _=>⟨[],[],0,0⟩,rfl,rfl,by simp⟩
 | cons o r ih=>
  intro s s' L h
  cases h with
  | cons h1 h2=>
   rename_i v H' R L'
   obtain ⟨st,rc,e0,e1,e2⟩:=ih h2
   refine ⟨fun k=>match k with | 0=>s | k+1=>st k,fun k=>match k with | 0=>R | k+1=>rc k,rfl,e1,?_⟩
   intro k o' hk
   cases k with
   | zero=>
    simp only [List.getElem?_cons_zero,Option.some.injEq] at hk
    subst hk
    refine ⟨rfl,v,H',h1,?_⟩
    exact e0
   | succ k=>
    simp only [List.getElem?_cons_succ] at hk ⊢
    exact e2 k o' hk
end Go.Proofs.YtlfjfoknbjcncaaGreat.K
namespace Go.Proofs.YtlfjfoknbjcncaaGreat.K
open Go Go.RowKit
section
variable {P:Program} {ops:Array Oper} {N:Nat} {M:List Nat} {L:List Rec} {s0:St} {m0:Mem} {lG:dA} {w0:World}
variable (st:Nat→St) (rc:Nat→Rec)
def CZ (ops:Array Oper) (t k:Nat):Bool:=(ops.getD k default).dst==some t
def rP (rc:Nat→Rec) (x k:Nat):Bool:=decide (x∈(rc k).W∨((rc k).lo≤x∧x<(rc k).hi))
structure JD (ops:Array Oper) (N:Nat) (s0:St) (m0:Mem) (lG:dA) (w0:World) (D:Nat→Bool) (m:Mem) (ρ:dA) (a:Act) (w:World):Prop where
 size:a.tmps.size=N
 defers:xJ m ρ s0.df a.defers
 slots:∀ t,aO m ρ (pick D (CZ ops t) (fun k=>(st k).S t) ops.size) (a.tmps.getD t undef)
 valid:eu (fun _=>True) m ρ w (fun x=>pick D (rP rc x) (fun k=>(st k).H x) ops.size)
 W6:∀ i,ρ i≠none→i<s0.nx∨∃ k,k<ops.size∧D k=true∧(rc k).lo≤i∧i<(rc k).hi
 RA:oG s0.nx m0 lG w0 s0.H s0.nx m ρ w (fun x=>pick D (rP rc x) (fun k=>(st k).H x) ops.size)
 closed:∀ k o,D k=true→ops[k]? =some o→∀ e∈o.after,Region.binds .any e=true→D e.on=true
theorem ue {D:Nat→Bool} (cl:∀ k o,D k=true→ops[k]? =some o→∀ e∈o.after,Region.binds .any e=true→D e.on=true) {i k:Nat} (hik:AB ops i k)
  (hk:D k=true∨∀ o,ops[k]? =some o→∀ e∈o.after,Region.binds .any e=true→D e.on=true):D i=true:=by
 induction hik with
 | WI ho he hb=>exact hk.elim (fun h=>cl _ _ h ho _ he hb) (fun h=>h _ ho _ he hb)
 | trans _ _ ih1 ih2=>exact ih1 (.inl (ih2 hk))
structure Tr (P:Program) (ops:Array Oper) (L:List Rec) (s0:St):Prop where
 zero:st 0=s0
 step:∀ k o,ops[k]? =some o→L[k]? =some (rc k)∧∃ v H',qo P ops o (st k) v H' (rc k)∧st (k+1)=⟨eK (st k).S o.dst v,H',(rc k).hi,(st k).df⟩
 iq:∀ i,s0.nx≤i→s0.H i=none
variable {st rc}
theorem Tr.RB (h:Tr st rc P ops L s0):∀ k,k≤ops.size→∀ i,(st k).nx≤i→(st k).H i=none:=by
 intro k
 induction k with
 | zero=>intro _ i hi;rw [h.zero] at hi ⊢;exact h.iq i hi
 | succ k ih=>
  intro hk i hi
  obtain ⟨_,v,H',h1,h2⟩:=h.step k ops[k] (Array.getElem?_eq_getElem (by omega))
  rw [h2] at hi ⊢
  exact h1.facts.2.2.2.1 (ih (by omega)) i hi
theorem Tr.DP (h:Tr st rc P ops L s0) {k:Nat} (hk:k<ops.size):(rc k).lo=(st k).nx∧(rc k).hi=(st (k+1)).nx∧(rc k).lo≤(rc k).hi:=by
 obtain ⟨_,v,H',h1,h2⟩:=h.step k ops[k] (Array.getElem?_eq_getElem hk)
 refine ⟨h1.facts.1,by rw [h2],h1.facts.2.1⟩
theorem Tr.mono (h:Tr st rc P ops L s0) {i j:Nat} (hij:i≤j) (hj:j≤ops.size):(st i).nx≤(st j).nx:=by
 induction j with
 | zero=>
      have:i=0:=by omega
      subst this;exact Nat.le_refl _
 | succ j ih=>
  by_cases e:i=j+1
  ·subst e;exact Nat.le_refl _
  ·have h1:=ih (by omega) (by omega)
   have h2:=h.DP (k:=j) (by omega)
   omega
theorem Tr.RC (h:Tr st rc P ops L s0) (t k:Nat) (hk:k<ops.size) (hw:CZ ops t k=false):(st (k+1)).S t=(st k).S t:=by
 obtain ⟨_,v,H',h1,h2⟩:=h.step k ops[k] (Array.getElem?_eq_getElem hk)
 rw [h2]
 have:(ops.getD k default)=ops[k]:=by simp [Array.getD_eq_getD_getElem?,hk]
 simp only [CZ,this] at hw
 show eK (st k).S ops[k].dst v t=_
 cases hd:ops[k].dst with
 | none=>rfl
 | some d=>
  rw [hd] at hw
  simp only [eK]
  rw [if_neg]
  intro e
  subst e
  simp at hw
theorem Tr.NI (h:Tr st rc P ops L s0) (x k:Nat) (hk:k<ops.size) (hw:rP rc x k=false):(st (k+1)).H x=(st k).H x:=by
 obtain ⟨_,v,H',h1,h2⟩:=h.step k ops[k] (Array.getElem?_eq_getElem hk)
 obtain ⟨f1,f2,f3,f4,f5,f6⟩:=h1.facts
 simp only [rP,decide_eq_false_iff_not,not_or,not_and,Nat.not_lt] at hw
 rw [h2]
 show H' x=_
 by_cases hlt:x<(st k).nx
 ·exact f3 x hw.1 hlt
 ·have h3:(rc k).hi≤x:=hw.2 (by omega)
  rw [f4 (h.RB k (by omega)) x h3,h.RB k (by omega) x (by omega)]
theorem Tr.RD (h:Tr st rc P ops L s0) (nH:∀ j i,(M.getD j 0).testBit i=true→AB ops i j) (hs:nG ops M=true) {D:Nat→Bool}
  (cl:∀ k o,D k=true→ops[k]? =some o→∀ e∈o.after,Region.binds .any e=true→D e.on=true) {i:Nat} {o:Oper} (ho:ops[i]? =some o) (hD:D i=false)
  (hr:∀ e∈o.after,Region.binds .any e=true→D e.on=true) {t:Nat} (ht:t∈o.looksAt ops):pick D (CZ ops t) (fun k=>(st k).S t) ops.size=(st i).S t:=by
 have hi:i<ops.size:=(Array.getElem?_eq_some_iff.1 ho).1
 refine AJ (fun k hk hw=>h.RC t k hk hw) (by omega) (fun j hj hw=>?_) (fun j hij hj GS=>?_)
 ·have hj':j<ops.size:=by omega
  have Gd:ops[j]? =some ops[j]:=Array.getElem?_eq_getElem hj'
  have hc:pW ops ops[j] o=true:=by
   have:(ops.getD j default)=ops[j]:=by simp [Array.getD_eq_getD_getElem?,hj']
   simp only [CZ,this,beq_iff_eq] at hw
   simp [pW,hw,ht]
  have:=nH _ _ (rO hs hj Gd ho hc)
  exact ue cl this (.inr fun o' ho'=>by rw [ho] at ho';cases ho';exact hr)
 ·cases hw:CZ ops t j with
  | false=>rfl
  | true=>
   exfalso
   by_cases e:j=i
   ·subst e;rw [hD] at GS;cases GS
   ·have Gd:ops[j]? =some ops[j]:=Array.getElem?_eq_getElem hj
    have hc:pW ops o ops[j]=true:=by
     have:(ops.getD j default)=ops[j]:=by simp [Array.getD_eq_getD_getElem?,hj]
     simp only [CZ,this,beq_iff_eq] at hw
     simp [pW,hw,ht]
    have:=nH _ _ (rO hs (by omega) ho Gd hc)
    have:=ue cl this (.inl GS)
    rw [hD] at this;cases this
theorem Tr.LI (_h:Tr st rc P ops L s0) (nH:∀ j i,(M.getD j 0).testBit i=true→AB ops i j) (hs:nG ops M=true) {D:Nat→Bool}
  (cl:∀ k o,D k=true→ops[k]? =some o→∀ e∈o.after,Region.binds .any e=true→D e.on=true) {i:Nat} {o:Oper} (ho:ops[i]? =some o) (hD:D i=false)
  (t:Nat):pick (qF D i) (CZ ops t) (fun k=>(st k).S t) ops.size=if o.dst=some t then (st (i+1)).S t else pick D (CZ ops t) (fun k=>(st k).S t) ops.size:=by
 have hi:i<ops.size:=(Array.getElem?_eq_some_iff.1 ho).1
 have eo:(ops.getD i default)=o:=by simp [Array.getD_eq_getD_getElem?,ho]
 by_cases e:o.dst=some t
 ·rw [if_pos e]
  refine Jq (by simp [CZ,eo,e]) hi (fun j hij hj GS=>?_)
  cases hw:CZ ops t j with
  | false=>rfl
  | true=>
   exfalso
   have Gd:ops[j]? =some ops[j]:=Array.getElem?_eq_getElem hj
   have hc:pW ops o ops[j]=true:=by
    have:(ops.getD j default)=ops[j]:=by simp [Array.getD_eq_getD_getElem?,hj]
    simp only [CZ,this,beq_iff_eq] at hw
    simp [pW,hw,e]
   have:=nH _ _ (rO hs hij ho Gd hc)
   have:=ue cl this (.inl GS)
   rw [hD] at this;cases this
 ·rw [if_neg e]
  exact Ai (by simp [CZ,eo,e]) _
theorem Tr.BO (h:Tr st rc P ops L s0) {i:Nat} {o:Oper} (ho:ops[i]? =some o):L[i]? =some (rc i):=(h.step i o ho).1
theorem Tr.RF (h:Tr st rc P ops L s0) (nH:∀ j i,(M.getD j 0).testBit i=true→AB ops i j) (hL:fH M L) {D:Nat→Bool}
  (cl:∀ k o,D k=true→ops[k]? =some o→∀ e∈o.after,Region.binds .any e=true→D e.on=true) {i:Nat} {o:Oper} (ho:ops[i]? =some o) (hD:D i=false)
  (hr:∀ e∈o.after,Region.binds .any e=true→D e.on=true) {x:Nat} (hx:x∈(rc i).T):pick D (rP rc x) (fun k=>(st k).H x) ops.size=(st i).H x:=by
 have hi:i<ops.size:=(Array.getElem?_eq_some_iff.1 ho).1
 refine AJ (fun k hk hw=>h.NI x k hk hw) (by omega) (fun j hj hw=>?_) (fun j hij hj GS=>?_)
 ·have Gd:ops[j]? =some ops[j]:=Array.getElem?_eq_getElem (by omega)
  simp only [rP,decide_eq_true_eq] at hw
  have:=nH _ _ (hL j i _ _ hj (h.BO Gd) (h.BO ho) (.inl ⟨x,hx,hw⟩))
  exact ue cl this (.inr fun o' ho'=>by rw [ho] at ho';cases ho';exact hr)
 ·cases hw:rP rc x j with
  | false=>rfl
  | true=>
   exfalso
   by_cases e:j=i
   ·subst e;rw [hD] at GS;cases GS
   ·have Gd:ops[j]? =some ops[j]:=Array.getElem?_eq_getElem hj
    simp only [rP,decide_eq_true_eq] at hw
    have Yv:x<(st i).nx:=by
     obtain ⟨_,v,H',h1,_⟩:=h.step i o ho
     exact h1.facts.2.2.2.2.2 x hx
    have hm:=h.mono (i:=i) (j:=j) (by omega) (by omega)
    have hlo:=(h.DP hj).1
    have I1:x∈(rc j).W:=hw.elim id (fun h=>by omega)
    have:=nH _ _ (hL i j _ _ (by omega) (h.BO ho) (h.BO Gd) (.inr ⟨x,hx,I1⟩))
    have:=ue cl this (.inl GS)
    rw [hD] at this;cases this
theorem Tr.FA (h:Tr st rc P ops L s0) (nH:∀ j i,(M.getD j 0).testBit i=true→AB ops i j) (hL:fH M L) {D:Nat→Bool}
  (cl:∀ k o,D k=true→ops[k]? =some o→∀ e∈o.after,Region.binds .any e=true→D e.on=true) {i:Nat} {o:Oper} (ho:ops[i]? =some o) (hD:D i=false)
  (x:Nat):pick (qF D i) (rP rc x) (fun k=>(st k).H x) ops.size=if rP rc x i=true then (st (i+1)).H x else pick D (rP rc x) (fun k=>(st k).H x) ops.size:=by
 have hi:i<ops.size:=(Array.getElem?_eq_some_iff.1 ho).1
 cases e:rP rc x i with
 | true=>
  simp only [if_true]
  refine Jq e hi (fun j hij hj GS=>?_)
  cases hw:rP rc x j with
  | false=>rfl
  | true=>
   exfalso
   have Gd:ops[j]? =some ops[j]:=Array.getElem?_eq_getElem hj
   obtain ⟨_,v,H',h1,_⟩:=h.step i o ho
   obtain ⟨_,v2,H2,h2,_⟩:=h.step j _ Gd
   have hm:=h.mono (i:=i+1) (j:=j) (by omega) (by omega)
   have hlo:=(h.DP hj).1
   have hhi:=(h.DP hi).2.1
   have hle:=(h.DP hi).2.2
   have abG:=(h.DP hi).1
   simp only [rP,decide_eq_true_eq] at hw e
   have Yv:x<(rc i).hi:=by
    rcases e with e | e
    ·have:=h1.facts.2.2.2.2.2 x (h1.facts.2.2.2.2.1 x e)
     omega
    ·exact e.2
   have I1:x∈(rc j).W:=hw.elim id (fun h=>by omega)
   have:=nH _ _ (hL i j _ _ hij (h.BO ho) (h.BO Gd) (.inl ⟨x,h2.facts.2.2.2.2.1 x I1,e⟩))
   have:=ue cl this (.inl GS)
   rw [hD] at this;cases this
 | false=>
  simp only [Bool.false_eq_true,if_false]
  exact Ai e _
end
theorem LJ {P:Program} {ops:Array Oper} {N:Nat} {M:List Nat} {L:List Rec} {s0:St} {m0:Mem} {lG:dA} {w0:World} {st:Nat→St} {rc:Nat→Rec}
  (h:Tr st rc P ops L s0) (vE:∀ (k:Nat) (o:Oper) (d:Nat),ops[k]? =some o→o.dst=some d→d<N)
  (nH:∀ j i,(M.getD j 0).testBit i=true→AB ops i j) (hs:nG ops M=true) (hL:fH M L) {D:Nat→Bool} {m:Mem} {ρ:dA} {a:Act} {w:World}
  (J:JD st rc ops N s0 m0 lG w0 D m ρ a w) {i:Nat} {o:Oper} (ho:ops[i]? =some o) (hD:D i=false) (hr:∀ e∈o.after,Region.binds .any e=true→D e.on=true)
  {K:Act→World→Prop} {Q:Exit→Act→World→Prop} (hK:∀ a' w' m' ρ',JD st rc ops N s0 m0 lG w0 (qF D i) m' ρ' a' w'→K a' w'):wpOp P ops Q i K a w:=by
 have hi:i<ops.size:=(Array.getElem?_eq_some_iff.1 ho).1
 obtain ⟨hLi,v,H',hst,hnext⟩:=h.step i o ho
 obtain ⟨f1,f2,f3,f4,f5,f6⟩:=hst.facts
 have cl:=J.closed
 have hT:∀ x,x∈(rc i).T→pick D (rP rc x) (fun k=>(st k).H x) ops.size=(st i).H x:=fun x hx=>h.RF nH hL cl ho hD hr hx
 have KP:∀ x,(rc i).lo≤x→x<(rc i).hi→ρ x=none:=by
  intro x h1 h2
  cases e:ρ x with
  | none=>rfl
  | some y=>
   exfalso
   have aah:=h.DP hi
   rcases J.W6 x (by rw [e];simp) with h3 | ⟨k,hk,Um,h4,h5⟩
   ·have:=h.mono (i:=0) (j:=i) (by omega) (by omega)
    rw [h.zero] at this
    omega
   ·have hk':=h.DP hk
    rcases Nat.lt_trichotomy k i with hlt | heq | hgt
    ·have:=h.mono (i:=k+1) (j:=i) (by omega) (by omega);omega
    ·subst heq;rw [hD] at Um;cases Um
    ·have:=h.mono (i:=i+1) (j:=k) (by omega) (by omega);omega
 have V:eu (· ∈(rc i).T) m ρ w (st i).H:=by
  refine ⟨J.valid.mem,fun x ob hx hH=>J.valid.entry x ob trivial ?_,fun x y b c c' hx hy hHx hHy=>J.valid.apart x y b c c' trivial trivial ?_ ?_⟩
  ·show pick D (rP rc x) (fun k=>(st k).H x) ops.size=_
   rw [hT x hx,hH]
  ·show pick D (rP rc x) (fun k=>(st k).H x) ops.size≠_
   rw [hT x hx];exact hHx
  ·show pick D (rP rc y) (fun k=>(st k).H y) ops.size≠_
   rw [hT y hy];exact hHy
 refine Jp vE ho hst J.size (fun t ht=>?_) V KP ?_
 ·have:=h.RD nH hs cl ho hD hr ht
  rw [← this];exact J.slots t
 intro u m' ρ' w' RG hu
 have hd:∀ d,o.dst=some d→d<N:=fun d hd=>vE i o d ho hd
 have g1:∀ x,((fun j=>j∈(rc i).T) x∨((rc i).lo≤x∧x<(rc i).hi))→(fun x=>pick (qF D i) (rP rc x) (fun k=>(st k).H x) ops.size) x=H' x:=by
  intro x hx
  show pick (qF D i) (rP rc x) (fun k=>(st k).H x) ops.size=H' x
  rw [h.FA nH hL cl ho hD x]
  split
  ·rw [hnext]
  ·rename_i hw
   simp only [Bool.not_eq_true,rP,decide_eq_false_iff_not,not_or,not_and,Nat.not_lt] at hw
   have hx':x∈(rc i).T:=hx.elim id (fun h=>by have:=hw.2 h.1;omega)
   rw [hT x hx']
   exact (f3 x hw.1 (f6 x hx')).symm
 have g2:∀ x,¬ ((fun j=>j∈(rc i).T) x∨((rc i).lo≤x∧x<(rc i).hi))→(fun x=>pick (qF D i) (rP rc x) (fun k=>(st k).H x) ops.size) x=(fun x=>pick D (rP rc x) (fun k=>(st k).H x) ops.size) x:=by
  intro x hx
  show pick (qF D i) (rP rc x) (fun k=>(st k).H x) ops.size=pick D (rP rc x) (fun k=>(st k).H x) ops.size
  rw [h.FA nH hL cl ho hD x,if_neg]
  simp only [Bool.not_eq_true,rP,decide_eq_false_iff_not]
  exact fun h=>hx (h.imp (f5 x) id)
 obtain ⟨V',A⟩:=combine J.valid RG (fun x hx=>(hT x hx).symm) g1 g2 f2
 have hlo:s0.nx≤(rc i).lo:=by
  have:=h.mono (i:=0) (j:=i) (by omega) (by omega)
  rw [h.zero] at this
  omega
 refine hK _ _ m' ρ' ⟨?_,?_,?_,V',?_,J.RA.trans ⟨A.ext,A.pU,A.place,Nat.le_refl _,fun x hx=>A.old x (Nat.lt_of_lt_of_le hx hlo)⟩,?_⟩
 ·cases o.dst<;>simp [Act.put,J.size]
 ·have:=J.defers.mono A.ext.mem A.pU
  cases o.dst<;>simpa [Act.put] using this
 ·intro t
  rw [h.LI nH hs cl ho hD t]
  split
  ·rename_i Pk
   rw [hnext]
   show aO m' ρ' (eK (st i).S o.dst v t) _
   have hlt:t<a.tmps.size:=by rw [J.size];exact hd t Pk
   simp only [Pk,eK,Act.put,if_true]
   rw [Array.getD_eq_getD_getElem?,Array.getElem?_setIfInBounds_self_of_lt hlt]
   exact hu
  ·rename_i Pk
   have:(a.put o.dst u).tmps.getD t undef=a.tmps.getD t undef:=by
    cases I2:o.dst with
    | none=>rfl
    | some d=>
     have hne:d≠t:=fun e=>Pk (by rw [I2,e])
     simp only [Act.put]
     rw [Array.getD_eq_getD_getElem?,Array.getD_eq_getD_getElem?,Array.getElem?_setIfInBounds_ne hne]
   rw [this]
   exact (J.slots t).mono A.ext.mem A.pU
 ·intro x hx
  rcases RG.fresh x with e | e
  ·rw [e] at hx
   rcases J.W6 x hx with h3 | ⟨k,hk,Um,h4⟩
   ·exact .inl h3
   ·refine .inr ⟨k,hk,?_,h4⟩
    simp only [qF]
    split
    ·rfl
    ·exact Um
  ·exact .inr ⟨i,hi,by simp [qF],e⟩
 ·intro k ok hk hok e he hb
  simp only [qF] at hk ⊢
  split
  ·rfl
  ·by_cases e':k=i
   ·subst e'
    rw [ho] at hok;cases hok
    exact hr e he hb
   ·rw [if_neg e'] at hk
    exact J.closed k ok hk hok e he hb
theorem KQ {P:Program} {ops:Array Oper} {N:Nat} {M:List Nat} {L:List Rec} {s0 s':St} {m0:Mem} {lG:dA} {w0:World} {a0:Act}
  (vE:rK ops N=true) (W7:backward ops=true) (hM:M=masks ops.toList []) (hs:nG ops M=true) (NJ:DN P ops ops.toList s0 s' L) (hL:fH M L)
  (hI:Inv N s0 m0 lG a0 w0) {Q:Exit→Act→World→Prop} (hQ:∀ a' w' m' ρ',Inv N s' m' ρ' a' w'→oG s0.nx m0 lG w0 s0.H s'.nx m' ρ' w' s'.H→Q .normal a' w'):
  wpAny P .any ops Q ops.size (Array.replicate ops.size false) a0 w0:=by
 obtain ⟨st,rc,e0,e1,e2⟩:=NJ.trace
 have h:Tr st rc P ops L s0:=⟨e0,fun k o ho=>e2 k o (by simpa using ho),hI.iq⟩
 have KR:st ops.size=s':=by simpa using e1
 have hdf:∀ k,k≤ops.size→(st k).df=s0.df:=by
  intro k
  induction k with
  | zero=>intro _;rw [e0]
  | succ k ih=>
   intro hk
   obtain ⟨_,v,H',_,h2⟩:=h.step k ops[k] (Array.getElem?_eq_getElem (by omega))
   rw [h2]
   exact ih (by omega)
 have nH:∀ j i,(M.getD j 0).testBit i=true→AB ops i j:=by
  subst hM
  exact LH ops.toList [] (by simp) (by simp)
 have main:∀ (fuel:Nat) (listed:Array Bool) (a:Act) (w:World) (m:Mem) (ρ:dA),listed.size=ops.size→cnt (fun k=>listed.getD k false) ops.size≤fuel→
   JD st rc ops N s0 m0 lG w0 (fun k=>listed.getD k false) m ρ a w→wpAny P .any ops Q fuel listed a w:=by
  intro fuel
  induction fuel with
  | zero=>
   intro listed a w m ρ hsz hc J
   have hall:=P3 ops.size (Nat.le_zero.1 hc)
   refine ⟨?_,?_⟩
   ·unfold Region.ready
    rw [List.filter_eq_nil_iff]
    intro k hk
    have hk':=List.mem_range.1 hk
    have h1:=hall k hk'
    simp only [Array.getD_eq_getD_getElem?] at h1 ⊢
    rw [Array.getElem?_eq_getElem (by omega)] at h1 ⊢
    simp only [Option.getD_some] at h1 ⊢
    simp [h1]
   ·refine hQ a w m ρ ?_ ?_
    ·have hS:∀ t,pick (fun k=>listed.getD k false) (CZ ops t) (fun k=>(st k).S t) ops.size=s'.S t:=by
      intro t
      have:=AJ (D:=fun k=>listed.getD k false) (wr:=CZ ops t) (val:=fun k=>(st k).S t) (n:=ops.size) (i:=ops.size) (fun k hk hw=>h.RC t k hk hw) (Nat.le_refl _) (fun j hj _=>hall j hj) (fun j h1 h2=>by omega)
      rw [this,KR]
     have hH:(fun x=>pick (fun k=>listed.getD k false) (rP rc x) (fun k=>(st k).H x) ops.size)=s'.H:=by
      funext x
      have:=AJ (D:=fun k=>listed.getD k false) (wr:=rP rc x) (val:=fun k=>(st k).H x) (n:=ops.size) (i:=ops.size) (fun k hk hw=>h.NI x k hk hw) (Nat.le_refl _) (fun j hj _=>hall j hj) (fun j h1 h2=>by omega)
      rw [this,KR]
     refine ⟨J.size,by rw [← KR,hdf ops.size (Nat.le_refl _)];exact J.defers,fun t=>by rw [← hS t];exact J.slots t,by rw [← hH];exact J.valid,?_,?_⟩
     ·intro i hi
      have:=h.RB ops.size (Nat.le_refl _) i (by rw [KR];exact hi)
      rw [KR] at this;exact this
     ·intro i hi
      cases e:ρ i with
      | none=>rfl
      | some y=>
       exfalso
       have KS:=h.mono (i:=0) (j:=ops.size) (by omega) (Nat.le_refl _)
       rw [h.zero,KR] at KS
       rcases J.W6 i (by rw [e];simp) with h3 | ⟨k,hk,_,h4,h5⟩
       ·omega
       ·have h6:=h.mono (i:=k+1) (j:=ops.size) (by omega) (Nat.le_refl _)
        have h7:=h.DP hk
        rw [KR] at h6
        omega
    ·have hH:(fun x=>pick (fun k=>listed.getD k false) (rP rc x) (fun k=>(st k).H x) ops.size)=s'.H:=by
      funext x
      have:=AJ (D:=fun k=>listed.getD k false) (wr:=rP rc x) (val:=fun k=>(st k).H x) (n:=ops.size) (i:=ops.size) (fun k hk hw=>h.NI x k hk hw) (Nat.le_refl _) (fun j hj _=>hall j hj) (fun j h1 h2=>by omega)
      rw [this,KR]
     have KS:=h.mono (i:=0) (j:=ops.size) (by omega) (Nat.le_refl _)
     rw [h.zero,KR] at KS
     rw [← hH]
     exact ⟨J.RA.ext,J.RA.pU,J.RA.place,KS,J.RA.old⟩
  | succ fuel ih=>
   intro listed a w m ρ hsz hc J
   refine ⟨?_,?_⟩
   ·intro hnone
    have hall:∀ k,k<ops.size→listed.getD k false=true:=by
     intro k
     induction k using Nat.strongRecOn with
     | _ k ihk=>
      intro hk
      cases e:listed.getD k false with
      | true=>rfl
      | false=>
       exfalso
       have:k∈Region.ready .any ops listed:=by
        rw [mem_ready]
        refine ⟨?_,ops[k],Array.getElem?_eq_getElem hk,fun e he hb=>?_⟩
        ·simp only [Array.getD_eq_getD_getElem?] at e ⊢
         rw [Array.getElem?_eq_getElem (by omega)] at e ⊢
         simpa using e
        ·have hlt:=GR W7 (Array.getElem?_eq_getElem hk) he hb
         exact ihk e.on hlt (by omega)
       rw [hnone] at this
       cases this
    have:=ih listed a w m ρ hsz (by
     have:cnt (fun k=>listed.getD k false) ops.size=0:=by
      have:∀ n,n≤ops.size→cnt (fun k=>listed.getD k false) n=0:=by
       intro n
       induction n with
       | zero=>intro _;rfl
       | succ n ihn=>intro hn;simp only [cnt];rw [ihn (by omega),if_pos (hall n (by omega))]
      exact this _ (Nat.le_refl _)
     omega) J
    cases fuel with
    | zero=>exact this.2
    | succ f=>exact this.1 hnone
   ·intro i hi
    rw [mem_ready] at hi
    obtain ⟨W8,o,ho,hr⟩:=hi
    have hlt:i<ops.size:=(Array.getElem?_eq_some_iff.1 ho).1
    have hD:listed.getD i false=false:=by
     simp only [Array.getD_eq_getD_getElem?] at W8 ⊢
     rw [Array.getElem?_eq_getElem (by omega)] at W8 ⊢
     simpa using W8
    refine LJ h (DO vE) nH hs hL J ho hD hr ?_
    intro a' w' m' ρ' J'
    have CA:(fun k=>(listed.setIfInBounds i true).getD k false)=qF (fun k=>listed.getD k false) i:=by
     funext k
     simp only [qF]
     by_cases e:k=i
     ·subst e
      rw [if_pos rfl,Array.getD_eq_getD_getElem?,Array.getElem?_setIfInBounds_self_of_lt (by omega)]
      rfl
     ·rw [if_neg e,Array.getD_eq_getD_getElem?,Array.getD_eq_getD_getElem?,Array.getElem?_setIfInBounds_ne (fun h=>e h.symm)]
    refine ih _ a' w' m' ρ' (by simpa using hsz) ?_ ?_
    ·have:=Rz (D:=fun k=>listed.getD k false) (i:=i) hD ops.size
     rw [if_pos hlt] at this
     rw [CA]
     omega
    ·rw [CA];exact J'
 refine main ops.size _ a0 w0 m0 lG (by simp) ?_ ?_
 ·have:∀ (D:Nat→Bool) n,cnt D n≤n:=by
   intro D n
   induction n with
   | zero=>exact Nat.le_refl _
   | succ n ih=>simp only [cnt];split<;>omega
  exact this _ _
 ·have hno:∀ k,(Array.replicate ops.size false).getD k false=false:=by
   intro k
   rw [Array.getD_eq_getD_getElem?,Array.getElem?_replicate]
   split<;>rfl
  have hp:∀ {β:Type} (wr:Nat→Bool) (val:Nat→β),pick (fun k=>(Array.replicate ops.size false).getD k false) wr val ops.size=val 0:=by
   intro β wr val
   have:∀ n,pick (fun k=>(Array.replicate ops.size false).getD k false) wr val n=val 0:=by
    intro n
    induction n with
    | zero=>rfl
    | succ n ih=>
     show (if (Array.replicate ops.size false).getD n false&&wr n then val (n+1) else pick (fun k=>(Array.replicate ops.size false).getD k false) wr val n)=val 0
     rw [hno n,Bool.false_and]
     exact ih
   exact this _
  have hH:(fun x=>pick (fun k=>(Array.replicate ops.size false).getD k false) (rP rc x) (fun k=>(st k).H x) ops.size)=s0.H:=by
   funext x;rw [hp,h.zero]
  refine ⟨hI.size,hI.defers,fun t=>by rw [hp,h.zero];exact hI.slots t,by rw [hH];exact hI.valid,fun i hi=> .inl ?_,by rw [hH];exact oG.refl _ _ _ _ _,fun k o hk=>?_⟩
  ·rcases Nat.lt_or_ge i s0.nx with h | h
   ·exact h
   ·exact absurd (hI.oX i h) hi
  ·rw [hno] at hk;cases hk
end Go.Proofs.YtlfjfoknbjcncaaGreat.K
namespace Go.Proofs.YtlfjfoknbjcncaaGreat.K
open Go Go.RowKit
inductive PX where
 | normal
 | exit (id:Nat)
 | ret
 | panic (p:PV)
def RX (m:Mem) (ρ:dA):PX→Exit→Prop
 | .normal,e=>e= .normal
 | .exit i,e=>e= .exit i
 | .ret,e=>e= .ret
 | .panic p,e=>∃ v,e= .panic [{v:=v,recovered:=false}]∧aO m ρ p v
def RH (N:Nat) (n0:Nat) (m0:Mem) (lG:dA) (w0:World) (H0:HM) (Q:PX→St→Prop) (e:Exit) (a:Act) (w:World):Prop:=
 ∃ px s m ρ,Q px s∧RX m ρ px e∧Inv N s m ρ a w∧oG n0 m0 lG w0 H0 s.nx m ρ w s.H
def PW (P:Program) (N:Nat) (c:Code) (s:St) (Q:PX→St→Prop):Prop:=
 ∀ m ρ a w,Inv N s m ρ a w→c.wp P (RH N s.nx m ρ w s.H Q) a w
variable {P:Program} {N:Nat}
def PX.then (next:St→Prop) (Q:PX→St→Prop):PX→St→Prop
 | .normal,s=>next s
 | px,s=>Q px s
def PX.inBlock (id:Nat) (Q:PX→St→Prop):PX→St→Prop
 | .exit i,s=>if i=id then Q .normal s else Q (.exit i) s
 | px,s=>Q px s
theorem least {p:Nat→Prop}:∀ k,p k→∃ k,p k∧∀ j,p j→k≤j:=by
 intro k
 induction k using Nat.strongRecOn with
 | _ k ih=>
  intro hk
  by_cases h:∃ j,j<k∧p j
  ·obtain ⟨j,h1,h2⟩:=h
   exact ih j h1 h2
  ·exact ⟨k,hk,fun j hj=>by
    rcases Nat.lt_or_ge j k with h1 | h1
    ·exact absurd ⟨j,h1,hj⟩ h
    ·exact h1⟩
theorem Inv.drew {s:St} {m:Mem} {ρ:dA} {a:Act} {w:World} (h:Inv N s m ρ a w):Inv N s m ρ a w.drew:=
 ⟨h.size,h.defers,h.slots,⟨h.valid.mem,fun i o ht hH=>by have:=h.valid.entry i o ht hH;cases o<;>exact this,h.valid.apart⟩,h.iq,h.oX⟩
theorem oG.drew (n:Nat) (m:Mem) (ρ:dA) (w:World) (H:HM):oG n m ρ w H n m ρ w.drew H:=
 ⟨⟨Mem.le_refl _,Nat.le_refl _,fun _ _ _=>rfl,rfl,rfl,rfl,fun _ _ _ h=> .inl h⟩,dA.le_refl _,fun _ h=> .inl h,Nat.le_refl _,fun _ _=>rfl⟩
theorem PW.draw {id:Nat} {ops:Array Oper} {s s':St} {L:List Rec} {Q:PX→St→Prop} (hm:P.follows .mixedOrders=true) (M:List Nat) (hok:BN ops N M=true) (hM:M=masks ops.toList [])
  (NJ:DN P ops ops.toList s s' L) (hL:fH M L) (hQ:Q .normal s'):PW P N (.region id ops true) s Q:=by
 intro m ρ a w hI
 simp only [BN,Bool.and_eq_true] at hok
 refine wp_region_any hm ?_
 refine KQ hok.1.1 hok.1.2 hM hok.2 NJ hL hI.drew (w0:=w.drew) ?_
 intro a' w' m' ρ' nh hA
 exact ⟨.normal,s',m',ρ',hQ,rfl,nh,(oG.drew _ _ _ _ _).trans hA⟩
inductive Out where
 | ret (p:PV)
 | nV (p:PV)
def ES (P:Program) (o:Oper) (s:St) (post:Out→HM→Nat→Prop):Prop:=
 ∀ m ρ a w (K:Act→World→Prop) (Q:Exit→Act→World→Prop),eu (fun _=>True) m ρ w s.H→(∀ i,s.nx≤i→s.H i=none)→(∀ i,s.nx≤i→ρ i=none)→
  (∀ x∈o.op.operands,aO m ρ (aH s.S x) (a.eval x))→
  (∀ p H' cw m' ρ' w' u,post (.ret p) H' cw→eu (fun _=>True) m' ρ' w' H'→(∀ i,cw≤i→H' i=none)→(∀ i,cw≤i→ρ' i=none)→oG s.nx m ρ w s.H cw m' ρ' w' H'→
   aO m' ρ' p u→K (a.put o.dst u) w')→
  (∀ p H' cw m' ρ' w' u,post (.nV p) H' cw→eu (fun _=>True) m' ρ' w' H'→(∀ i,cw≤i→H' i=none)→(∀ i,cw≤i→ρ' i=none)→oG s.nx m ρ w s.H cw m' ρ' w' H'→
   aO m' ρ' p u→Q (.panic [{v:=u,recovered:=false}]) a w')→o.wp P a w K Q
inductive CB (P:Program) (ops:Array Oper):List Oper→St→(PX→St→Prop)→Prop where
 | nil {s:St} {Q:PX→St→Prop} (h:Q .normal s):CB P ops [] s Q
 | step {o:Oper} {r:List Oper} {s:St} {Q:PX→St→Prop} {v:PV} {H':HM} {R:Rec} (h:qo P ops o s v H' R) (k:CB P ops r ⟨eK s.S o.dst v,H',R.hi,s.df⟩ Q):CB P ops (o::r) s Q
 | call {o:Oper} {r:List Oper} {s:St} {Q:PX→St→Prop} {post:Out→HM→Nat→Prop} (hg:o.guard=none) (h:ES P o s post)
   (k:∀ p H' cw,post (.ret p) H' cw→(∀ i,cw≤i→H' i=none)→CB P ops r ⟨eK s.S o.dst p,H',cw,s.df⟩ Q) (kp:∀ p H' cw,post (.nV p) H' cw→Q (.panic p) ⟨s.S,H',cw,s.df⟩):CB P ops (o::r) s Q
 | defer {o:Oper} {r:List Oper} {s:St} {Q:PX→St→Prop} {c:Call} {f:Nat} (hg:o.guard=none) (ho:o.op= .defer c) (hc:c.callee= .value (.func f))
   (k:CB P ops r ⟨eK s.S o.dst .dJ,s.H,s.nx,(f,c.args.toList.map (aH s.S))::s.df⟩ Q):CB P ops (o::r) s Q
theorem sX {s:St} {m:Mem} {ρ:dA} {a:Act}:∀ (l:List Operand),(∀ x∈l,aO m ρ (aH s.S x) (a.eval x))→bC m ρ (l.map (aH s.S)) (l.map a.eval)
 | [],_=>by simp [bC]
 | x::r,h=>by
  simp only [List.map_cons,bC]
  exact ⟨_,_,rfl,h x (List.mem_cons_self ..),sX r fun y hy=>h y (List.mem_cons_of_mem _ hy)⟩
theorem LK {ops:Array Oper} (vE:∀ (k:Nat) (o:Oper) (d:Nat),ops[k]? =some o→o.dst=some d→d<N) {Q:PX→St→Prop}:
  ∀ (r:List Oper) (s:St),CB P ops r s Q→∀ (k:Nat),(∀ j,r[j]? =ops[k+j]?)→∀ (n0:Nat) (m0:Mem) (lG:dA) (w0:World) (H0:HM) (m:Mem) (ρ:dA) (a:Act) (w:World),Inv N s m ρ a w→
   oG n0 m0 lG w0 H0 s.nx m ρ w s.H→wpOps P ops (RH N n0 m0 lG w0 H0 Q) (List.range' k r.length) a w:=by
 intro r s h
 induction h with
 | nil h=>
  intro k _ n0 m0 lG w0 H0 m ρ a w hI hA
  simp only [List.length_nil,List.range'_zero,wpOps]
  exact ⟨.normal,_,m,ρ,h,rfl,hI,hA⟩
 | @step o r s Q v H' R h1 h2 ih=>
  intro k hk n0 m0 lG w0 H0 m ρ a w hI hA
  rw [List.length_cons,List.range'_succ,wpOps_cons]
  have ho:ops[k]? =some o:=by have:=hk 0;simpa using this.symm
  refine LG vE ho h1 hI ?_
  intro a' w' m' ρ' nh hA'
  exact ih (k+1) (fun j=>by have:=hk (j+1);simpa [Nat.add_assoc,Nat.add_comm 1 j] using this) n0 m0 lG w0 H0 m' ρ' a' w' nh (hA.trans hA')
 | @call o r s Q post hg hx k1 k2 ih=>
  intro k hk n0 m0 lG w0 H0 m ρ a w hI hA
  rw [List.length_cons,List.range'_succ,wpOps_cons]
  have ho:ops[k]? =some o:=by have:=hk 0;simpa using this.symm
  have hd:∀ d,o.dst=some d→d<N:=fun d h=>vE k o d ho h
  unfold wpOp
  simp only [ho]
  have:Region.wanted o (yielded ops a.tmps)=true:=by unfold Region.wanted;simp only [hg]
  rw [this]
  simp only [if_true]
  refine .inl (hx m ρ a w _ _ hI.valid hI.iq hI.oX (fun x _=>ER hI.slots x) ?_ ?_)
  ·intro p H' cw m' ρ' w' u hp V' hn hr A' hu
   refine ih p H' cw hp hn (k+1) (fun j=>by have:=hk (j+1);simpa [Nat.add_assoc,Nat.add_comm 1 j] using this) n0 m0 lG w0 H0 m' ρ' _ w' ⟨?_,?_,?_,V',hn,hr⟩ (hA.trans A')
   ·cases o.dst<;>simp [Act.put,hI.size]
   ·have:=hI.defers.mono A'.ext.mem A'.pU
    cases o.dst<;>simpa [Act.put] using this
   ·exact ud hI.size (fun t=>(hI.slots t).mono A'.ext.mem A'.pU) o.dst hd hu
  ·intro p H' cw m' ρ' w' u hp V' hn hr A' hu
   refine ⟨.panic p,_,m',ρ',k2 p H' cw hp,⟨u,rfl,hu⟩,⟨hI.size,hI.defers.mono A'.ext.mem A'.pU,fun t=>(hI.slots t).mono A'.ext.mem A'.pU,V',hn,hr⟩,hA.trans A'⟩
 | @defer o r s Q c f hg hop hc k1 ih=>
  intro k hk n0 m0 lG w0 H0 m ρ a w hI hA
  rw [List.length_cons,List.range'_succ,wpOps_cons]
  have ho:ops[k]? =some o:=by have:=hk 0;simpa using this.symm
  have hd:∀ d,o.dst=some d→d<N:=fun d h=>vE k o d ho h
  unfold wpOp
  simp only [ho]
  have:Region.wanted o (yielded ops a.tmps)=true:=by unfold Region.wanted;simp only [hg]
  rw [this]
  simp only [if_true]
  refine .inl ?_
  unfold Oper.wp
  have hrun:(execOp a.eval o).run P w= .ok (.defer {target:= .fn (.func f) #[],args:=c.args.map a.eval}) w:=by
   obtain ⟨dst,op,type,pos,after,guard⟩:=o
   simp only at hop
   subst hop
   obtain ⟨callee,args,argTypes⟩:=c
   simp only at hc
   subst hc
   simp [execOp,resolve,Deferred.ofValue,Act.eval]
  rw [hrun,Oper.upon_defer]
  refine ih (k+1) (fun j=>by have:=hk (j+1);simpa [Nat.add_assoc,Nat.add_comm 1 j] using this) n0 m0 lG w0 H0 m ρ _ w ⟨?_,?_,?_,hI.valid,hI.iq,hI.oX⟩ hA
  ·cases o.dst<;>simp [Act.put,hI.size]
  ·have hdf:xJ m ρ ((f,c.args.toList.map (aH s.S))::s.df) ({target:= .fn (.func f) #[],args:=c.args.map a.eval}::a.defers):=
    ⟨_,_,rfl,rfl,by simpa using sX c.args.toList (fun x _=>ER hI.slots x),hI.defers⟩
   cases o.dst<;>simpa [Act.put] using hdf
  ·exact ud (a:={a with defers:=_::a.defers}) hI.size hI.slots o.dst hd (by simp [aO])
theorem PW.region {id:Nat} {ops:Array Oper} {s:St} {Q:PX→St→Prop} (hok:rK ops N=true) (h:CB P ops ops.toList s Q):PW P N (.region id ops false) s Q:=by
 intro m ρ a w hI
 refine wp_region ?_
 have:=LK (DO hok) ops.toList s h 0 (by simp) s.nx m ρ w s.H m ρ a w hI (oG.refl _ _ _ _ _)
 rw [List.range_eq_range']
 simpa using this
end Go.Proofs.YtlfjfoknbjcncaaGreat.K
namespace Go.Proofs.YtlfjfoknbjcncaaGreat.K
open Go Go.RowKit
variable {P:Program}
def BP (P:Program) (o:Oper) (S:Nat→PV) (v:PV):Prop:=
 ∀ m ρ a w (K:Act→World→Prop) (Q:Exit→Act→World→Prop),gr m w→(∀ x∈o.op.operands,aO m ρ (aH S x) (a.eval x))→
  (∀ u m' w',gr m' w'→Ext (fun _=>False) m w m' w'→aO m' ρ v u→K (a.put o.dst u) w')→o.wp P a w K Q
def bp (P:Program) (o:Oper) (S:Nat→PV) (v:PV):Prop:=
 ∀ m ρ (a:Act) w,gr m w→(∀ x∈o.op.operands,aO m ρ (aH S x) (a.eval x))→
  ∃ u m' w',(execOp a.eval o).run P w= .ok (.value u) w'∧gr m' w'∧Ext (fun _=>False) m w m' w'∧aO m' ρ v u
theorem bp.op {o:Oper} {S:Nat→PV} {v:PV} (h:bp P o S v):BP P o S v:=by
 intro m ρ a w K Q hm hx hK
 obtain ⟨u,m',w',hr,h1,h2,h3⟩:=h m ρ a w hm hx
 unfold Oper.wp
 rw [hr,Oper.upon_value]
 exact hK u m' w' h1 h2 h3
theorem bp.still {o:Oper} {S:Nat→PV} {v:PV} (h:∀ m ρ (a:Act) w,gr m w→(∀ x∈o.op.operands,aO m ρ (aH S x) (a.eval x))→∃ u,(execOp a.eval o).run P w= .ok (.value u) w∧aO m ρ v u):bp P o S v:=by
 intro m ρ a w hm hx
 obtain ⟨u,h1,h2⟩:=h m ρ a w hm hx
 exact ⟨u,m,w,h1,hm,Ext.refl _ _ _,h2⟩
theorem BP.sem {o:Oper} {s:St} {v:PV} (h:BP P o s.S v) (T:List Nat) (hT:∀ i∈T,i<s.nx) (hn:∀ i,s.nx≤i→s.H i=none):n4 P o s v s.H s.nx T []:=by
 refine ⟨Nat.le_refl _,fun _ _ _=>rfl,hn,by simp,hT,?_⟩
 intro m ρ a w K Q V _ hx hK
 refine h m ρ a w K Q V.mem hx ?_
 intro u m' w' hm' he hu
 refine hK u m' ρ w' ⟨he.mono (fun _ f=>f.elim),dA.le_refl _,fun i=> .inl rfl,⟨hm',fun i o hi hH=>?_,fun i j b c c' hi hj=>V.apart i j b c c' (hi.elim id (by omega)) (hj.elim id (by omega))⟩,?_⟩ hu
 ·have hi':i∈T:=hi.elim id (by omega)
  have hE:=V.entry i o hi' hH
  refine hE.move he.mem (dA.le_refl _) rfl (fun b c hr=>he.block b (hE.pU hr) (fun f=>f.elim)) (fun b c hr o' v' e=>?_)
  rcases he.new b o' v' e with h | h | h
  ·exact h
  ·exact h.elim
  ·have:=hE.pU hr;omega
 ·rintro b ⟨i,c,hi,hl,hr⟩
  exact .inl ⟨i,c,hi.elim id (by omega),hl,hr⟩
def Yw.isAgg:TypeDesc→Bool
 | .struct _=>true
 | .array _ _=>true
 | _=>false
def jU (P:Program) (t:TypeId):Option (Bool×Nat):=
 match P.underlying t,P.info? t with
 | some d,some i=>some (Yw.isAgg d,i.size)
 | _,_=>none
def n5 (P:Program) (t:TypeId) (f:Nat):Option (Nat×Nat×Bool):=
 match P.underlying t with
 | some (.struct fs)=>match fs[f]? with
  | some fd=>(jU P fd.type).map fun x=>(fd.offset,x.2,x.1)
  | none=>none
 | _=>none
def nR (P:Program) (t:TypeId):Option (Nat×Nat×Bool):=
 match P.underlying t with
 | some (.array n e)=>(jU P e).map fun x=>(n,x.2,x.1)
 | _=>none
def qG (P:Program) (t:TypeId):Option (Nat×Nat×Bool):=
 match P.underlying t with
 | some (.slice e)=>match jU P e,P.info? e with
  | some x,some i=>some (x.2,i.bytes,x.1)
  | _,_=>none
 | _=>none
theorem iE {t:TypeId} {b:Bool} {n:Nat} (h:jU P t=some (b,n)) (w:World):(isAgg t).run P w= .ok b w∧(sizeOf t).run P w= .ok n w:=by
 unfold jU at h
 cases hu:P.underlying t with
 | none=>simp [hu] at h
 | some d=>
  cases hi:P.info? t with
  | none=>simp [hu,hi] at h
  | some i=>
   simp only [hu,hi,Option.some.injEq,Prod.mk.injEq] at h
   obtain ⟨h1,h2⟩:=h
   refine ⟨?_,?_⟩
   ·unfold isAgg
    simp only [Sem.run_bind,run_underlying hu,Result.andThen_ok]
    subst h1
    cases d<;>rfl
   ·subst h2
    simp [sizeOf,typeInfo,hi]
def bin (op:BinOp) (p q:PV):PV×Prop:=
 match p,q with
 | .d (.val (.int k a)), .d (.val (.int k' b))=>
  match op with
  | .add=>(.d (.val (.int k (k.wrap (a+b)))),k=k')
  | .sub=>(.d (.val (.int k (k.wrap (a-b)))),k=k')
  | .mul=>(.d (.val (.int k (k.wrap (a*b)))),k=k')
  | .quo=>(.d (.val (.int k (k.wrap (a.tdiv b)))),k=k'∧b≠0)
  | .rem=>(.d (.val (.int k (a.tmod b))),k=k'∧b≠0)
  | .and=>(.d (.val (.int k (k.wrap (BitVec.ofInt k.bits a&&& BitVec.ofInt k.bits b).toNat))),k=k')
  | .or=>(.d (.val (.int k (k.wrap (BitVec.ofInt k.bits a||| BitVec.ofInt k.bits b).toNat))),k=k')
  | .xor=>(.d (.val (.int k (k.wrap (BitVec.ofInt k.bits a^^^BitVec.ofInt k.bits b).toNat))),k=k')
  | .andNot=>(.d (.val (.int k (k.wrap (BitVec.ofInt k.bits a&&& ~~~ BitVec.ofInt k.bits b).toNat))),k=k')
  | .shl=>(.d (.val (.int k (k.wrap (a*2 ^ (min b.toNat k.bits))))),0≤b)
  | .shr=>(.d (.val (.int k (a.fdiv (2 ^ (min b.toNat k.bits))))),0≤b)
  | .eql=>(.d (.val (.bool (a==b))),k=k')
  | .neq=>(.d (.val (.bool (a !=b))),k=k')
  | .lss=>(.d (.val (.bool (decide (a<b)))),k=k')
  | .leq=>(.d (.val (.bool (decide (a≤b)))),k=k')
  | .gtr=>(.d (.val (.bool (decide (a>b)))),k=k')
  | .geq=>(.d (.val (.bool (decide (a≥b)))),k=k')
 | .d (.val (.string x)), .d (.val (.string y))=>
  match op with
  | .add=>(.d (.val (.string (x++y))),((x.size+y.size:Nat):Int)≤IntKind.i64.max)
  | .eql=>(.d (.val (.bool (x.toList==y.toList))),True)
  | .neq=>(.d (.val (.bool (!(x.toList==y.toList)))),True)
  | .lss=>(.d (.val (.bool (Op.bytesLess x.toList y.toList))),True)
  | .leq=>(.d (.val (.bool (Op.bytesLess x.toList y.toList||x.toList==y.toList))),True)
  | .gtr=>(.d (.val (.bool (!(Op.bytesLess x.toList y.toList||x.toList==y.toList)))),True)
  | .geq=>(.d (.val (.bool (!(Op.bytesLess x.toList y.toList)))),True)
  | _=>(.dJ,False)
 | _,_=>(.dJ,False)
theorem C0 {o:Oper} {S:Nat→PV} {op:BinOp} {t u:TypeId} {x y:Operand} (ho:o.op= .binOp op t x y u) (h:(bin op (aH S x) (aH S y)).2):bp P o S (bin op (aH S x) (aH S y)).1:=by
 refine bp.still fun m ρ a w _ hx=>?_
 have h1:=hx x (by simp [ho,Op.operands])
 have h2:=hx y (by simp [ho,Op.operands])
 obtain ⟨dst,op',type,pos,after,guard⟩:=o
 simp only at ho
 subst ho
 simp only [execOp]
 generalize aH S x=p at*
 generalize aH S y=q at*
 unfold bin at h ⊢
 split at h
 ·rename_i k a' k' b'
  simp only [aO,bk] at h1 h2
  rw [h1,h2]
  cases op<;>simp only at h ⊢ <;>(try obtain ⟨rfl,hb⟩:=h)<;>(try subst h)<;>
   simp_all [eqGuard,binOp,Op.intArith,Op.intDiv,Op.intBits,Op.intCmp,Op.shift,aO,bk]<;>
   (intro hlt;omega)
 ·rename_i s1 s2
  simp only [aO,bk] at h1 h2
  rw [h1,h2]
  cases op<;>simp only at h ⊢ <;>
   simp_all [eqGuard,binOp,Op.stringOp,aO,bk,Int.not_lt]
 ·exact h.elim
def un (op:UnOp) (p:PV):PV×Prop:=
 match p with
 | .d (.val (.int k a))=>
  match op with
  | .neg=>(.d (.val (.int k (k.wrap (0-a)))),True)
  | .xor=>(.d (.val (.int k (k.wrap (BitVec.ofInt k.bits (if k.signed then -1 else k.max)^^^BitVec.ofInt k.bits a).toNat))),True)
  | _=>(.dJ,False)
 | .d (.val (.bool b))=>
  match op with
  | .not=>(.d (.val (.bool (!b))),True)
  | _=>(.dJ,False)
 | _=>(.dJ,False)
theorem P5 {o:Oper} {S:Nat→PV} {op:UnOp} {t:TypeId} {x:Operand} (ho:o.op= .unOp op t x) (h:(un op (aH S x)).2):bp P o S (un op (aH S x)).1:=by
 refine bp.still fun m ρ a w _ hx=>?_
 have h1:=hx x (by simp [ho,Op.operands])
 obtain ⟨dst,op',type,pos,after,guard⟩:=o
 simp only at ho
 subst ho
 simp only [execOp]
 generalize aH S x=p at*
 unfold un at h ⊢
 split at h
 ·rename_i k a'
  simp only [aO,bk] at h1
  rw [h1]
  cases op<;>simp only at h ⊢ <;>first | exact h.elim | simp [Op.unary,Op.intArith,Op.intBits,aO,bk]
 ·rename_i b
  simp only [aO,bk] at h1
  rw [h1]
  cases op<;>simp only at h ⊢ <;>first | exact h.elim | simp [Op.unary,aO,bk]
 ·exact h.elim
theorem FC {o:Oper} {S:Nat→PV} {x:Operand} (ho:o.op= .move x∨o.op= .assign x):bp P o S (aH S x):=by
 refine bp.still fun m ρ a w _ hx=>?_
 have h1:=hx x (by rcases ho with h | h<;>simp [h,Op.operands])
 obtain ⟨dst,op',type,pos,after,guard⟩:=o
 simp only at ho
 rcases ho with h | h<;>subst h<;>exact ⟨_,rfl,h1⟩
def fE:PV→Bool×PV
 | .cond g p=>(g,p)
 | p=>(true,p)
theorem AK {m:Mem} {ρ:dA} {p:PV} {v:Value} (h:aO m ρ p v) (hg:(fE p).1=true):aO m ρ (fE p).2 v:=by
 cases p<;>simp_all [fE,aO]
def zn (c p q:PV):PV×Prop:=
 match c,(fE p).2,(fE q).2 with
 | .d (.val (.bool c)), .d (.val (.bool x)), .d (.val (.bool y))=>(.d (.val (.bool (bif c then x else y))),(c=true→(fE p).1=true)∧(c=false→(fE q).1=true))
 | _,_,_=>(.dJ,False)
theorem FD {o:Oper} {S:Nat→PV} {c x y:Operand} (ho:o.op= .pick c x y) (h:(zn (aH S c) (aH S x) (aH S y)).2):bp P o S (zn (aH S c) (aH S x) (aH S y)).1:=by
 refine bp.still fun m ρ a w _ hx=>?_
 have h0:=hx c (by simp [ho,Op.operands])
 have h1:=hx x (by simp [ho,Op.operands])
 have h2:=hx y (by simp [ho,Op.operands])
 obtain ⟨dst,op',type,pos,after,guard⟩:=o
 simp only at ho
 subst ho
 simp only [execOp]
 generalize aH S c=r at*
 generalize aH S x=p at*
 generalize aH S y=q at*
 unfold zn at h ⊢
 split at h
 ·rename_i cb xb yb e1 e2
  simp only [aO,bk] at h0
  rw [h0]
  cases cb with
  | true=>
   have:=AK h1 (h.1 rfl)
   rw [e1] at this
   simp only [aO,bk] at this
   simp [asBool,this,aO,bk]
  | false=>
   have:=AK h2 (h.2 rfl)
   rw [e2] at this
   simp only [aO,bk] at this
   simp [asBool,this,aO,bk]
 ·exact h.elim
def uf (p:PV) (i:Nat):PV×Prop:=
 match p with
 | .d (.tuple l)=>(.d (l.getD i default),i<l.length)
 | .tuple l=>(l.getD i .dJ,i<l.length)
 | _=>(.dJ,False)
theorem BQ {m:Mem}:∀ {l:List D} {vs:List Value} {i:Nat},bP m l vs→i<l.length→∃ v,vs[i]? =some v∧bk m (l.getD i default) v
 | [],_,i,_,hi=>by simp at hi
 | x::r,vs,i,h,hi=>by
  simp only [bP] at h
  obtain ⟨v,vr,rfl,h1,h2⟩:=h
  cases i with
  | zero=>exact ⟨v,rfl,by simpa using h1⟩
  | succ i=>
   obtain ⟨u,h3,h4⟩:=BQ h2 (by simpa using hi)
   exact ⟨u,by simpa using h3,by simpa using h4⟩
theorem yJ {m:Mem} {ρ:dA}:∀ {l:List PV} {vs:List Value} {i:Nat},bC m ρ l vs→i<l.length→∃ v,vs[i]? =some v∧aO m ρ (l.getD i .dJ) v
 | [],_,i,_,hi=>by simp at hi
 | x::r,vs,i,h,hi=>by
  simp only [bC] at h
  obtain ⟨v,vr,rfl,h1,h2⟩:=h
  cases i with
  | zero=>exact ⟨v,rfl,by simpa using h1⟩
  | succ i=>
   obtain ⟨u,h3,h4⟩:=yJ h2 (by simpa using hi)
   exact ⟨u,by simpa using h3,by simpa using h4⟩
theorem n6 {m:Mem}:∀ {l:List D} {vs:List Value},bP m l vs→vs.length=l.length
 | [],_,h=>by simp only [bP] at h;simp [h]
 | x::r,vs,h=>by
  simp only [bP] at h
  obtain ⟨v,vr,rfl,h1,h2⟩:=h
  simp [n6 h2]
theorem o9 {m:Mem} {ρ:dA}:∀ {l:List PV} {vs:List Value},bC m ρ l vs→vs.length=l.length
 | [],_,h=>by simp only [bC] at h;simp [h]
 | x::r,vs,h=>by
  simp only [bC] at h
  obtain ⟨v,vr,rfl,h1,h2⟩:=h
  simp [o9 h2]
theorem GU {o:Oper} {S:Nat→PV} {x:Operand} {i:Nat} (ho:o.op= .extract x i) (h:(uf (aH S x) i).2):bp P o S (uf (aH S x) i).1:=by
 refine bp.still fun m ρ a w _ hx=>?_
 have h1:=hx x (by simp [ho,Op.operands])
 obtain ⟨dst,op',type,pos,after,guard⟩:=o
 simp only at ho
 subst ho
 simp only [execOp]
 generalize aH S x=p at*
 unfold uf at h ⊢
 split at h
 ·simp only [aO,bk] at h1
  obtain ⟨vs,e,hl⟩:=h1
  obtain ⟨v,h3,h4⟩:=BQ hl h
  refine ⟨v,?_,by simpa [aO] using h4⟩
  rw [e]
  simp [Instr.extract,h3]
 ·simp only [aO] at h1
  obtain ⟨vs,e,hl⟩:=h1
  obtain ⟨v,h3,h4⟩:=yJ hl h
  refine ⟨v,?_,h4⟩
  rw [e]
  simp [Instr.extract,h3]
 ·exact h.elim
end Go.Proofs.YtlfjfoknbjcncaaGreat.K
namespace Go.Proofs.YtlfjfoknbjcncaaGreat.K
open Go Go.RowKit
variable {P:Program}
theorem jh (b o n:Nat):(⟨b,o,none⟩:Addr).add n=⟨b,o+n,none⟩:=by
 unfold Addr.add
 split
 ·rename_i h;subst h;rfl
 ·rfl
def D.flat:D→Bool
 | .agg _=>false
 | .tuple _=>false
 | .val v=>v.oneCell'
 | _=>true
theorem C1 {m:Mem} {b:Nat}:∀ {l:List D} {o:Nat},jw m b l o→∃ vs,bP m l vs∧∀ j v,vs[j]? =some v→m b (o+j)=some v
 | [],o,_=>⟨[],by simp [bP],by simp⟩
 | x::r,o,h=>by
  simp only [jw] at h
  obtain ⟨⟨v,h1,h2⟩,h3⟩:=h
  obtain ⟨vs,h4,h5⟩:=C1 h3
  refine ⟨v::vs,by simp only [bP];exact ⟨v,vs,rfl,h2,h4⟩,?_⟩
  intro j u hj
  cases j with
  | zero=>simp at hj;subst hj;exact h1
  | succ j=>
   have:=h5 j u (by simpa using hj)
   rwa [show o+(j+1)=o+1+j from by omega]
theorem zo {m:Mem} {b:Nat}:∀ {l:List D} {o:Nat} (k:Nat),jw m b l o→jw m b (l.drop k) (o+k)
 | [],o,k,_=>by simp [jw]
 | x::r,o,0,h=>by simpa using h
 | x::r,o,k+1,h=>by
  simp only [jw] at h
  have:=zo k h.2
  simpa [Nat.add_assoc,Nat.add_comm 1 k] using this
theorem C2 {m:Mem} {b:Nat}:∀ {l:List D} {o:Nat} (k:Nat),jw m b l o→jw m b (l.take k) o
 | [],o,k,_=>by simp [jw]
 | x::r,o,0,h=>by simp [jw]
 | x::r,o,k+1,h=>by
  simp only [jw,List.take_succ_cons] at h ⊢
  exact ⟨h.1,C2 k h.2⟩
theorem nI {m:Mem} {b o:Nat} {x:D} {r:List D}:gY m b (x::r) o↔jw m b x.cells o∧gY m b r (o+x.cells.length):=by
 cases x<;>simp [gY,jw,D.cells]
theorem Jr {m:Mem} {b sz:Nat}:∀ {l:List D} {o:Nat} {i:Nat},gY m b l o→(∀ x∈l,x.cells.length=sz)→i<l.length→jw m b (l.getD i default).cells (o+i*sz)
 | [],_,i,_,_,hi=>by simp at hi
 | x::r,o,i,h,hs,hi=>by
  rw [nI] at h
  cases i with
  | zero=>simpa using h.1
  | succ i=>
   have:=Jr (i:=i) h.2 (fun y hy=>hs y (List.mem_cons_of_mem _ hy)) (by simpa using hi)
   rw [hs x (List.mem_cons_self ..)] at this
   simp only [List.getD_cons_succ]
   rwa [show o+(i+1)*sz=o+sz+i*sz from by rw [Nat.succ_mul];omega]
theorem GV {m:Mem} {b sz:Nat}:∀ {l:List D} {o:Nat} (k:Nat),gY m b l o→(∀ x∈l,x.cells.length=sz)→k≤l.length→gY m b (l.drop k) (o+k*sz)
 | [],o,k,_,_,hk=>by simp [gY]
 | x::r,o,0,h,_,_=>by simpa using h
 | x::r,o,k+1,h,hs,hk=>by
  rw [nI] at h
  have:=GV k h.2 (fun y hy=>hs y (List.mem_cons_of_mem _ hy)) (by simpa using hk)
  rw [hs x (List.mem_cons_self ..)] at this
  simp only [List.drop_succ_cons]
  rwa [show o+(k+1)*sz=o+sz+k*sz from by rw [Nat.succ_mul];omega]
theorem GW {m:Mem} {b:Nat}:∀ {l:List D} {o:Nat} (k:Nat),gY m b l o→gY m b (l.take k) o
 | [],o,k,_=>by simp [gY]
 | x::r,o,0,h=>by simp [gY]
 | x::r,o,k+1,h=>by
  rw [List.take_succ_cons,nI]
  rw [nI] at h
  exact ⟨h.1,GW k h.2⟩
theorem DQ {m:Mem} {b:Nat}:∀ {l l':List D} {o n:Nat},gY m b l o→gY m b l' (o+n)→(l.map fun x=>x.cells.length).sum=n→gY m b (l++l') o
 | [],l',o,n,_,h,e=>by simp at e;subst e;simpa using h
 | x::r,l',o,n,h,h',e=>by
  rw [List.cons_append,nI]
  rw [nI] at h
  simp only [List.map_cons,List.sum_cons] at e
  refine ⟨h.1,DQ (n:=n-x.cells.length) h.2 ?_ (by omega)⟩
  rwa [show o+x.cells.length+(n-x.cells.length)=o+n from by omega]
theorem zq {sz:Nat}:∀ {l:List D},(∀ x∈l,x.cells.length=sz)→(l.map fun x=>x.cells.length).sum=l.length*sz
 | [],_=>by simp
 | x::r,h=>by
  simp only [List.map_cons,List.sum_cons,List.length_cons]
  rw [h x (List.mem_cons_self ..),zq fun y hy=>h y (List.mem_cons_of_mem _ hy),Nat.succ_mul]
  omega
theorem LL {x:D} (h:x.flat=true):x.cells=[x]:=by cases x<;>simp_all [D.flat,D.cells]
theorem C3 {m:Mem} {b:Nat}:∀ {l:List D} {o:Nat},(∀ x∈l,x.flat=true)→(gY m b l o↔jw m b l o)
 | [],o,_=>by simp [gY,jw]
 | x::r,o,h=>by
  rw [nI,LL (h x (List.mem_cons_self ..)),jw]
  simp only [jw,List.length_singleton,and_true]
  rw [C3 fun y hy=>h y (List.mem_cons_of_mem _ hy)]
theorem C4 {m:Mem} {b:Nat} {l:List D} {o:Nat} (h:gY m b l o):∃ vs:List Value,vs.length=(l.map fun x=>x.cells.length).sum∧bP m (l.flatMap D.cells) vs∧∀ j v,vs[j]? =some v→m b (o+j)=some v:=by
 induction l generalizing o with
 | nil=>exact ⟨[],by simp,by simp [bP],by simp⟩
 | cons x r ih=>
  rw [nI] at h
  obtain ⟨us,h1,h2⟩:=C1 h.1
  obtain ⟨vs,h3,h4,h5⟩:=ih h.2
  have hl:=n6 h1
  refine ⟨us++vs,by simp [hl,h3],?_,?_⟩
  ·simp only [List.flatMap_cons]
   have:∀ {a b:List D} {u v:List Value},bP m a u→bP m b v→bP m (a++b) (u++v):=by
    intro a
    induction a with
    | nil=>intro b u v hu hv;simp only [bP] at hu;subst hu;simpa using hv
    | cons y a iha=>
     intro b u v hu hv
     simp only [bP] at hu
     obtain ⟨z,zr,rfl,e1,e2⟩:=hu
     simp only [List.cons_append,bP]
     exact ⟨z,zr++v,rfl,e1,iha e2 hv⟩
   exact this h1 h4
  ·intro j v hj
   by_cases hlt:j<us.length
   ·rw [List.getElem?_append_left hlt] at hj
    exact h2 j v hj
   ·rw [List.getElem?_append_right (by omega)] at hj
    have:=h5 _ v hj
    rwa [show o+x.cells.length+(j-us.length)=o+j from by omega] at this
theorem qp {m:Mem}:∀ {a b:List D} {u v:List Value},bP m a u→bP m b v→bP m (a++b) (u++v)
 | [],b,u,v,hu,hv=>by simp only [bP] at hu;subst hu;simpa using hv
 | y::a,b,u,v,hu,hv=>by
  simp only [bP] at hu
  obtain ⟨z,zr,rfl,e1,e2⟩:=hu
  simp only [List.cons_append,bP]
  exact ⟨z,zr++v,rfl,e1,qp e2 hv⟩
theorem C5 {m:Mem}:∀ {l:List D} {vs:List Value} (k:Nat),bP m l vs→bP m (l.take k) (vs.take k)
 | [],vs,k,h=>by simp only [bP] at h;subst h;simp [bP]
 | x::r,vs,0,h=>by simp [bP]
 | x::r,vs,k+1,h=>by
  simp only [bP] at h
  obtain ⟨v,vr,rfl,h1,h2⟩:=h
  simp only [List.take_succ_cons,bP]
  exact ⟨v,vr.take k,rfl,h1,C5 k h2⟩
theorem C6 {m:Mem}:∀ {l:List D} {vs:List Value} (k:Nat),bP m l vs→bP m (l.drop k) (vs.drop k)
 | [],vs,k,h=>by simp only [bP] at h;subst h;simp [bP]
 | x::r,vs,0,h=>by simpa using h
 | x::r,vs,k+1,h=>by
  simp only [bP] at h
  obtain ⟨v,vr,rfl,h1,h2⟩:=h
  simpa using C6 k h2
theorem pX {m:Mem} {ρ:dA}:∀ {l:List PV} {vs:List Value} (k:Nat),bC m ρ l vs→bC m ρ (l.take k) (vs.take k)
 | [],vs,k,h=>by simp only [bC] at h;subst h;simp [bC]
 | x::r,vs,0,h=>by simp [bC]
 | x::r,vs,k+1,h=>by
  simp only [bC] at h
  obtain ⟨v,vr,rfl,h1,h2⟩:=h
  simp only [List.take_succ_cons,bC]
  exact ⟨v,vr.take k,rfl,h1,pX k h2⟩
theorem wG {m:Mem} {ρ:dA}:∀ {l:List PV} {vs:List Value} (k:Nat),bC m ρ l vs→bC m ρ (l.drop k) (vs.drop k)
 | [],vs,k,h=>by simp only [bC] at h;subst h;simp [bC]
 | x::r,vs,0,h=>by simpa using h
 | x::r,vs,k+1,h=>by
  simp only [bC] at h
  obtain ⟨v,vr,rfl,h1,h2⟩:=h
  simpa using wG k h2
theorem vX {m:Mem} {ρ:dA}:∀ {a b:List PV} {u v:List Value},bC m ρ a u→bC m ρ b v→bC m ρ (a++b) (u++v)
 | [],b,u,v,hu,hv=>by simp only [bC] at hu;subst hu;simpa using hv
 | y::a,b,u,v,hu,hv=>by
  simp only [bC] at hu
  obtain ⟨z,zr,rfl,e1,e2⟩:=hu
  simp only [List.cons_append,bC]
  exact ⟨z,zr++v,rfl,e1,vX e2 hv⟩
theorem GX {m:Mem} {ρ:dA}:∀ {l:List D} {vs:List Value},bP m l vs→bC m ρ (l.map PV.d) vs
 | [],vs,h=>by simp only [bP] at h;subst h;simp [bC]
 | x::r,vs,h=>by
  simp only [bP] at h
  obtain ⟨v,vr,rfl,h1,h2⟩:=h
  simp only [List.map_cons,bC]
  exact ⟨v,vr,rfl,by simpa [aO] using h1,GX h2⟩
theorem vY {m:Mem} {w:World} (h:gr m w) {b o:Nat} {vs:List Value} (hv:∀ j v,vs[j]? =some v→m b (o+j)=some v):
  (∀ j v,vs[j]? =some v→w.cell? ((⟨b,o,none⟩:Addr).add j)=some v)∧∀ v∈vs,v.oneCell'=true:=by
 refine ⟨fun j v hj=>?_,fun v NK=>?_⟩
 ·rw [jh];exact (h _ _ _ (hv j v hj)).1
 ·obtain ⟨j,hj⟩:=List.mem_iff_getElem?.1 NK
  exact (h _ _ _ (hv j v hj)).2
theorem C7 {m:Mem} {w:World} (hm:gr m w) {b o:Nat} {l:List D} (hl:jw m b l o) {t:TypeId} {ag:Bool} {n:Nat} (ht:jU P t=some (ag,n)) (hn:if ag then n≤l.length else l≠[]):
  ∃ u,(loadVar t ⟨b,o,none⟩).run P w= .ok u w∧bk m (if ag then .agg (l.take n) else l.headD default) u:=by
 obtain ⟨h1,h2⟩:=iE ht w
 cases ag with
 | true=>
  simp only [if_true] at hn ⊢
  obtain ⟨vs,h3,h4⟩:=C1 (C2 n hl)
  obtain ⟨h5,h6⟩:=vY hm h4
  have hlen:vs.length=n:=by rw [n6 h3,List.length_take];omega
  refine ⟨.agg ⟨vs⟩,?_,by simp only [bk];exact ⟨vs,rfl,h3,h6⟩⟩
  have:=run_loadCells_list (P:=P) w ⟨b,o,none⟩ vs h5
  rw [hlen] at this
  unfold loadVar
  simp [h1,h2,this]
 | false=>
  simp only [Bool.false_eq_true,if_false] at hn ⊢
  cases l with
  | nil=>exact absurd rfl hn
  | cons x r=>
   simp only [jw] at hl
   obtain ⟨⟨v,h3,h4⟩,_⟩:=hl
   refine ⟨v,?_,by simpa using h4⟩
   unfold loadVar
   simp [h1,(hm _ _ _ h3).1]
def C8 (ty:Option (Bool×Nat)) (l:List D):PV×Prop:=
 match ty with
 | some (true,n)=>(.d (.agg (l.take n)),n≤l.length)
 | some (false,_)=>(.d (l.headD default),l≠[])
 | none=>(.dJ,False)
theorem FE {o:Oper} {S:Nat→PV} {t:TypeId} {x:Operand} {l:List D} (ho:o.op= .load t x) (hp:aH S x= .d (.cF l)) (h:(C8 (jU P t) l).2):bp P o S (C8 (jU P t) l).1:=by
 refine bp.still fun m ρ a w hm hx=>?_
 have h1:=hx x (by simp [ho,Op.operands])
 rw [hp] at h1
 simp only [aO,bk] at h1
 obtain ⟨b,off,e,hl⟩:=h1
 obtain ⟨dst,op',type,pos,after,guard⟩:=o
 simp only at ho
 subst ho
 unfold C8 at h ⊢
 cases ht:jU P t with
 | none=>simp [ht] at h
 | some x=>
  obtain ⟨ag,n⟩:=x
  obtain ⟨u,hu,hr⟩:=C7 hm hl ht (by cases ag<;>simpa [ht] using h)
  refine ⟨u,?_,by cases ag<;>simpa [aO] using hr⟩
  simp [execOp,Instr.loadAt,e,Instr.sureAddr,hu]
def pY (fi:Option (Nat×Nat×Bool)) (p:PV):PV×Prop:=
 match fi,p with
 | some (off,n,_), .d (.cF l)=>(.d (.cF (l.drop off)),n≠0)
 | some (off,n,_), .aR id o=>(.aR id (o+off),n≠0)
 | _,_=>(.dJ,False)
theorem zu {t:TypeId} {f off n:Nat} {ag:Bool} (h:n5 P t f=some (off,n,ag)):∃ fs fd,P.underlying t=some (.struct fs)∧fs[f]? =some fd∧fd.offset=off∧jU P fd.type=some (ag,n):=by
 unfold n5 at h
 cases hu:P.underlying t with
 | none=>simp [hu] at h
 | some d=>
  cases d with
  | struct fs=>
   simp only [hu] at h
   cases hf:fs[f]? with
   | none=>simp [hf] at h
   | some fd=>
    simp only [hf] at h
    cases ht:jU P fd.type with
    | none=>simp [ht] at h
    | some x=>
     simp only [ht,Option.map_some,Option.some.injEq,Prod.mk.injEq] at h
     obtain ⟨h1,h2,h3⟩:=h
     subst h1;subst h2;subst h3
     exact ⟨fs,fd,rfl,hf,rfl,ht⟩
  | _=>simp [hu] at h
theorem ET {o:Oper} {S:Nat→PV} {t:TypeId} {x:Operand} {f:Nat} (ho:o.op= .fieldAddr t x f) (h:(pY (n5 P t f) (aH S x)).2):bp P o S (pY (n5 P t f) (aH S x)).1:=by
 refine bp.still fun m ρ a w hm hx=>?_
 have h1:=hx x (by simp [ho,Op.operands])
 obtain ⟨dst,op',type,pos,after,guard⟩:=o
 simp only at ho
 subst ho
 generalize aH S x=p at*
 unfold pY at h ⊢
 split at h
 ·rename_i off n ag l NL
  obtain ⟨fs,fd,hu,hf,hoff,ht⟩:=zu NL
  simp only [aO,bk] at h1
  obtain ⟨b,o',e,hl⟩:=h1
  have hs:=(iE ht w).2
  have hne:n≠0:=h
  refine ⟨.pointer (some ⟨b,o'+off,none⟩),?_,?_⟩
  ·simp [execOp,Instr.fieldAt,run_underlying hu,hf,e,Instr.sureAddr,fieldPlace,hs,hne,hoff,jh]
  ·simp only [aO,bk];exact ⟨b,_,rfl,zo off hl⟩
 ·rename_i off n ag id o' NL
  obtain ⟨fs,fd,hu,hf,hoff,ht⟩:=zu NL
  simp only [aO] at h1
  obtain ⟨b,c,hr,e⟩:=h1
  have hs:=(iE ht w).2
  have hne:n≠0:=h
  refine ⟨.pointer (some ⟨b,o'+off,none⟩),?_,?_⟩
  ·simp [execOp,Instr.fieldAt,run_underlying hu,hf,e,Instr.sureAddr,fieldPlace,hs,hne,hoff,jh]
  ·simp only [aO];exact ⟨b,c,hr,rfl⟩
 ·exact h.elim
def PV.elems:PV→Option (List D)
 | .d (.slice l)=>some l
 | .full l=>some l
 | .own _ l=>some l
 | _=>none
theorem rQ {m:Mem} {ρ:dA} {p:PV} {v:Value} {l:List D} (hp:p.elems=some l) (h:aO m ρ p v):∃ (a:Option Addr) (c:Nat),v= .slice a l.length c∧l.length≤c∧(l=[]∨∃ b o,a=some ⟨b,o,none⟩∧gY m b l o):=by
 have ht:p.cN=some (.slice l):=by
  cases p with
  | d x=>cases x<;>simp_all [PV.elems,PV.cN]
  | _=>simp_all [PV.elems,PV.cN]
 have:=aO.cN p _ v ht h
 simpa only [bk] using this
theorem wH {t:TypeId} {sz jq:Nat} {ag:Bool} (h:qG P t=some (sz,jq,ag)):∃ e i,P.underlying t=some (.slice e)∧jU P e=some (ag,sz)∧P.info? e=some i∧i.size=sz∧i.bytes=jq:=by
 unfold qG at h
 cases hu:P.underlying t with
 | none=>simp [hu] at h
 | some d=>
  cases d with
  | slice e=>
   simp only [hu] at h
   cases ht:jU P e with
   | none=>simp [ht] at h
   | some x=>
    cases hi:P.info? e with
    | none=>simp [ht,hi] at h
    | some i=>
     simp only [ht,hi,Option.some.injEq,Prod.mk.injEq] at h
     obtain ⟨h1,h2,h3⟩:=h
     refine ⟨e,i,rfl,by rw [ht, ← h1, ← h3],hi,?_,h2⟩
     unfold jU at ht
     cases Yx:P.underlying e with
     | none=>simp [Yx] at ht
     | some de=>
      simp only [Yx,hi,Option.some.injEq] at ht
      rw [← h1, ← ht]
  | _=>simp [hu] at h
theorem rR {t:TypeId} {n sz:Nat} {ag:Bool} (h:nR P t=some (n,sz,ag)):∃ e,P.underlying t=some (.array n e)∧jU P e=some (ag,sz):=by
 unfold nR at h
 cases hu:P.underlying t with
 | none=>simp [hu] at h
 | some d=>
  cases d with
  | array k e=>
   simp only [hu] at h
   cases ht:jU P e with
   | none=>simp [ht] at h
   | some x=>
    simp only [ht,Option.map_some,Option.some.injEq,Prod.mk.injEq] at h
    obtain ⟨h1,h2,h3⟩:=h
    subst h1;subst h2;subst h3
    exact ⟨e,rfl,ht⟩
  | _=>simp [hu] at h
def oy (sl ar:Option (Nat×Nat×Bool)) (p i:PV):PV×Prop:=
 match i with
 | .d (.val (.int _ i))=>
  match sl with
  | some (sz,_,_)=>match p.elems with
   | some l=>(.d (.cF (l.getD i.toNat default).cells),(0≤i∧i<(l.length:Int))∧∀ x∈l,x.cells.length=sz)
   | none=>(.dJ,False)
  | none=>match ar,p with
   | some (n,sz,_), .d (.cF l)=>(.d (.cF (l.drop (i.toNat*sz))),0≤i∧i<(n:Int))
   | some (n,sz,_), .aR id o=>(.aR id (o+i.toNat*sz),0≤i∧i<(n:Int))
   | _,_=>(.dJ,False)
 | _=>(.dJ,False)
theorem EU {o:Oper} {S:Nat→PV} {t:TypeId} {x y:Operand} (ho:o.op= .indexAddr t x y) (h:(oy (qG P t) (nR P t) (aH S x) (aH S y)).2):bp P o S (oy (qG P t) (nR P t) (aH S x) (aH S y)).1:=by
 refine bp.still fun m ρ a w hm hx=>?_
 have h1:=hx x (by simp [ho,Op.operands])
 have h2:=hx y (by simp [ho,Op.operands])
 obtain ⟨dst,op',type,pos,after,guard⟩:=o
 simp only at ho
 subst ho
 generalize aH S x=p at*
 generalize aH S y=q at*
 unfold oy at h ⊢
 split at h
 ·rename_i q' k i
  simp only [aO,bk] at h2
  split at h
  ·rename_i sz jq ag W9
   obtain ⟨e,inf,hu,ht,hi,_,_⟩:=wH W9
   have hs:=(iE ht w).2
   split at h
   ·rename_i l hl
    obtain ⟨⟨h3,h4⟩,h5⟩:=h
    obtain ⟨ad,c,ev,_,iY⟩:=rQ hl h1
    have hne:l≠[]:=by intro e';subst e';simp at h4;omega
    obtain ⟨b,o',ha,hE⟩:=iY.resolve_left hne
    subst ha
    have hlt:i.toNat<l.length:=by omega
    refine ⟨.pointer (some ⟨b,o'+i.toNat*sz,none⟩),?_,?_⟩
    ·simp [execOp,Instr.indexAt,h2,asIntOf,ev,run_underlying hu,hs,h3,h4,jh]
    ·simp only [aO,bk];exact ⟨b,_,rfl,Jr hE h5 hlt⟩
   ·exact h.elim
  ·rename_i W9
   split at h
   ·rename_i n sz ag l KT
    obtain ⟨h3,h4⟩:=h
    obtain ⟨e,hu,ht⟩:=rR KT
    have hs:=(iE ht w).2
    simp only [aO,bk] at h1
    obtain ⟨b,o',ev,hl⟩:=h1
    refine ⟨.pointer (some ⟨b,o'+i.toNat*sz,none⟩),?_,?_⟩
    ·simp [execOp,Instr.indexAt,h2,asIntOf,ev,run_underlying hu,Instr.sureAddr,hs,h3,h4,jh]
    ·simp only [aO,bk];exact ⟨b,_,rfl,zo _ hl⟩
   ·rename_i n sz ag id o' KT
    obtain ⟨h3,h4⟩:=h
    obtain ⟨e,hu,ht⟩:=rR KT
    have hs:=(iE ht w).2
    simp only [aO] at h1
    obtain ⟨b,c,hr,ev⟩:=h1
    refine ⟨.pointer (some ⟨b,o'+i.toNat*sz,none⟩),?_,?_⟩
    ·simp [execOp,Instr.indexAt,h2,asIntOf,ev,run_underlying hu,Instr.sureAddr,hs,h3,h4,jh]
    ·simp only [aO];exact ⟨b,c,hr,rfl⟩
   ·exact h.elim
 ·exact h.elim
end Go.Proofs.YtlfjfoknbjcncaaGreat.K
namespace Go.Proofs.YtlfjfoknbjcncaaGreat.K
open Go Go.RowKit
variable {P:Program}
def AL (ag:Bool) (l:List D) (off n:Nat):D:=if ag then .agg ((l.drop off).take n) else l.getD off default
def oH (ag:Bool) (l:List PV) (off n:Nat):PV:=if ag then .agg ((l.drop off).take n) else l.getD off .dJ
theorem Js {m:Mem} {l:List D} {vs:List Value} (hl:bP m l vs) (h1:∀ v∈vs,v.oneCell'=true) {t:TypeId} {ag:Bool} {n off:Nat} (ht:jU P t=some (ag,n)) (hn:off+n≤l.length) (hp:0<n) (w:World):
  ∃ u,(part t ⟨vs⟩ off).run P w= .ok u w∧bk m (AL ag l off n) u:=by
 obtain ⟨e1,e2⟩:=iE ht w
 cases ag with
 | true=>
  refine ⟨.agg ⟨(vs.drop off).take n⟩,?_,?_⟩
  ·simp [part,e1,e2]
  ·simp only [AL,if_true,bk]
   exact ⟨_,rfl,C5 n (C6 off hl),fun u hu=>h1 u (List.mem_of_mem_drop (List.mem_of_mem_take hu))⟩
 | false=>
  obtain ⟨v,h3,h4⟩:=BQ hl (i:=off) (by omega)
  refine ⟨v,?_,by simpa [AL] using h4⟩
  simp [part,e1,h3]
theorem GY {m:Mem} {ρ:dA} {l:List PV} {vs:List Value} (hl:bC m ρ l vs) (h1:∀ v∈vs,v.oneCell'=true) {t:TypeId} {ag:Bool} {n off:Nat} (ht:jU P t=some (ag,n)) (hn:off+n≤l.length) (hp:0<n) (w:World):
  ∃ u,(part t ⟨vs⟩ off).run P w= .ok u w∧aO m ρ (oH ag l off n) u:=by
 obtain ⟨e1,e2⟩:=iE ht w
 cases ag with
 | true=>
  refine ⟨.agg ⟨(vs.drop off).take n⟩,?_,?_⟩
  ·simp [part,e1,e2]
  ·simp only [oH,if_true,aO]
   exact ⟨_,rfl,pX n (wG off hl),fun u hu=>h1 u (List.mem_of_mem_drop (List.mem_of_mem_take hu))⟩
 | false=>
  obtain ⟨v,h3,h4⟩:=yJ hl (i:=off) (by omega)
  refine ⟨v,?_,by simpa [oH] using h4⟩
  simp [part,e1,h3]
def DR (fi:Option (Nat×Nat×Bool)) (p:PV):PV×Prop:=
 match fi,p with
 | some (off,n,ag), .d (.agg l)=>(.d (AL ag l off n),off+n≤l.length∧0<n)
 | some (off,n,ag), .agg l=>(oH ag l off n,off+n≤l.length∧0<n)
 | _,_=>(.dJ,False)
theorem KU {o:Oper} {S:Nat→PV} {t:TypeId} {x:Operand} {f:Nat} (ho:o.op= .field t x f) (h:(DR (n5 P t f) (aH S x)).2):bp P o S (DR (n5 P t f) (aH S x)).1:=by
 refine bp.still fun m ρ a w hm hx=>?_
 have h1:=hx x (by simp [ho,Op.operands])
 obtain ⟨dst,op',type,pos,after,guard⟩:=o
 simp only at ho
 subst ho
 generalize aH S x=p at*
 unfold DR at h ⊢
 split at h
 ·rename_i off n ag l NL
  obtain ⟨fs,fd,hu,hf,hoff,ht⟩:=zu NL
  simp only [aO,bk] at h1
  obtain ⟨vs,e,hl,DS⟩:=h1
  obtain ⟨u,hr,iY⟩:=Js (P:=P) hl DS ht h.1 h.2 w
  refine ⟨u,?_,by simpa [aO] using iY⟩
  simp [execOp,Instr.field,run_underlying hu,hf,e,asAgg,hoff,hr]
 ·rename_i off n ag l NL
  obtain ⟨fs,fd,hu,hf,hoff,ht⟩:=zu NL
  simp only [aO] at h1
  obtain ⟨vs,e,hl,DS⟩:=h1
  obtain ⟨u,hr,iY⟩:=GY (P:=P) hl DS ht h.1 h.2 w
  refine ⟨u,?_,iY⟩
  simp [execOp,Instr.field,run_underlying hu,hf,e,asAgg,hoff,hr]
 ·exact h.elim
def aa (b:UInt8):D:= .val (.int .u8 b.toNat)
def xK (ar:Option (Nat×Nat×Bool)) (p i:PV):PV×Prop:=
 match i with
 | .d (.val (.int _ i))=>
  match ar,p with
  | some (n,sz,ag), .d (.agg l)=>(.d (AL ag l (i.toNat*sz) sz),(0≤i∧i<(n:Int))∧n*sz=l.length∧0<sz)
  | some (n,sz,ag), .agg l=>(oH ag l (i.toNat*sz) sz,(0≤i∧i<(n:Int))∧n*sz=l.length∧0<sz)
  | none, .d (.val (.string s))=>(.d (aa (s.data.toList.getD i.toNat 0)),0≤i∧i<(s.size:Int))
  | _,_=>(.dJ,False)
 | _=>(.dJ,False)
theorem Jt {i n sz:Nat} (h:i<n):i*sz+sz≤n*sz:=by
 have:=Nat.mul_le_mul_right sz (show i+1≤n from h)
 rwa [Nat.succ_mul] at this
theorem KV {o:Oper} {S:Nat→PV} {t:TypeId} {x y:Operand} (ho:o.op= .index t x y) (Yy:nR P t=none→P.underlying t=some .string) (h:(xK (nR P t) (aH S x) (aH S y)).2):bp P o S (xK (nR P t) (aH S x) (aH S y)).1:=by
 refine bp.still fun m ρ a w hm hx=>?_
 have h1:=hx x (by simp [ho,Op.operands])
 have h2:=hx y (by simp [ho,Op.operands])
 obtain ⟨dst,op',type,pos,after,guard⟩:=o
 simp only at ho
 subst ho
 generalize aH S x=p at*
 generalize aH S y=q at*
 unfold xK at h ⊢
 split at h
 ·rename_i q' k i
  simp only [aO,bk] at h2
  split at h
  ·rename_i n sz ag l KT
   obtain ⟨⟨h3,h4⟩,h5,h6⟩:=h
   obtain ⟨e,hu,ht⟩:=rR KT
   simp only [aO,bk] at h1
   obtain ⟨vs,ev,hl,DS⟩:=h1
   have hs:=(iE ht w).2
   obtain ⟨u,hr,iY⟩:=Js (P:=P) (off:=i.toNat*sz) hl DS ht (by rw [← h5];exact Jt (by omega)) h6 w
   refine ⟨u,?_,by simpa [aO] using iY⟩
   simp [execOp,Instr.index,h2,asIntOf,ev,run_underlying hu,hs,h3,h4,hr]
  ·rename_i n sz ag l KT
   obtain ⟨⟨h3,h4⟩,h5,h6⟩:=h
   obtain ⟨e,hu,ht⟩:=rR KT
   simp only [aO] at h1
   obtain ⟨vs,ev,hl,DS⟩:=h1
   have hs:=(iE ht w).2
   obtain ⟨u,hr,iY⟩:=GY (P:=P) (off:=i.toNat*sz) hl DS ht (by rw [← h5];exact Jt (by omega)) h6 w
   refine ⟨u,?_,iY⟩
   simp [execOp,Instr.index,h2,asIntOf,ev,run_underlying hu,hs,h3,h4,hr]
  ·rename_i s KT
   obtain ⟨h3,h4⟩:=h
   have hu:=Yy KT
   simp only [aO,bk] at h1
   have hlt:i.toNat<s.size:=by omega
   have hlt':i.toNat<s.data.size:=hlt
   refine ⟨.int .u8 (s[i.toNat].toNat:Nat),?_,?_⟩
   ·simp [execOp,Instr.index,h2,asIntOf,h1,run_underlying hu,h3,hlt]
   ·simp only [aO,bk,aa]
    have:s.data.toList.getD i.toNat 0=s[i.toNat]:=by
     simp only [List.getD_eq_getElem?_getD,Array.getElem?_toList,Array.getElem?_eq_getElem hlt',Option.getD_some]
     rfl
    rw [this]
  ·exact h.elim
 ·exact h.elim
def pV (d:Int):Option PV→Option Int
 | none=>some d
 | some (.d (.val (.int _ i)))=>some i
 | some _=>none
def Z8 (isStr:Bool) (sl ar:Option (Nat×Nat×Bool)) (p:PV) (lo hi mx:Option PV):PV×Prop:=
 if isStr then
  match p with
  | .d (.val (.string s))=>match pV 0 lo,pV s.size hi,mx with
   | some l,some h,none=>(.d (.val (.string (s.extract l.toNat h.toNat))),0≤l∧l≤h∧h≤(s.size:Int))
   | _,_,_=>(.dJ,False)
  | _=>(.dJ,False)
 else
  match sl,ar with
  | some (sz,_,_),_=>match p.elems with
   | some e=>match pV 0 lo,pV e.length hi,mx with
    | some l,some h,none=>(.d (.slice ((e.drop l.toNat).take (h-l).toNat)),(0≤l∧l≤h∧h≤(e.length:Int))∧∀ x∈e,x.cells.length=sz)
    | some l,some h,some (.d (.val (.int _ q)))=>(.full ((e.drop l.toNat).take (h-l).toNat),(0≤l∧l≤h∧h≤(e.length:Int)∧h=q∧hi.isSome)∧∀ x∈e,x.cells.length=sz)
    | _,_,_=>(.dJ,False)
   | none=>(.dJ,False)
  | none,some (n,sz,_)=>match p with
   | .d (.cF c)=>match pV 0 lo,pV n hi,mx with
    | some l,some h,none=>((if hi.isSome then .d (.slice ((c.drop l.toNat).take (h-l).toNat)) else .full ((c.drop l.toNat).take (h-l).toNat)),(0≤l∧l≤h∧h≤(n:Int)∧n≤c.length∧sz=1)∧∀ x∈c,x.flat=true)
    | _,_,_=>(.dJ,False)
   | _=>(.dJ,False)
  | none,none=>(.dJ,False)
theorem GZ {m:Mem} {ρ:dA} {S:Nat→PV} {a:Act} {d:Int} {x:Option Operand} {i:Int} (h:pV d (x.map (aH S))=some i) (hx:∀ y,x=some y→aO m ρ (aH S y) (a.eval y)):
  (x=none∧i=d)∨∃ y k,x=some y∧a.eval y= .int k i:=by
 cases x with
 | none=>simp [pV] at h;exact .inl ⟨rfl,h.symm⟩
 | some y=>
  have hr:=hx y rfl
  simp only [Option.map_some] at h
  unfold pV at h
  split at h
  ·rename_i e;cases e
  ·rename_i q k j e
   simp only [Option.some.injEq] at e h
   subst h
   rw [e] at hr
   simp only [aO,bk] at hr
   exact .inr ⟨y,k,rfl,hr⟩
  ·cases h
theorem rS {w:World} {k:IntKind} {i:Int} {y:Nat} (code:BoundsCode) (h0:0≤i) (h1:i≤(y:Int)):(Instr.sliceBound (.int k i) y code).run P w= .ok i.toNat w:=by
 simp [Instr.sliceBound,asIntOf,h0,h1]
theorem uP {w:World} {m:Mem} {ρ:dA} {S:Nat→PV} {a:Act} {Ju:Bool} {len cap:Nat} {lo hi:Option Operand} {l h:Int} (hl:pV 0 (lo.map (aH S))=some l) (hh:pV len (hi.map (aH S))=some h)
  (Un:∀ y,lo=some y→aO m ρ (aH S y) (a.eval y)) (hxh:∀ y,hi=some y→aO m ρ (aH S y) (a.eval y)) (h0:0≤l) (h1:l≤h) (h2:h≤(len:Int)) (h3:len≤cap):
  (Instr.sliceBounds Ju len cap (lo.map a.eval) (hi.map a.eval) none).run P w= .ok (l.toNat,h.toNat,cap) w:=by
 have e:((h.toNat:Nat):Int)=h:=Int.toNat_of_nonneg (by omega)
 rcases GZ hl Un with ⟨rfl,rfl⟩ | ⟨y,k,rfl,hy⟩<;>rcases GZ hh hxh with ⟨rfl,rfl⟩ | ⟨z,k',rfl,hz⟩
 ·simp [Instr.sliceBounds]
 ·simp [Instr.sliceBounds,hz,rS (P:=P) (w:=w) _ (show 0≤h by omega) (show h≤(cap:Int) by omega)]
 ·simp [Instr.sliceBounds,hy,rS (P:=P) (w:=w) _ h0 h1]
 ·have DS:l≤((h.toNat:Nat):Int):=by omega
  simp [Instr.sliceBounds,hy,hz,rS (P:=P) (w:=w) _ (show 0≤h by omega) (show h≤(cap:Int) by omega),rS (P:=P) (w:=w) _ h0 DS]
theorem Jv {m:Mem} {b sz:Nat} {l:List D} {o:Nat} (i n:Nat) (h:gY m b l o) (hs:∀ x∈l,x.cells.length=sz) (hi:i≤l.length):gY m b ((l.drop i).take n) (o+i*sz):=GW n (GV i h hs hi)
theorem I3 {o:Oper} {S:Nat→PV} {t:TypeId} {x:Operand} {lo hi:Option Operand} (ho:o.op= .slice t x lo hi none) (hu:P.underlying t=some .string) {s:ByteArray} (hp:aH S x= .d (.val (.string s)))
  {l h:Int} (hl:pV 0 (lo.map (aH S))=some l) (hh:pV s.size (hi.map (aH S))=some h) (h0:0≤l) (h1:l≤h) (h2:h≤(s.size:Int)):bp P o S (.d (.val (.string (s.extract l.toNat h.toNat)))):=by
 refine bp.still fun m ρ a w hm hx=>?_
 have e1:=hx x (by simp [ho,Op.operands])
 have e2:∀ y,lo=some y→aO m ρ (aH S y) (a.eval y):=fun y hy=>hx y (by simp [ho,hy,Op.operands])
 have e3:∀ y,hi=some y→aO m ρ (aH S y) (a.eval y):=fun y hy=>hx y (by simp [ho,hy,Op.operands])
 obtain ⟨dst,op',type,pos,after,guard⟩:=o
 simp only at ho
 subst ho
 rw [hp] at e1
 simp only [aO,bk] at e1
 have hb:=uP (P:=P) (w:=w) (Ju:=false) hl hh e2 e3 h0 h1 h2 (Nat.le_refl _)
 refine ⟨.string (s.extract l.toNat h.toNat),?_,by simp [aO,bk]⟩
 simp [execOp,Instr.sliceAt,run_underlying hu,Instr.slice,e1,hb]
theorem NM {o:Oper} {S:Nat→PV} {t:TypeId} {x:Operand} {lo hi:Option Operand} (ho:o.op= .slice t x lo hi none) {sz jq:Nat} {ag:Bool} (hs:qG P t=some (sz,jq,ag)) {e:List D} (hp:(aH S x).elems=some e)
  {l h:Int} (hl:pV 0 (lo.map (aH S))=some l) (hh:pV e.length (hi.map (aH S))=some h) (h0:0≤l) (h1:l≤h) (h2:h≤(e.length:Int))
  (hz:∀ x∈e,x.cells.length=sz):bp P o S (.d (.slice ((e.drop l.toNat).take (h-l).toNat))):=by
 refine bp.still fun m ρ a w hm hx=>?_
 have e1:=hx x (by simp [ho,Op.operands])
 have e2:∀ y,lo=some y→aO m ρ (aH S y) (a.eval y):=fun y hy=>hx y (by simp [ho,hy,Op.operands])
 have e3:∀ y,hi=some y→aO m ρ (aH S y) (a.eval y):=fun y hy=>hx y (by simp [ho,hy,Op.operands])
 obtain ⟨dst,op',type,pos,after,guard⟩:=o
 simp only at ho
 subst ho
 obtain ⟨ad,c,ev,hc,iY⟩:=rQ hp e1
 obtain ⟨et,inf,hu,ht,hi',_,_⟩:=wH hs
 have hsz:=(iE ht w).2
 have hb:=uP (P:=P) (w:=w) (Ju:=true) (cap:=c) hl hh e2 e3 h0 h1 h2 hc
 have hlen:((e.drop l.toNat).take (h-l).toNat).length=h.toNat-l.toNat:=by simp;omega
 refine ⟨.slice (if c=l.toNat then ad else ad.map (·.add (l.toNat*sz))) (h.toNat-l.toNat) (c-l.toNat),?_,?_⟩
 ·simp [execOp,Instr.sliceAt,run_underlying hu,Instr.slice,ev,hb,hsz]
 ·simp only [aO,bk,hlen]
  refine ⟨_,_,rfl,by omega,?_⟩
  rcases iY with rfl | ⟨b,o',rfl,hE⟩
  ·left;simp
  ·by_cases LM:c=l.toNat
   ·left
    have:h.toNat-l.toNat=0:=by omega
    apply List.eq_nil_of_length_eq_zero
    rw [hlen,this]
   ·right
    refine ⟨b,o'+l.toNat*sz,?_,Jv _ _ hE hz (by omega)⟩
    simp [LM,jh]
theorem LN {o:Oper} {S:Nat→PV} {t:TypeId} {x:Operand} {lo:Option Operand} {hi mx:Operand} (ho:o.op= .slice t x lo (some hi) (some mx)) {sz jq:Nat} {ag:Bool} (hs:qG P t=some (sz,jq,ag)) {e:List D} (hp:(aH S x).elems=some e)
  {l h:Int} {k k':IntKind} (hl:pV 0 (lo.map (aH S))=some l) (hh:aH S hi= .d (.val (.int k h))) (hm':aH S mx= .d (.val (.int k' h))) (h0:0≤l) (h1:l≤h) (h2:h≤(e.length:Int))
  (hz:∀ x∈e,x.cells.length=sz):bp P o S (.full ((e.drop l.toNat).take (h-l).toNat)):=by
 refine bp.still fun m ρ a w hm hx=>?_
 have e1:=hx x (by simp [ho,Op.operands])
 have e2:∀ y,lo=some y→aO m ρ (aH S y) (a.eval y):=fun y hy=>hx y (by simp [ho,hy,Op.operands])
 have e3:=hx hi (by simp [ho,Op.operands])
 have e4:=hx mx (by simp [ho,Op.operands])
 obtain ⟨dst,op',type,pos,after,guard⟩:=o
 simp only at ho
 subst ho
 rw [hh] at e3
 rw [hm'] at e4
 simp only [aO,bk] at e3 e4
 obtain ⟨ad,c,ev,hc,iY⟩:=rQ hp e1
 obtain ⟨et,inf,hu,ht,hi',_,_⟩:=wH hs
 have hsz:=(iE ht w).2
 have Yz:((h.toNat:Nat):Int)=h:=Int.toNat_of_nonneg (by omega)
 have b1:=rS (P:=P) (w:=w) (k:=k') .slice3Acap (show 0≤h by omega) (show h≤(c:Int) by omega)
 have b2:=rS (P:=P) (w:=w) (k:=k) (y:=h.toNat) .slice3B (show 0≤h by omega) (by omega)
 have hb:(Instr.sliceBounds true e.length c (lo.map a.eval) (some (a.eval hi)) (some (a.eval mx))).run P w= .ok (l.toNat,h.toNat,h.toNat) w:=by
  rcases GZ hl e2 with ⟨rfl,rfl⟩ | ⟨y,ky,rfl,hy⟩
  ·simp [Instr.sliceBounds,e3,e4,b1,b2]
  ·have b3:=rS (P:=P) (w:=w) (k:=ky) (y:=h.toNat) .slice3C h0 (by omega)
   simp [Instr.sliceBounds,e3,e4,hy,b1,b2,b3]
 have hlen:((e.drop l.toNat).take (h-l).toNat).length=h.toNat-l.toNat:=by simp;omega
 refine ⟨.slice (if h.toNat=l.toNat then ad else ad.map (·.add (l.toNat*sz))) (h.toNat-l.toNat) (h.toNat-l.toNat),?_,?_⟩
 ·simp [execOp,Instr.sliceAt,run_underlying hu,Instr.slice,ev,hb,hsz]
 ·simp only [aO,hlen]
  refine ⟨_,rfl,?_⟩
  rcases iY with rfl | ⟨b,o',rfl,hE⟩
  ·left;simp
  ·by_cases LM:h.toNat=l.toNat
   ·left
    have:h.toNat-l.toNat=0:=by omega
    apply List.eq_nil_of_length_eq_zero
    rw [hlen,this]
   ·right
    refine ⟨b,o'+l.toNat*sz,?_,Jv _ _ hE hz (by omega)⟩
    simp [LM,jh]
theorem KW {o:Oper} {S:Nat→PV} {t:TypeId} {x:Operand} {lo hi:Option Operand} (ho:o.op= .slice t x lo hi none) {n:Nat} {ag:Bool} (ha:nR P t=some (n,1,ag)) {c:List D} (hp:aH S x= .d (.cF c))
  {l h:Int} (hl:pV 0 (lo.map (aH S))=some l) (hh:pV n (hi.map (aH S))=some h) (h0:0≤l) (h1:l≤h) (h2:h≤(n:Int)) (h3:n≤c.length) (hz:∀ x∈c,x.flat=true):
  bp P o S (if hi.isSome then .d (.slice ((c.drop l.toNat).take (h-l).toNat)) else .full ((c.drop l.toNat).take (h-l).toNat)):=by
 refine bp.still fun m ρ a w hm hx=>?_
 have e1:=hx x (by simp [ho,Op.operands])
 have e2:∀ y,lo=some y→aO m ρ (aH S y) (a.eval y):=fun y hy=>hx y (by simp [ho,hy,Op.operands])
 have e3:∀ y,hi=some y→aO m ρ (aH S y) (a.eval y):=fun y hy=>hx y (by simp [ho,hy,Op.operands])
 obtain ⟨dst,op',type,pos,after,guard⟩:=o
 simp only at ho
 subst ho
 rw [hp] at e1
 simp only [aO,bk] at e1
 obtain ⟨b,o',ev,hc⟩:=e1
 obtain ⟨et,hu,ht⟩:=rR ha
 have hsz:=(iE ht w).2
 have hb:=uP (P:=P) (w:=w) (Ju:=false) hl hh e2 e3 h0 h1 h2 (Nat.le_refl _)
 have hlen:((c.drop l.toNat).take (h-l).toNat).length=h.toNat-l.toNat:=by simp;omega
 have hE:gY m b ((c.drop l.toNat).take (h-l).toNat) (o'+l.toNat):=
  (C3 fun y hy=>hz y (List.mem_of_mem_drop (List.mem_of_mem_take hy))).2 (C2 _ (zo _ hc))
 refine ⟨.slice (some (if n=l.toNat then ⟨b,o',none⟩ else (⟨b,o',none⟩:Addr).add l.toNat)) (h.toNat-l.toNat) (n-l.toNat),?_,?_⟩
 ·simp [execOp,Instr.sliceAt,run_underlying hu,ev,Instr.sureAddr,hb,hsz]
 ·have YA:n=l.toNat→((c.drop l.toNat).take (h-l).toNat)=[]:=by
   intro e
   apply List.eq_nil_of_length_eq_zero
   rw [hlen]
   omega
  have hbase:((c.drop l.toNat).take (h-l).toNat)=[]∨∃ b_1 YB,some (if n=l.toNat then (⟨b,o',none⟩:Addr) else (⟨b,o',none⟩:Addr).add l.toNat)=some ⟨b_1,YB,none⟩∧gY m b_1 ((c.drop l.toNat).take (h-l).toNat) YB:=by
   by_cases e:n=l.toNat
   ·exact .inl (YA e)
   ·exact .inr ⟨b,o'+l.toNat,by simp [e,jh],hE⟩
  split
  ·simp only [aO,bk,hlen]
   exact ⟨_,_,rfl,by omega,hbase⟩
  ·rename_i hnone
   have Yz:h=n:=by
    cases hi with
    | none=>simp [pV] at hh;exact hh.symm
    | some y=>simp at hnone
   simp only [aO,hlen]
   refine ⟨_,?_,hbase⟩
   rw [Yz]
   rfl
end Go.Proofs.YtlfjfoknbjcncaaGreat.K
namespace Go.Proofs.YtlfjfoknbjcncaaGreat.K
open Go Go.RowKit
variable {P:Program}
def C9:PV→Bool
 | .d (.cF _)=>true
 | .d (.jT _ _)=>true
 | .jT _ _=>true
 | .aR _ _=>true
 | .d (.iface _ _)=>true
 | _=>false
def BR:PV→PV
 | .d (.m5 _ l)=> .d (.cF l)
 | p=>p
def zw:PV→Prop
 | .d (.m5 z _)=>z=false
 | p=>C9 p=true
theorem NN {p:PV} (h:C9 p=true):BR p=p∧zw p:=by
 unfold BR zw
 split
 ·simp [C9] at h
 ·exact ⟨rfl,h⟩
theorem Ge {o:Oper} {S:Nat→PV} {x:Operand} (ho:o.op= .nilCheck x) (h:zw (aH S x)):bp P o S (BR (aH S x)):=by
 refine bp.still fun m ρ a w hm hx=>?_
 have h1:=hx x (by simp [ho,Op.operands])
 obtain ⟨dst,op',type,pos,after,guard⟩:=o
 simp only at ho
 subst ho
 generalize aH S x=p at*
 cases p with
 | d y=>
  cases y with
  | cF l=>refine ⟨a.eval x,?_,h1⟩;simp only [aO,bk] at h1;obtain ⟨b,o',e,_⟩:=h1;simp [execOp,e]
  | m5 z l=>
   simp only [zw] at h
   simp only [aO,bk,h,Bool.false_eq_true,false_and,true_and,false_or] at h1
   obtain ⟨b,o',e,h2⟩:=h1
   refine ⟨a.eval x,by simp [execOp,e],?_⟩
   simp only [BR,aO,bk]
   exact ⟨b,o',e,h2⟩
  | jT f l=>refine ⟨a.eval x,?_,h1⟩;simp only [aO,bk] at h1;obtain ⟨vs,e,_⟩:=h1;simp [execOp,e]
  | iface t y=>refine ⟨a.eval x,?_,h1⟩;simp only [aO,bk] at h1;obtain ⟨vs,e,_⟩:=h1;simp [execOp,e]
  | _=>simp [zw,C9] at h
 | jT f l=>refine ⟨a.eval x,?_,h1⟩;simp only [aO] at h1;obtain ⟨vs,e,_⟩:=h1;simp [execOp,e]
 | aR id off=>refine ⟨a.eval x,?_,h1⟩;simp only [aO] at h1;obtain ⟨b,c,_,e⟩:=h1;simp [execOp,e]
 | _=>simp [zw,C9] at h
theorem P6 {o:Oper} {S:Nat→PV} {t u:TypeId} {x:Operand} (ho:o.op= .convert t u x) {d:TypeDesc} (ht:P.underlying t=some d) {k k':IntKind} {n:Int} (hu:P.underlying u=some (.int k)) (hp:aH S x= .d (.val (.int k' n))):
  bp P o S (.d (.val (.int k (k.wrap n)))):=by
 refine bp.still fun m ρ a w hm hx=>?_
 have h1:=hx x (by simp [ho,Op.operands])
 obtain ⟨dst,op',type,pos,after,guard⟩:=o
 simp only at ho
 subst ho
 rw [hp] at h1
 simp only [aO,bk] at h1
 exact ⟨.int k (k.wrap n),by simp [execOp,convert,run_underlying ht,run_underlying hu,h1,Conv.intToInt],by simp [aO,bk]⟩
theorem P7 {o:Oper} {S:Nat→PV} {t u:TypeId} {x:Operand} (ho:o.op= .convert t u x) {d:TypeDesc} (ht:P.underlying t=some d) {s:ByteArray} (hu:P.underlying u=some .string) (hp:aH S x= .d (.val (.string s))):
  bp P o S (.d (.val (.string s))):=by
 refine bp.still fun m ρ a w hm hx=>?_
 have h1:=hx x (by simp [ho,Op.operands])
 obtain ⟨dst,op',type,pos,after,guard⟩:=o
 simp only at ho
 subst ho
 rw [hp] at h1
 simp only [aO,bk] at h1
 exact ⟨.string s,by simp [execOp,convert,run_underlying ht,run_underlying hu,h1],by simp [aO,bk]⟩
theorem foldl_push (l:List UInt8):∀ s:ByteArray,(l.foldl (fun r b=>r.push b) s).data.toList=s.data.toList++l:=by
 induction l with
 | nil=>intro s;simp
 | cons b l ih=>
  intro s
  simp only [List.foldl_cons]
  rw [ih]
  simp [ByteArray.push]
theorem G0 {a b:ByteArray} (h:a.data.toList=b.data.toList):a=b:=by
 cases a;cases b
 simp only [ByteArray.mk.injEq]
 exact Array.ext' h
theorem AM {m:Mem}:∀ {bs:List UInt8} {vs:List Value},bP m (bs.map aa) vs→vs=bs.map fun b=> .int .u8 b.toNat
 | [],vs,h=>by simpa [bP] using h
 | b::r,vs,h=>by
  simp only [List.map_cons,bP,aa,bk] at h
  obtain ⟨v,vr,rfl,h1,h2⟩:=h
  have h3:=AM (bs:=r) h2
  rw [h1,h3]
  simp
theorem wI:∀ bs:List UInt8,(bs.map aa).flatMap D.cells=bs.map aa
 | []=>rfl
 | b::r=>by simp only [List.map_cons,List.flatMap_cons,wI r];rfl
theorem LO {o:Oper} {S:Nat→PV} {t u e:TypeId} {x:Operand} (ho:o.op= .convert t u x) (ht:P.underlying t=some (.slice e)) (he:P.underlying e=some (.int .u8)) (hu:P.underlying u=some .string) {bs:List UInt8}
  (hp:(aH S x).elems=some (bs.map aa)):bp P o S (.d (.val (.string ⟨bs.toArray⟩))):=by
 refine bp.still fun m ρ a w hm hx=>?_
 have h1:=hx x (by simp [ho,Op.operands])
 obtain ⟨dst,op',type,pos,after,guard⟩:=o
 simp only at ho
 subst ho
 obtain ⟨ad,c,ev,_,iY⟩:=rQ hp h1
 refine ⟨.string ⟨bs.toArray⟩,?_,by simp [aO,bk]⟩
 have hrun:(Conv.bytesToString (a.eval x)).run P w= .ok (.string ⟨bs.toArray⟩) w:=by
  rw [ev]
  cases ad with
  | none=>
   have:bs=[]:=by
    rcases iY with h | ⟨b,o',h,_⟩
    ·simpa using h
    ·cases h
   subst this
   simp [Conv.bytesToString]
   rfl
  | some ad=>
   obtain ⟨vs,hl,hv,hcell⟩:∃ vs:List Value,vs.length=bs.length∧vs=bs.map (fun b=> .int .u8 b.toNat)∧∀ j v,vs[j]? =some v→w.cell? (ad.add j)=some v:=by
    rcases iY with h | ⟨b,o',h,hE⟩
    ·have:bs=[]:=by simpa using h
     subst this
     exact ⟨[],rfl,rfl,by simp⟩
    ·cases h
     obtain ⟨vs,e1,e2,e3⟩:=C4 hE
     rw [wI] at e2
     refine ⟨vs,by rw [n6 e2];simp,AM e2,(vY hm e3).1⟩
   have hlc:=run_loadCells_list (P:=P) w ad vs hcell
   rw [hl,hv] at hlc
   have:=run_bytesToString (P:=P) w ad bs.length c (bs.map fun b=>(b.toNat:Int)) (by rw [hlc];simp [List.map_map,Function.comp_def])
   simp only [List.length_map] at this ⊢
   rw [this]
   congr 2
   apply G0
   have e:∀ (l:List UInt8) (s:ByteArray),(l.map fun b=>(b.toNat:Int)).foldl (fun r n=>r.push (UInt8.ofNat n.toNat)) s=l.foldl (fun r b=>r.push b) s:=by
    intro l
    induction l with
    | nil=>intro s;rfl
    | cons b l ih=>
     intro s
     simp only [List.map_cons,List.foldl_cons,Int.toNat_natCast,UInt8.ofNat_toNat]
     exact ih _
   rw [e,foldl_push]
   simp [ByteArray.empty,ByteArray.emptyWithCapacity]
   rfl
 simp [execOp,convert,run_underlying ht,run_underlying hu,run_underlying he,ev]
 rw [ev] at hrun
 simp only [List.length_map] at hrun
 simp [hrun]
theorem LP {o:Oper} {S:Nat→PV} {x:Operand} {t:TypeId} (ho:o.op= .call {callee:= .builtin .len,args:= #[x],argTypes:= #[t]}) (ht:P.underlying t=some .string) {s:ByteArray} (hp:aH S x= .d (.val (.string s))):
  bp P o S (.d (.val (.int .i64 s.size))):=by
 refine bp.still fun m ρ a w hm hx=>?_
 have h1:=hx x (by simp [ho,Op.operands,Call.operands])
 obtain ⟨dst,op',type,pos,after,guard⟩:=o
 simp only at ho
 subst ho
 rw [hp] at h1
 simp only [aO,bk] at h1
 exact ⟨.int .i64 s.size,by simp [execOp,resolve,invoke,builtin,Builtin.len_,run_underlying ht,h1,goInt],by simp [aO,bk]⟩
theorem RI {o:Oper} {S:Nat→PV} {x:Operand} {t e:TypeId} (ho:o.op= .call {callee:= .builtin .len,args:= #[x],argTypes:= #[t]}) (ht:P.underlying t=some (.slice e)) {l:List D} (hp:(aH S x).elems=some l):
  bp P o S (.d (.val (.int .i64 l.length))):=by
 refine bp.still fun m ρ a w hm hx=>?_
 have h1:=hx x (by simp [ho,Op.operands,Call.operands])
 obtain ⟨dst,op',type,pos,after,guard⟩:=o
 simp only at ho
 subst ho
 obtain ⟨ad,c,ev,_,_⟩:=rQ hp h1
 exact ⟨.int .i64 l.length,by simp [execOp,resolve,invoke,builtin,Builtin.len_,run_underlying ht,ev,goInt],by simp [aO,bk]⟩
theorem NO {o:Oper} {S:Nat→PV} {x:Operand} {t e:TypeId} {n:Nat} (ho:o.op= .call {callee:= .builtin .len,args:= #[x],argTypes:= #[t]}) (ht:P.underlying t=some (.array n e)):
  bp P o S (.d (.val (.int .i64 n))):=by
 refine bp.still fun m ρ a w hm hx=>?_
 obtain ⟨dst,op',type,pos,after,guard⟩:=o
 simp only at ho
 subst ho
 refine ⟨.int .i64 n,?_,by simp [aO,bk]⟩
 simp only [execOp,resolve,invoke,builtin,Builtin.len_,Sem.run_bind,Sem.run_pure,Result.andThen_ok,List.map_toArray,List.map_cons,List.map_nil,run_underlying ht,goInt,List.getElem?_toArray,List.getElem?_cons_zero]
theorem LQ {o:Oper} {S:Nat→PV} {x:Operand} {t u e:TypeId} {n:Nat} (ho:o.op= .call {callee:= .builtin .len,args:= #[x],argTypes:= #[t]}) (ht:P.underlying t=some (.pointer u)) (hu:P.underlying u=some (.array n e)):
  bp P o S (.d (.val (.int .i64 n))):=by
 refine bp.still fun m ρ a w hm hx=>?_
 obtain ⟨dst,op',type,pos,after,guard⟩:=o
 simp only at ho
 subst ho
 refine ⟨.int .i64 n,?_,by simp [aO,bk]⟩
 simp only [execOp,resolve,invoke,builtin,Builtin.len_,Sem.run_bind,Sem.run_pure,Result.andThen_ok,List.map_toArray,List.map_cons,List.map_nil,run_underlying ht,goInt,List.getElem?_toArray,List.getElem?_cons_zero]
 cases a.eval x<;>simp [run_underlying hu]
theorem RJ {o:Oper} {S:Nat→PV} {x y:Operand} {ts:Array TypeId} (ho:o.op= .call {callee:= .builtin .min,args:= #[x,y],argTypes:=ts}) {k k':IntKind} {i j:Int}
  (hp:aH S x= .d (.val (.int k i))) (hq:aH S y= .d (.val (.int k' j))):bp P o S (.d (.val (.int k (if j<i then j else i)))):=by
 refine bp.still fun m ρ a w hm hx=>?_
 have h1:=hx x (by simp [ho,Op.operands,Call.operands])
 have h2:=hx y (by simp [ho,Op.operands,Call.operands])
 obtain ⟨dst,op',type,pos,after,guard⟩:=o
 simp only at ho
 subst ho
 rw [hp] at h1
 rw [hq] at h2
 simp only [aO,bk] at h1 h2
 exact ⟨_,by simp [execOp,resolve,invoke,builtin,Builtin.min_,Builtin.min2,h1,h2];rfl,by simp [aO,bk]⟩
theorem RL {o:Oper} {S:Nat→PV} {x y:Operand} {ts:Array TypeId} (ho:o.op= .call {callee:= .builtin .max,args:= #[x,y],argTypes:=ts}) {k k':IntKind} {i j:Int}
  (hp:aH S x= .d (.val (.int k i))) (hq:aH S y= .d (.val (.int k' j))):bp P o S (.d (.val (.int k (if j>i then j else i)))):=by
 refine bp.still fun m ρ a w hm hx=>?_
 have h1:=hx x (by simp [ho,Op.operands,Call.operands])
 have h2:=hx y (by simp [ho,Op.operands,Call.operands])
 obtain ⟨dst,op',type,pos,after,guard⟩:=o
 simp only at ho
 subst ho
 rw [hp] at h1
 rw [hq] at h2
 simp only [aO,bk] at h1 h2
 exact ⟨_,by simp [execOp,resolve,invoke,builtin,Builtin.max_,Builtin.max2,h1,h2];rfl,by simp [aO,bk]⟩
def LR (f:Nat) (l:List PV):PV:=
 match PV.dW l with
 | some ds=> .d (.jT f ds)
 | none=> .jT f l
theorem Gf {o:Oper} {S:Nat→PV} {f:Nat} {caps:Array Operand} (ho:o.op= .makeFunc (.func f) #[] caps):bp P o S (LR f (caps.toList.map (aH S))):=by
 refine bp.still fun m ρ a w hm hx=>?_
 have h1:∀ x∈caps.toList,aO m ρ (aH S x) (a.eval x):=fun x hx'=>hx x (by simp [ho,Op.operands];simpa using hx')
 obtain ⟨dst,op',type,pos,after,guard⟩:=o
 simp only at ho
 subst ho
 have hr:bC m ρ (caps.toList.map (aH S)) (caps.toList.map a.eval):=by
  have:∀ (l:List Operand),(∀ x∈l,aO m ρ (aH S x) (a.eval x))→bC m ρ (l.map (aH S)) (l.map a.eval):=by
   intro l
   induction l with
   | nil=>intro _;simp [bC]
   | cons x r ih=>intro h;simp only [List.map_cons,bC];exact ⟨_,_,rfl,h x (List.mem_cons_self ..),ih fun y hy=>h y (List.mem_cons_of_mem _ hy)⟩
  exact this _ h1
 refine ⟨.func (.func f) #[] ⟨caps.toList.map a.eval⟩,?_,?_⟩
 ·simp [execOp,Instr.makeFunc]
  apply Array.ext'
  simp
 ·unfold LR
  split
  ·rename_i ds hds
   simp only [aO,bk]
   exact ⟨_,rfl,bC.dW _ _ _ hds hr⟩
  ·simp only [aO]
   exact ⟨_,rfl,hr⟩
theorem AN {o:Oper} {S:Nat→PV} {t:TypeId} {x:Operand} (ho:o.op= .makeInterface t x) {d:TypeDesc} (ht:P.underlying t=some d) (hd:(match d with | .interface _=>false | _=>true)=true) {y:D} (hp:(aH S x).cN=some y):
  bp P o S (.d (.iface t y)):=by
 refine bp.still fun m ρ a w hm hx=>?_
 have h1:=hx x (by simp [ho,Op.operands])
 obtain ⟨dst,op',type,pos,after,guard⟩:=o
 simp only at ho
 subst ho
 refine ⟨.iface t (a.eval x),?_,?_⟩
 ·simp only [execOp,Instr.makeInterface,Sem.run_bind,run_underlying ht,Result.andThen_ok]
  cases d<;>simp_all
 ·simp only [aO,bk]
  exact ⟨_,rfl,aO.cN _ _ _ hp h1⟩
theorem G2 {o:Oper} {S:Nat→PV} {t:TypeId} {x:Operand} (ho:o.op= .sliceToArrayPointer t x) {n:Nat} {ag:Bool} (ha:nR P t=some (n,1,ag)) {l:List D} (hp:(aH S x).elems=some l) (hn:n≤l.length) (h0:l≠[]) (hf:∀ x∈l,x.flat=true):
  bp P o S (.d (.cF l)):=by
 refine bp.still fun m ρ a w hm hx=>?_
 have h1:=hx x (by simp [ho,Op.operands])
 obtain ⟨dst,op',type,pos,after,guard⟩:=o
 simp only at ho
 subst ho
 obtain ⟨ad,c,ev,_,iY⟩:=rQ hp h1
 obtain ⟨b,o',rfl,hE⟩:=iY.resolve_left h0
 obtain ⟨e,hu,ht⟩:=rR ha
 have hlt:¬ l.length<n:=by omega
 refine ⟨.pointer (some ⟨b,o',none⟩),by simp [execOp,Instr.arrayAt,run_underlying hu,ev,hlt],?_⟩
 simp only [aO,bk]
 exact ⟨b,o',rfl,(C3 hf).1 hE⟩
def PV.iF:PV→List PV
 | .agg l=>l
 | .d (.agg l)=>l.map .d
 | x=>[x]
def PV.ir:PV→Bool
 | .d (.val v)=>v.oneCell'
 | .d (.tuple _)=>false
 | .tuple _=>false
 | .cond _ _=>false
 | .dJ=>false
 | _=>true
theorem sY {m:Mem} {ρ:dA} {p:PV} {v:Value} (hs:p.ir=true) (h:aO m ρ p v):bC m ρ p.iF v.cells.toList∧∀ u∈v.cells.toList,u.oneCell'=true:=by
 have one:∀ {v:Value},v.oneCell'=true→v.cells.toList=[v]:=by intro v hv;cases v<;>simp_all [Value.oneCell',Value.cells]
 have fin:∀ {q:PV},aO m ρ q v→v.oneCell'=true→q.iF=[q]→bC m ρ q.iF v.cells.toList∧∀ u∈v.cells.toList,u.oneCell'=true:=by
  intro q hq hv hc
  rw [hc,one hv]
  refine ⟨by simp only [bC];exact ⟨v,[],rfl,hq,rfl⟩,?_⟩
  intro u hu;simp at hu;subst hu;exact hv
 cases p with
 | d x=>
  cases x with
  | val z=>exact fin h (by simp only [aO,bk] at h;subst h;simpa [PV.ir] using hs) rfl
  | agg l=>
   simp only [aO,bk] at h
   obtain ⟨vs,rfl,h1,h2⟩:=h
   exact ⟨by simpa [PV.iF,Value.cells] using GX h1,by simpa [Value.cells] using h2⟩
  | slice l=>exact fin h (by simp only [aO,bk] at h;obtain ⟨a,c,rfl,_⟩:=h;rfl) rfl
  | cF l=>exact fin h (by simp only [aO,bk] at h;obtain ⟨a,c,rfl,_⟩:=h;rfl) rfl
  | m5 z l=>exact fin h (by simp only [aO,bk] at h;rcases h with ⟨_,rfl⟩ | ⟨_,a,c,rfl,_⟩<;>rfl) rfl
  | jT f l=>exact fin h (by simp only [aO,bk] at h;obtain ⟨a,rfl,_⟩:=h;rfl) rfl
  | iface t y=>exact fin h (by simp only [aO,bk] at h;obtain ⟨a,rfl,_⟩:=h;rfl) rfl
  | tuple l=>simp [PV.ir] at hs
 | full l=>exact fin h (by simp only [aO] at h;obtain ⟨a,rfl,_⟩:=h;rfl) rfl
 | own id l=>exact fin h (by simp only [aO] at h;rcases h with ⟨b,c,_,rfl,_⟩ | ⟨_,a,rfl⟩<;>rfl) rfl
 | aR id off=>exact fin h (by simp only [aO] at h;obtain ⟨b,c,_,rfl⟩:=h;rfl) rfl
 | iG id off n=>exact fin h (by simp only [aO] at h;rcases h with ⟨b,c,_,_,rfl,_⟩ | ⟨_,a,_,rfl⟩<;>rfl) rfl
 | room id n=>exact fin h (by simp only [aO] at h;rcases h with ⟨b,c,_,rfl,_⟩ | ⟨_,a,rfl⟩<;>rfl) rfl
 | jT f l=>exact fin h (by simp only [aO] at h;obtain ⟨a,rfl,_⟩:=h;rfl) rfl
 | agg l=>
  simp only [aO] at h
  obtain ⟨vs,rfl,h1,h2⟩:=h
  exact ⟨by simpa [PV.iF,Value.cells] using h1,by simpa [Value.cells] using h2⟩
 | tuple l=>simp [PV.ir] at hs
 | cond g q=>simp [PV.ir] at hs
 | dJ=>simp [PV.ir] at hs
def m4 {α:Type} (l:List α) (off:Nat) (c:List α):List α:=l.take off++(c++l.drop (off+c.length))
theorem G3 (c:List Value):∀ (k off:Nat) (l:List Value),off+k+c.length≤l.length→
  ((c.zipIdx k).foldl (fun cs (x:Value×Nat)=>cs.setIfInBounds (off+x.2) x.1) (⟨l⟩:Array Value)).toList=m4 l (off+k) c:=by
 induction c with
 | nil=>intro k off l _;simp [m4]
 | cons v r ih=>
  intro k off l h
  simp only [List.length_cons] at h
  simp only [List.zipIdx_cons,List.foldl_cons,List.setIfInBounds_toArray]
  rw [ih (k+1) off _ (by simp;omega)]
  unfold m4
  have e1:(l.set (off+k) v).take (off+(k+1))=l.take (off+k)++[v]:=by
   rw [show off+(k+1)=(off+k)+1 from by omega,List.take_succ_eq_append_getElem (by simp;omega),List.take_set,List.set_eq_of_length_le (by simp;omega)]
   simp
  have e2:(l.set (off+k) v).drop (off+(k+1)+r.length)=l.drop (off+k+(v::r).length):=by
   rw [List.drop_set_of_lt (by omega)]
   simp only [List.length_cons]
   congr 1
   omega
  rw [e1,e2]
  simp
theorem Jw {place:Nat→Option (Nat×Nat)} {cells:List Value} {i off size:Nat} {v:Value} {rest:List (Nat×Value)} (hp:place i=some (off,size)) (hs:v.cells.size=size) (hf:off+size≤cells.length):
  Instr.fill place ⟨cells⟩ ((i,v)::rest)=Instr.fill place ⟨m4 cells off v.cells.toList⟩ rest:=by
 have hn:¬ (v.cells.size≠size∨off+v.cells.size>(⟨cells⟩:Array Value).size):=by
  simp;omega
 simp only [Instr.fill,hp]
 rw [if_neg (by simpa using hn)]
 congr 1
 apply Array.ext'
 have:=G3 v.cells.toList 0 off cells (by simp;omega)
 simp only [Nat.add_zero] at this
 rw [← this]
 congr 1
 rw [← Array.foldl_toList]
 simp
theorem Jx {m:Mem} {ρ:dA} {l:List PV} {vs:List Value} {c:List PV} {us:List Value} (off:Nat) (h:bC m ρ l vs) (hc:bC m ρ c us):bC m ρ (m4 l off c) (m4 vs off us):=by
 unfold m4
 rw [o9 hc]
 exact vX (pX _ h) (vX hc (wG _ h))
def lW (place:Nat→Option (Nat×Nat)):List PV→List (Nat×PV)→List PV×Prop
 | cells,[]=>(cells,True)
 | cells,(i,p)::r=>
  match place i with
  | some (off,size)=>((lW place (m4 cells off p.iF) r).1,(p.ir=true∧p.iF.length=size∧off+size≤cells.length)∧(lW place (m4 cells off p.iF) r).2)
  | none=>([],False)
theorem DT {m:Mem} {ρ:dA} {place:Nat→Option (Nat×Nat)} {S:Nat→PV} {a:Act}:∀ (parts:List (Nat×Operand)) (cells:List PV) (vs:List Value),bC m ρ cells vs→(∀ u∈vs,u.oneCell'=true)→
  (∀ x∈parts,aO m ρ (aH S x.2) (a.eval x.2))→(lW place cells (parts.map fun x=>(x.1,aH S x.2))).2→
   ∃ us,Instr.fill place ⟨vs⟩ (parts.map fun x=>(x.1,a.eval x.2))=some ⟨us⟩∧bC m ρ (lW place cells (parts.map fun x=>(x.1,aH S x.2))).1 us∧∀ u∈us,u.oneCell'=true
 | [],cells,vs,h,h1,_,_=>⟨vs,rfl,h,h1⟩
 | (i,x)::r,cells,vs,h,h1,hx,hc=>by
  simp only [List.map_cons,lW] at hc ⊢
  cases hp:place i with
  | none=>simp [hp] at hc
  | some os=>
   obtain ⟨off,size⟩:=os
   simp only [hp] at hc ⊢
   obtain ⟨⟨c1,c2,c3⟩,c4⟩:=hc
   obtain ⟨e1,e2⟩:=sY c1 (hx (i,x) (List.mem_cons_self ..))
   have hl:=o9 e1
   have P8:=o9 h
   simp only [Array.length_toList] at hl
   rw [Jw hp (by rw [hl];exact c2) (by omega)]
   refine DT r _ _ (Jx off h e1) ?_ (fun y hy=>hx y (List.mem_cons_of_mem _ hy)) c4
   intro u hu
   unfold m4 at hu
   simp only [List.mem_append] at hu
   rcases hu with hu | hu | hu
   ·exact h1 u (List.mem_of_mem_take hu)
   ·exact e2 u hu
   ·exact h1 u (List.mem_of_mem_drop hu)
def sv (P:Program) (t:TypeId):Option (List Value×(List (Nat×Nat)⊕Nat)):=
 match P.info? t,P.underlying t with
 | some it,some (.array _ e)=>
  match it.zero,P.info? e with
  | some z,some ie=>some (z.cells.toList, .inr ie.size)
  | _,_=>none
 | some it,some (.struct fields)=>
  match it.zero,fields.toList.mapM (fun f=>(P.info? f.type).map fun i=>(f.offset,i.size)) with
  | some z,some places=>some (z.cells.toList, .inl places)
  | _,_=>none
 | _,_=>none
def placeOf:List (Nat×Nat)⊕Nat→Nat→Option (Nat×Nat)
 | .inl l,i=>l[i]?
 | .inr n,i=>some (i*n,n)
theorem P9 {t:TypeId} {z:List Value} {pl:List (Nat×Nat)⊕Nat} (h:sv P t=some (z,pl)) (parts:List (Nat×Value)):P.built t parts=Instr.fill (placeOf pl) ⟨z⟩ parts:=by
 unfold sv at h
 unfold Program.built
 cases hi:P.info? t with
 | none=>simp [hi] at h
 | some it=>
  cases hu:P.underlying t with
  | none=>simp [hi,hu] at h
  | some d=>
   cases d with
   | array n e=>
    simp only [hi,hu] at h ⊢
    cases hz:it.zero with
    | none=>simp [hz] at h
    | some zz=>
     cases YC:P.info? e with
     | none=>simp [hz,YC] at h
     | some ie=>
      simp only [hz,YC,Option.some.injEq,Prod.mk.injEq] at h ⊢
      obtain ⟨rfl,rfl⟩:=h
      rfl
   | struct fields=>
    simp only [hi,hu] at h ⊢
    cases hz:it.zero with
    | none=>simp [hz] at h
    | some zz=>
     cases hp:fields.toList.mapM (fun f=>(P.info? f.type).map fun i=>(f.offset,i.size)) with
     | none=>simp [hz,hp] at h
     | some places=>
      simp only [hz,hp,Option.some.injEq,Prod.mk.injEq] at h ⊢
      obtain ⟨rfl,rfl⟩:=h
      simp
      rfl
   | _=>simp [hi,hu] at h
def lX (b:Option (List Value×(List (Nat×Nat)⊕Nat))) (parts:List (Nat×PV)):PV×Prop:=
 match b with
 | some (z,pl)=>(.agg (lW (placeOf pl) (z.map oF) parts).1,(z.all Value.oneCell'=true)∧(lW (placeOf pl) (z.map oF) parts).2)
 | none=>(.dJ,False)
theorem KX {o:Oper} {S:Nat→PV} {t:TypeId} {parts:Array (Nat×Operand)} (ho:o.op= .build t parts) (h:(lX (sv P t) (parts.toList.map fun x=>(x.1,aH S x.2))).2):
  bp P o S (lX (sv P t) (parts.toList.map fun x=>(x.1,aH S x.2))).1:=by
 refine bp.still fun m ρ a w hm hx=>?_
 have h1:∀ x∈parts.toList,aO m ρ (aH S x.2) (a.eval x.2):=fun x hx'=>hx x.2 (by
  simp only [ho,Op.operands]
  rw [Array.mem_def]
  exact List.mem_map.2 ⟨x,hx',rfl⟩)
 obtain ⟨dst,op',type,pos,after,guard⟩:=o
 simp only at ho
 subst ho
 cases hb:sv P t with
 | none=>simp [lX,hb] at h
 | some zp=>
  obtain ⟨z,pl⟩:=zp
  simp only [lX,hb] at h ⊢
  obtain ⟨us,e1,e2,e3⟩:=DT (place:=placeOf pl) parts.toList (z.map oF) z (rI m ρ z) (fun u hu=>List.all_eq_true.1 h.1 u hu) h1 h.2
  refine ⟨.agg ⟨us⟩,?_,by simp only [aO];exact ⟨us,rfl,e2,e3⟩⟩
  have:=run_build (P:=P) w t (parts.map fun x=>(x.1,a.eval x.2)) ⟨us⟩ (by rw [P9 hb];simpa using e1)
  simp only [execOp]
  simp [this]
end Go.Proofs.YtlfjfoknbjcncaaGreat.K
namespace Go.Proofs.YtlfjfoknbjcncaaGreat.K
open Go Go.RowKit
variable {P:Program}
def Mem.with (m:Mem) (b:Nat) (vs:List Value):Mem:=fun b' o=>if b'=b then vs[o]? else m b' o
theorem Mem.uQ {m:Mem} {b:Nat} {vs:List Value} (h:∀ o,m b o=none):m.le (m.with b vs):=by
 intro b' o v e
 unfold Mem.with
 split
 ·rename_i hb;subst hb;rw [h o] at e;cases e
 ·exact e
theorem iH {w:World} {b:Nat} {vs:List Value} {t:TypeId} {fr:Nat×Nat} (h:w.heap[b]? =some (.cells ⟨vs⟩ t fr)) (o:Nat):w.cell? ⟨b,o,none⟩=vs[o]? :=by
 simp [World.cell?,h]
theorem G4 {w w':World} {b:Nat} (h:w'.heap[b]? =w.heap[b]?) (o:Nat):w'.cell? ⟨b,o,none⟩=w.cell? ⟨b,o,none⟩:=by simp [World.cell?,h]
theorem gr.step {m:Mem} {w w':World} (h:gr m w) (hs:∀ b,(∃ o v,m b o=some v)→w'.heap[b]? =w.heap[b]?):gr m w':=by
 intro b o v e
 obtain ⟨h1,h2⟩:=h b o v e
 exact ⟨by rw [G4 (hs b ⟨o,v,e⟩)];exact h1,h2⟩
theorem gr.with {m:Mem} {w w':World} (h:gr m w) (hs:∀ b,(∃ o v,m b o=some v)→w'.heap[b]? =w.heap[b]?) {b:Nat} {vs:List Value} (hc:∀ o v,vs[o]? =some v→w'.cell? ⟨b,o,none⟩=some v) (h1:∀ v∈vs,v.oneCell'=true):
  gr (m.with b vs) w':=by
 intro b' o v e
 unfold Mem.with at e
 split at e
 ·rename_i hb;subst hb
  exact ⟨hc o v e,h1 v (List.mem_of_getElem? e)⟩
 ·exact h.step hs b' o v e
theorem gr.alloc {m:Mem} {w:World} (h:gr m w) (o:Obj):gr m (w.alloc o):=
 h.step fun _ ⟨_,_,e⟩=>heap_alloc_old w o (h.lt e)
theorem uR {m:Mem} {w:World} (h:gr m w) (o:Nat):m w.heap.size o=none:=by
 cases e:m w.heap.size o with
 | none=>rfl
 | some v=>exact absurd (h.lt e) (Nat.lt_irrefl _)
theorem Ext.alloc {m m':Mem} {w:World} (hm:m.le m') (o:Obj) (hn:∀ b o v,m' b o=some v→m b o=some v∨w.heap.size≤b) (FB:Nat→Prop):Ext FB m w m' (w.alloc o):=
 ⟨hm,by simp,fun b hb _=>heap_alloc_old w o hb,rfl,rfl,rfl,fun b o v e=>(hn b o v e).imp id .inr⟩
theorem kR {m:Mem} {b:Nat}:∀ {l:List D} {o:Nat} {vs:List Value},bP m (l.flatMap D.cells) vs→(∀ j v,vs[j]? =some v→m b (o+j)=some v)→gY m b l o
 | [],_,_,_,_=>by simp [gY]
 | x::r,o,vs,h,hc=>by
  rw [nI]
  simp only [List.flatMap_cons] at h
  have hl:=n6 h
  simp only [List.length_append] at hl
  have h1:bP m x.cells (vs.take x.cells.length):=by
   have:=C5 x.cells.length h
   simpa using this
  have h2:bP m (r.flatMap D.cells) (vs.drop x.cells.length):=by
   have:=C6 x.cells.length h
   simpa using this
  have toC:∀ {l:List D} {o:Nat} {us:List Value},bP m l us→(∀ j v,us[j]? =some v→m b (o+j)=some v)→jw m b l o:=by
   intro l
   induction l with
   | nil=>intro o us _ _;simp [jw]
   | cons y l ih=>
    intro o us hu RM
    simp only [bP] at hu
    obtain ⟨v,vr,rfl,e1,e2⟩:=hu
    simp only [jw]
    refine ⟨⟨v,by simpa using RM 0 v rfl,e1⟩,ih e2 fun j u hj=>?_⟩
    have:=RM (j+1) u (by simpa using hj)
    rwa [show o+(j+1)=o+1+j from by omega] at this
  refine ⟨toC h1 fun j v hj=>hc j v (by
   rw [List.getElem?_take] at hj
   split at hj
   ·exact hj
   ·cases hj),kR h2 fun j v hj=>?_⟩
  rw [List.getElem?_drop] at hj
  have:=hc _ v hj
  rwa [show o+(x.cells.length+j)=o+x.cells.length+j from by omega] at this
theorem yh {m:Mem} {b:Nat}:∀ {l:List D} {o:Nat} {us:List Value},bP m l us→(∀ j v,us[j]? =some v→m b (o+j)=some v)→jw m b l o
 | [],_,_,_,_=>by simp [jw]
 | y::l,o,us,hu,RM=>by
  simp only [bP] at hu
  obtain ⟨v,vr,rfl,e1,e2⟩:=hu
  simp only [jw]
  refine ⟨⟨v,by simpa using RM 0 v rfl,e1⟩,yh e2 fun j u hj=>?_⟩
  have:=RM (j+1) u (by simpa using hj)
  rwa [show o+(j+1)=o+1+j from by omega] at this
theorem G5 {m:Mem} {w:World} (hm:gr m w) (vs:List Value) (t:TypeId) (h1:∀ v∈vs,v.oneCell'=true) (FB:Nat→Prop):
  m.le (m.with w.heap.size vs)∧gr (m.with w.heap.size vs) (w.alloc (.cells ⟨vs⟩ t))∧Ext FB m w (m.with w.heap.size vs) (w.alloc (.cells ⟨vs⟩ t))∧∀ j v,vs[j]? =some v→(m.with w.heap.size vs) w.heap.size (0+j)=some v:=by
 have hle:=Mem.uQ (vs:=vs) (uR hm)
 refine ⟨hle,hm.with (fun b ⟨_,_,e⟩=>heap_alloc_old w _ (hm.lt e)) (fun o v e=>?_) h1,Ext.alloc hle _ (fun b o v e=>?_) FB,fun j v e=>?_⟩
 ·rw [iH (heap_alloc_new w _)];exact e
 ·unfold Mem.with at e
  split at e
  ·rename_i hb;exact .inr (by omega)
  ·exact .inl e
 ·simp [Mem.with,e]
def qH (P:Program) (t:TypeId):Option (Nat×Nat):=
 match P.underlying t with
 | some (.slice e)=>match P.info? e with
  | some i=>match i.zero with
   | some z=>if z.cells.size=i.size∧0<i.size then some (i.size,i.bytes) else none
   | none=>none
  | none=>none
 | _=>none
theorem ug {t:TypeId} {sz jq:Nat} (h:qH P t=some (sz,jq)):∃ e i z,P.underlying t=some (.slice e)∧P.info? e=some i∧i.zero=some z∧z.cells.size=sz∧0<sz∧i.size=sz∧i.bytes=jq:=by
 unfold qH at h
 cases hu:P.underlying t with
 | none=>simp [hu] at h
 | some d=>
  cases d with
  | slice e=>
   simp only [hu] at h
   cases hi:P.info? e with
   | none=>simp [hi] at h
   | some i=>
    simp only [hi] at h
    cases hz:i.zero with
    | none=>simp [hz] at h
    | some z=>
     simp only [hz] at h
     split at h
     ·rename_i hc
      simp only [Option.some.injEq,Prod.mk.injEq] at h
      obtain ⟨h1,h2⟩:=h
      exact ⟨e,i,z,rfl,hi,hz,by omega,by omega,h1,h2⟩
     ·cases h
  | _=>simp [hu] at h
theorem LS {m:Mem} {ρ:dA} {p:PV} {x:D} {v:Value} (hx:p.cN=some x) (hs:p.ir=true) (h:aO m ρ p v):bP m x.cells v.cells.toList∧∀ u∈v.cells.toList,u.oneCell'=true:=by
 have h1:=(sY hs h).2
 have h2:=aO.cN p x v hx h
 refine ⟨?_,h1⟩
 cases x with
 | agg l=>
  simp only [bk] at h2
  obtain ⟨vs,rfl,h3,_⟩:=h2
  simpa [D.cells,Value.cells] using h3
 | val z=>
  simp only [bk] at h2
  subst h2
  have hz:v.oneCell'=true:=by
   cases p with
   | d y=>simp only [PV.cN,Option.some.injEq] at hx;subst hx;simpa [PV.ir] using hs
   | full l=>simp [PV.cN] at hx
   | own id l=>simp [PV.cN] at hx
   | aR=>simp [PV.cN] at hx
   | iG=>simp [PV.cN] at hx
   | room=>simp [PV.cN] at hx
   | jT f l=>simp [PV.cN] at hx
   | agg l=>simp [PV.cN] at hx
   | tuple l=>simp [PV.ir] at hs
   | cond=>simp [PV.ir] at hs
   | dJ=>simp [PV.ir] at hs
  cases v<;>simp_all [Value.oneCell',Value.cells,D.cells,bP,bk]
 | slice l=>simp only [bk] at h2;obtain ⟨a,c,rfl,_⟩:=id h2;simp only [D.cells,Value.cells,bP,bk];exact ⟨_,[],rfl,h2,rfl⟩
 | cF l=>simp only [bk] at h2;obtain ⟨a,c,rfl,_⟩:=id h2;simp only [D.cells,Value.cells,bP,bk];exact ⟨_,[],rfl,h2,rfl⟩
 | m5 z l=>simp only [bk] at h2;rcases id h2 with ⟨_,rfl⟩ | ⟨_,a,c,rfl,_⟩<;>(simp only [D.cells,Value.cells,bP,bk];exact ⟨_,[],rfl,h2,rfl⟩)
 | jT f l=>simp only [bk] at h2;obtain ⟨a,rfl,_⟩:=id h2;simp only [D.cells,Value.cells,bP,bk];exact ⟨_,[],rfl,h2,rfl⟩
 | iface f l=>simp only [bk] at h2;obtain ⟨a,rfl,_⟩:=id h2;simp only [D.cells,Value.cells,bP,bk];exact ⟨_,[],rfl,h2,rfl⟩
 | tuple l=>
  cases p with
  | d y=>simp only [PV.cN,Option.some.injEq] at hx;subst hx;simp [PV.ir] at hs
  | tuple l=>simp [PV.ir] at hs
  | full l=>simp [PV.cN] at hx
  | own id l=>simp [PV.cN] at hx
  | aR=>simp [PV.cN] at hx
  | iG=>simp [PV.cN] at hx
  | room=>simp [PV.cN] at hx
  | jT f l=>simp [PV.cN] at hx
  | agg l=>simp [PV.cN] at hx
  | cond=>simp [PV.ir] at hs
  | dJ=>simp [PV.ir] at hs
theorem Jy {m:Mem} {ρ:dA} {S:Nat→PV} {a:Act} {sz:Nat}:∀ (parts:List (Nat×Operand)) (xs:List D) (k:Nat) (pre:List Value) (z:List Value),pre.length=k*sz→z.length=parts.length*sz→
  parts.map (·.1)=List.range' k parts.length→PV.dW (parts.map fun x=>aH S x.2)=some xs→(∀ x∈parts,(aH S x.2).ir=true)→(∀ x∈xs,x.cells.length=sz)→(∀ x∈parts,aO m ρ (aH S x.2) (a.eval x.2))→
   ∃ us,Instr.fill (fun i=>some (i*sz,sz)) ⟨pre++z⟩ (parts.map fun x=>(x.1,a.eval x.2))=some ⟨pre++us⟩∧bP m (xs.flatMap D.cells) us∧∀ u∈us,u.oneCell'=true
 | [],xs,k,pre,z,_,hz,_,hx,_,_,_=>by
  simp only [List.map_nil,PV.dW,Option.some.injEq] at hx
  subst hx
  have:z=[]:=List.eq_nil_of_length_eq_zero (by simpa using hz)
  subst this
  exact ⟨[],rfl,by simp [bP],by simp⟩
 | (i,x)::r,xs,k,pre,z,hp,hz,hi,hx,hs,hl,hr=>by
  simp only [List.map_cons,PV.dW] at hx
  cases hd:PV.cN (aH S x) with
  | none=>simp [hd] at hx
  | some y=>
   simp only [hd,Option.map_eq_some_iff] at hx
   obtain ⟨ys,hys,rfl⟩:=hx
   simp only [List.map_cons,List.length_cons,List.range'_succ,List.cons.injEq] at hi
   obtain ⟨rfl,hi⟩:=hi
   obtain ⟨e1,e2⟩:=LS hd (hs (i,x) (List.mem_cons_self ..)) (hr (i,x) (List.mem_cons_self ..))
   dsimp only at e1 e2
   have hlen:=n6 e1
   rw [hl y (List.mem_cons_self ..),Array.length_toList] at hlen
   simp only [List.length_cons,Nat.succ_mul] at hz
   simp only [List.map_cons]
   rw [Jw (off:=i*sz) (size:=sz) rfl hlen (by simp;omega)]
   have RN:m4 (pre++z) (i*sz) (a.eval x).cells.toList=(pre++(a.eval x).cells.toList)++z.drop sz:=by
    unfold m4
    have hlen':(a.eval x).cells.toList.length=sz:=by rw [Array.length_toList];exact hlen
    rw [← hp,List.take_left,hlen',List.drop_append]
    simp
   rw [RN]
   obtain ⟨us,f1,f2,f3⟩:=Jy r ys (i+1) (pre++(a.eval x).cells.toList) (z.drop sz) (by simp [hp,hlen,Nat.succ_mul]) (by simp;omega) hi hys (fun w hw=>hs w (List.mem_cons_of_mem _ hw)) (fun w hw=>hl w (List.mem_cons_of_mem _ hw)) (fun w hw=>hr w (List.mem_cons_of_mem _ hw))
   refine ⟨(a.eval x).cells.toList++us,by rw [f1,List.append_assoc],?_,?_⟩
   ·simp only [List.flatMap_cons];exact qp e1 f2
   ·intro u hu
    rcases List.mem_append.1 hu with h | h
    ·exact e2 u h
    ·exact f3 u h
theorem DU {o:Oper} {S:Nat→PV} {t:TypeId} {n:Nat} {parts:Array (Nat×Operand)} (ho:o.op= .buildSlice t n parts) {sz jq:Nat} (ht:qH P t=some (sz,jq)) (hn:parts.toList.map (·.1)=List.range n) (hsmall:n*sz≤2 ^ 24)
  {xs:List D} (hx:PV.dW (parts.toList.map fun x=>aH S x.2)=some xs) (hs:∀ x∈parts.toList,(aH S x.2).ir=true) (hl:∀ x∈xs,x.cells.length=sz):bp P o S (.full xs):=by
 intro m ρ a w hm hx'
 have h1:∀ x∈parts.toList,aO m ρ (aH S x.2) (a.eval x.2):=fun x hxx=>hx' x.2 (by
  simp only [ho,Op.operands]
  rw [Array.mem_def]
  exact List.mem_map.2 ⟨x,hxx,rfl⟩)
 obtain ⟨dst,op',type,pos,after,guard⟩:=o
 simp only at ho
 subst ho
 obtain ⟨e,i,z,hu,hi,hz,hzs,h0,hsz,_⟩:=ug ht
 have hlen:parts.toList.length=n:=by have:=congrArg List.length hn;simpa using this
 have Un:xs.length=n:=by
  have:∀ (l:List PV) (ys:List D),PV.dW l=some ys→ys.length=l.length:=by
   intro l
   induction l with
   | nil=>intro ys h;simp only [PV.dW,Option.some.injEq] at h;subst h;rfl
   | cons p r ih=>
    intro ys h
    simp only [PV.dW] at h
    cases hp:PV.cN p with
    | none=>simp [hp] at h
    | some y=>
     simp only [hp,Option.map_eq_some_iff] at h
     obtain ⟨zr,h1,rfl⟩:=h
     simp [ih zr h1]
  rw [this _ _ hx];simpa using hlen
 have hzl:((Array.range (n*sz)).map (fun k=>(if n*sz=0 then #[] else z.cells)[k%(if n*sz=0 then #[] else z.cells).size]!)).toList.length=parts.toList.length*sz:=by simp [← hlen]
 obtain ⟨us,f1,f2,f3⟩:=Jy (m:=m) (ρ:=ρ) (S:=S) (a:=a) (sz:=sz) parts.toList xs 0 [] _ (by simp) hzl (by rw [hn,hlen,List.range_eq_range']) hx hs hl h1
 simp only [List.nil_append] at f1
 obtain ⟨g1,g2,g3,g4⟩:=G5 hm us e f3 (fun _=>False)
 refine ⟨.slice (some ⟨w.heap.size,0,none⟩) n n,m.with w.heap.size us,w.alloc (.cells ⟨us⟩ e),?_,g2,g3,?_⟩
 ·have hb:¬ (n*sz>2 ^ 24):=by omega
  simp only [execOp,Instr.buildSlice,Sem.run_bind,run_underlying hu,Result.andThen_ok,sizeOf,typeInfo,run_program,hi,Sem.run_pure,hsz,if_neg hb,zeroValue]
  have Uo:Instr.fill (fun i=>some (i*sz,sz)) ((Array.range (n*sz)).map (fun k=>(if n*sz=0 then #[] else z.cells)[k%(if n*sz=0 then #[] else z.cells).size]!)) (parts.toList.map fun x=>(x.1,a.eval x.2))=some ⟨us⟩:=by
   rw [← f1]
  by_cases Qa:n*sz=0
  ·have hn0:n=0:=(Nat.mul_eq_zero.1 Qa).resolve_right (by omega)
   have rU:parts.toList=[]:=List.eq_nil_of_length_eq_zero (by omega)
   simp only [rU,List.map_nil,Instr.fill,Option.some.injEq] at Uo
   have hu0:us=[]:=by
    have:=congrArg Array.size Uo
    simp [Qa] at this
    exact List.eq_nil_of_length_eq_zero this.symm
   subst hu0
   have e0:(Array.range 0).map (fun _=>(default:Value))=⟨[]⟩:=by apply Array.ext';simp
   simp [Qa,rU,Instr.fill,newRow,e0]
  ·simp only [Qa,if_false] at Uo ⊢
   simp [Uo,newRow,hi,hz]
 ·simp only [aO,Un]
  refine ⟨_,rfl, .inr ⟨w.heap.size,0,rfl,kR (f2.mono g1) g4⟩⟩
end Go.Proofs.YtlfjfoknbjcncaaGreat.K
namespace Go.Proofs.YtlfjfoknbjcncaaGreat.K
open Go Go.RowKit
variable {P:Program}
def yj (ty:Option (Bool×Nat)) (l:List PV) (off:Nat):PV×Prop:=
 match ty with
 | some (ag,n)=>(oH ag l off n,off+n≤l.length∧0<n)
 | none=>(.dJ,False)
theorem yK {m:Mem} {ρ:dA} {w:World} {b:Nat} {vs tail:List Value} {tb:TypeId} {fr:Nat×Nat} (hb:w.heap[b]? =some (.cells ⟨vs++tail⟩ tb fr)) {l:List PV} (hl:bC m ρ l vs) (h1:∀ u∈vs,u.oneCell'=true) {t:TypeId} {ag:Bool} {n off:Nat}
  (ht:jU P t=some (ag,n)) (hn:off+n≤l.length) (hp:0<n):∃ u,(loadVar t ⟨b,off,none⟩).run P w= .ok u w∧aO m ρ (oH ag l off n) u:=by
 obtain ⟨e1,e2⟩:=iE ht w
 have hlen:=o9 hl
 cases ag with
 | true=>
  refine ⟨.agg ⟨(vs.drop off).take n⟩,?_,?_⟩
  ·have hc:∀ j v,((vs.drop off).take n)[j]? =some v→w.cell? ((⟨b,off,none⟩:Addr).add j)=some v:=by
    intro j v hj
    rw [jh,iH hb]
    rw [List.getElem?_take] at hj
    split at hj
    ·rw [List.getElem?_drop] at hj
     rw [List.getElem?_append_left (List.getElem?_eq_some_iff.1 hj).1];exact hj
    ·cases hj
   have hk:((vs.drop off).take n).length=n:=by simp;omega
   have:=run_loadCells_list (P:=P) w ⟨b,off,none⟩ _ hc
   rw [hk] at this
   unfold loadVar
   simp [e1,e2,this]
  ·simp only [oH,if_true,aO]
   exact ⟨_,rfl,pX n (wG off hl),fun u hu=>h1 u (List.mem_of_mem_drop (List.mem_of_mem_take hu))⟩
 | false=>
  obtain ⟨v,h3,h4⟩:=yJ hl (i:=off) (by omega)
  refine ⟨v,?_,by simpa [oH] using h4⟩
  have h3':(vs++tail)[off]? =some v:=by rw [List.getElem?_append_left (List.getElem?_eq_some_iff.1 h3).1];exact h3
  unfold loadVar
  simp [e1,iH hb,h3']
theorem NP {o:Oper} {s:St} {t:TypeId} {x:Operand} {ix off:Nat} {l:List PV} (ho:o.op= .load t x) (hp:aH s.S x= .aR ix off) (hH:s.H ix=some (.var l)) (hn:∀ i,s.nx≤i→s.H i=none) (h:(yj (jU P t) l off).2):
  n4 P o s (yj (jU P t) l off).1 s.H s.nx [ix] []:=by
 have hid:ix<s.nx:=by
  rcases Nat.lt_or_ge ix s.nx with h | h
  ·exact h
  ·rw [hn ix h] at hH;cases hH
 refine ⟨Nat.le_refl _,fun _ _ _=>rfl,hn,by simp,by simpa using hid,?_⟩
 intro m ρ a w K Q V _ hx hK
 have h1:=hx x (by simp [ho,Op.operands])
 rw [hp] at h1
 simp only [aO] at h1
 obtain ⟨b,c,hr,ev⟩:=h1
 rcases V.entry ix _ (by simp) hH with ⟨_,hr'⟩ | ⟨b',c',vs,tail,tb,hr',hb,hl,hone,_⟩
 ·rw [hr] at hr';cases hr'
 rw [hr] at hr';cases hr'
 obtain ⟨dst,op',type,pos,after,guard⟩:=o
 simp only at ho
 subst ho
 unfold yj at h hK
 cases ht:jU P t with
 | none=>simp [ht] at h
 | some an=>
  obtain ⟨ag,n⟩:=an
  simp only [ht] at h hK
  obtain ⟨u,hu,iY⟩:=yK (P:=P) hb hl hone ht h.1 h.2
  unfold Oper.wp
  have:(execOp a.eval ⟨dst, .load t x,type,pos,after,guard⟩).run P w= .ok (.value u) w:=by simp [execOp,Instr.loadAt,ev,Instr.sureAddr,hu]
  rw [this,Oper.upon_value]
  exact hK u m ρ w (Ah.same V) iY
theorem LU {o:Oper} {s:St} {t:TypeId} {x y:Operand} {ix off:Nat} {l:List PV} (ho:o.op= .store t x y) (hp:aH s.S x= .aR ix off) (hH:s.H ix=some (.var l)) (hn:∀ i,s.nx≤i→s.H i=none)
  {ag:Bool} {n:Nat} (ht:jU P t=some (ag,n)) (hs:(aH s.S y).ir=true) (hl:(aH s.S y).iF.length=n) (hf:off+n≤l.length):
  n4 P o s .dJ (fun i=>if i=ix then some (.var (m4 l off (aH s.S y).iF)) else s.H i) s.nx [ix] [ix]:=by
 have hid:ix<s.nx:=by
  rcases Nat.lt_or_ge ix s.nx with h | h
  ·exact h
  ·rw [hn ix h] at hH;cases hH
 refine ⟨Nat.le_refl _,fun i hi _=>by simp at hi;simp [hi],fun i hi=>by
  have:i≠ix:=by omega
  simp [this,hn i hi],by simp,by simpa using hid,?_⟩
 intro m ρ a w K Q V _ hx hK
 have h1:=hx x (by simp [ho,Op.operands])
 have h2:=hx y (by simp [ho,Op.operands])
 rw [hp] at h1
 simp only [aO] at h1
 obtain ⟨b,c,hr,ev⟩:=h1
 rcases V.entry ix _ (by simp) hH with ⟨_,hr'⟩ | ⟨b',c',vs,tail,tb,hr',hb,hrl,hone,hno⟩
 ·rw [hr] at hr';cases hr'
 rw [hr] at hr';cases hr'
 obtain ⟨c1,c2⟩:=sY hs h2
 have LM:=o9 c1
 have hvl:=o9 hrl
 rw [Array.length_toList] at LM
 obtain ⟨dst,op',type,pos,after,guard⟩:=o
 simp only at ho
 subst ho
 have hsz:=(iE ht w).2
 have hst:=run_storeCells_at P b off tb (a.eval y).cells.toList 0 ⟨vs++tail⟩ w hb (by simp;omega) c2
 simp only [Nat.add_zero] at hst
 let w':=w.setRow b ((vs++tail).take off++(a.eval y).cells.toList++(vs++tail).drop (off+(a.eval y).cells.toList.length)).toArray
 have hrun:(execOp a.eval ⟨dst, .store t x y,type,pos,after,guard⟩).run P w= .ok .skip w':=by
  have hne:¬ ((a.eval y).cells.size≠n):=by omega
  simp only [execOp,Instr.storeAt,ev,Instr.sureAddr,storeVar,Sem.run_bind,Sem.run_pure,Result.andThen_ok,hsz,if_neg hne,hst]
  rfl
 unfold Oper.wp
 rw [hrun,Oper.upon_skip]
 have xL:∀ k,k≠b→w'.heap[k]? =w.heap[k]? :=fun k hk=>setRow_other w b k _ hk
 have FG:w'.heap[b]? =some (.cells ⟨m4 vs off (a.eval y).cells.toList++tail⟩ tb (0,0)):=by
  have:=setRow_heap w b ⟨vs++tail⟩ ((vs++tail).take off++(a.eval y).cells.toList++(vs++tail).drop (off+(a.eval y).cells.toList.length)).toArray tb (0,0) hb
  have e1:(vs++tail).take off=vs.take off:=List.take_append_of_le_length (by omega)
  have e2:(vs++tail).drop (off+(a.eval y).cells.toList.length)=vs.drop (off+(a.eval y).cells.toList.length)++tail:=List.drop_append_of_le_length (by rw [Array.length_toList];omega)
  simp only [w']
  rw [e1,e2] at this ⊢
  simpa [m4,List.append_assoc] using this
 have hsize:w'.heap.size=w.heap.size:=by simp [w',World.setRow]
 have hmem:gr m w':=V.mem.step fun k ⟨o',v,e⟩=>xL k (fun hk=>by subst hk;rw [hno o'] at e;cases e)
 refine hK undef m ρ w' ⟨⟨Mem.le_refl _,by omega,fun k hk hnb=>xL k (fun e=>hnb (by subst e;exact ⟨ix,c,by simp,by rw [hH];simp,hr⟩)),rfl,rfl,rfl,fun _ _ _ e=> .inl e⟩,dA.le_refl _,fun i=> .inl rfl,⟨hmem,?_,?_⟩,?_⟩ (by simp [aO])
 ·intro i ob hi Cq
  have hi':i=ix:=by simpa using hi.elim id (by omega)
  subst hi'
  simp only [if_true,Option.some.injEq] at Cq
  subst Cq
  refine .inr ⟨b,c,_,tail,tb,hr,FG,Jx off hrl c1,?_,hno⟩
  intro u hu
  unfold m4 at hu
  simp only [List.mem_append] at hu
  rcases hu with hu | hu | hu
  ·exact hone u (List.mem_of_mem_take hu)
  ·exact c2 u hu
  ·exact hone u (List.mem_of_mem_drop hu)
 ·intro i j b1 I5 Xa hi hj _ _ _ _
  have hi':i=ix:=by simpa using hi.elim id (by omega)
  have hj':j=ix:=by simpa using hj.elim id (by omega)
  rw [hi',hj']
 ·rintro k ⟨i,I5,hi,_,gi⟩
  have hi':i=ix:=by simpa using hi.elim id (by omega)
  subst hi'
  exact .inl ⟨i,I5,by simp,by rw [hH];simp,gi⟩
theorem WJ {s:St} {ps:List PV} {m:Mem} {ρ:dA} {w:World} {vs:List Value} (T:Nat→Prop) (V:eu T m ρ w s.H) (hf:∀ i,s.nx≤i→i<s.nx+1→ρ i=none)
  (hv:bC m ρ ps vs) (h1:∀ u∈vs,u.oneCell'=true) (t:TypeId):
  Ah T s.nx (s.nx+1) m ρ w s.H m (fun i=>if i=s.nx then some (w.heap.size,0) else ρ i) (w.alloc (.cells ⟨vs⟩ t)) (fun i=>if i=s.nx then some (.var ps) else s.H i):=by
 have hle:ρ.le (fun i=>if i=s.nx then some (w.heap.size,0) else ρ i):=by
  intro i x e
  have:i≠s.nx:=by intro h;subst h;rw [hf _ (Nat.le_refl _) (by omega)] at e;cases e
  simp [this,e]
 refine ⟨Ext.alloc (Mem.le_refl _) _ (fun _ _ _ e=> .inl e) _,hle,fun i=>?_,⟨V.mem.alloc _,?_,?_⟩,?_⟩
 ·by_cases h:i=s.nx
  ·exact .inr ⟨by omega,by omega⟩
  ·simp [h]
 ·intro i o hi hH
  by_cases h:i=s.nx
  ·subst h
   simp only [if_true,Option.some.injEq] at hH
   subst hH
   exact .inr ⟨w.heap.size,0,vs,[],t,by simp,by rw [List.append_nil];exact heap_alloc_new w _,hv.mono (Mem.le_refl _) hle,h1,uR V.mem⟩
  ·simp only [h,if_false] at hH
   have hE:=V.entry i o (hi.elim id (by omega)) hH
   refine hE.move (Mem.le_refl _) hle (by simp [h]) (fun b c hr=>heap_alloc_old w _ (hE.pU hr)) (fun _ _ _ _ _ e=>e)
 ·intro i j b c c' hi hj Cq zx gi kn
  have old:∀ k,(T k∨(s.nx≤k∧k<s.nx+1))→k≠s.nx→(if k=s.nx then some (HO.var ps) else s.H k)≠none→∀ b c,(if k=s.nx then some (w.heap.size,0) else ρ k)=some (b,c)→T k∧s.H k≠none∧ρ k=some (b,c)∧b<w.heap.size:=by
   intro k hk hne hl b c hr
   simp only [hne,if_false] at hl hr
   have G6:T k:=hk.elim id (by omega)
   refine ⟨G6,hl,hr,?_⟩
   cases e:s.H k with
   | none=>exact absurd e hl
   | some o=>exact (V.entry k o G6 e).pU hr
  by_cases h:i=s.nx<;>by_cases h':j=s.nx
  ·rw [h,h']
  ·subst h
   have:=old j hj h' zx b c' kn
   simp at gi
   omega
  ·subst h'
   have:=old i hi h Cq b c gi
   simp at kn
   omega
  ·have e1:=old i hi h Cq b c gi
   have e2:=old j hj h' zx b c' kn
   exact V.apart i j b c c' e1.1 e2.1 e1.2.1 e2.2.1 e1.2.2.1 e2.2.2.1
 ·rintro b ⟨i,c,hi,hl,hr⟩
  by_cases h:i=s.nx
  ·subst h
   simp at hr
   exact .inr (by omega)
  ·simp only [h,if_false] at hl hr
   exact .inl ⟨i,c,hi.elim id (by omega),hl,hr⟩
theorem FH {s:St} {ps:List PV} (hn:∀ i,s.nx≤i→s.H i=none):(∀ i,i∉([]:List Nat)→i<s.nx→(fun i=>if i=s.nx then some (HO.var ps) else s.H i) i=s.H i)∧∀ i,s.nx+1≤i→(fun i=>if i=s.nx then some (HO.var ps) else s.H i) i=none:=by
 refine ⟨fun i _ hi=>?_,fun i hi=>?_⟩
 ·have:i≠s.nx:=by omega
  simp [this]
 ·have:i≠s.nx:=by omega
  simp [this,hn i (by omega)]
def m7 (P:Program) (t:TypeId):Option (List Value):=((P.info? t).bind (·.zero)).map fun z=>z.cells.toList
theorem LV {o:Oper} {s:St} {t:TypeId} (ho:o.op= .alloc t) (hn:∀ i,s.nx≤i→s.H i=none) {z:List Value} (hz:m7 P t=some z) (h1:z.all Value.oneCell'=true):
  n4 P o s (.aR s.nx 0) (fun i=>if i=s.nx then some (.var (z.map oF)) else s.H i) (s.nx+1) [] []:=by
 obtain ⟨f1,f2⟩:=FH (ps:=z.map oF) hn
 refine ⟨by omega,f1,f2,by simp,by simp,?_⟩
 intro m ρ a w K Q V hf hx hK
 obtain ⟨dst,op',type,pos,after,guard⟩:=o
 simp only at ho
 subst ho
 unfold m7 at hz
 cases hi:P.info? t with
 | none=>simp [hi] at hz
 | some i=>
  cases NQ:i.zero with
  | none=>simp [hi,NQ] at hz
  | some zv=>
   simp only [hi,NQ,Option.bind_some,Option.map_some,Option.some.injEq] at hz
   subst hz
   have hrun:(execOp a.eval ⟨dst, .alloc t,type,pos,after,guard⟩).run P w= .ok (.value (.pointer (some ⟨w.heap.size,0,none⟩))) (w.alloc (.cells zv.cells t)):=by
    simp [execOp,Instr.alloc,zeroValue,typeInfo,hi,NQ,newVar,newRow]
   unfold Oper.wp
   rw [hrun,Oper.upon_value]
   refine hK _ m _ _ (WJ (fun i=>i∈([]:List Nat)) V hf (rI m ρ zv.cells.toList) (fun u hu=>List.all_eq_true.1 h1 u hu) t) ?_
   simp only [aO]
   exact ⟨w.heap.size,0,by simp,rfl⟩
theorem Qb {o:Oper} {s:St} {t:TypeId} {x:Operand} (ho:o.op= .box t x) (hn:∀ i,s.nx≤i→s.H i=none) (hs:(aH s.S x).ir=true):
  n4 P o s (.aR s.nx 0) (fun i=>if i=s.nx then some (.var (aH s.S x).iF) else s.H i) (s.nx+1) [] []:=by
 obtain ⟨f1,f2⟩:=FH (ps:=(aH s.S x).iF) hn
 refine ⟨by omega,f1,f2,by simp,by simp,?_⟩
 intro m ρ a w K Q V hf hx hK
 have h1:=hx x (by simp [ho,Op.operands])
 obtain ⟨c1,c2⟩:=sY hs h1
 obtain ⟨dst,op',type,pos,after,guard⟩:=o
 simp only at ho
 subst ho
 have hrun:(execOp a.eval ⟨dst, .box t x,type,pos,after,guard⟩).run P w= .ok (.value (.pointer (some ⟨w.heap.size,0,none⟩))) (w.alloc (.cells (a.eval x).cells t)):=by
  simp [execOp,Instr.box,newVar,newRow]
 unfold Oper.wp
 rw [hrun,Oper.upon_value]
 refine hK _ m _ _ (WJ (fun i=>i∈([]:List Nat)) V hf c1 c2 t) ?_
 simp only [aO]
 exact ⟨w.heap.size,0,by simp,rfl⟩
theorem NR {m:Mem} {ρ:dA} {l:List PV} {ds:List D} {vs:List Value} (h:PV.dW l=some ds) (hr:bC m ρ l vs):bP m ds vs:=bC.dW l ds vs h hr
theorem LW {o:Oper} {S:Nat→PV} {t:TypeId} {x:Operand} (ho:o.op= .box t x) (hs:(aH S x).ir=true) {ds:List D} (hd:PV.dW (aH S x).iF=some ds):bp P o S (.d (.cF ds)):=by
 intro m ρ a w hm hx
 have h1:=hx x (by simp [ho,Op.operands])
 obtain ⟨c1,c2⟩:=sY hs h1
 obtain ⟨dst,op',type,pos,after,guard⟩:=o
 simp only at ho
 subst ho
 obtain ⟨g1,g2,g3,g4⟩:=G5 hm (a.eval x).cells.toList t c2 (fun _=>False)
 refine ⟨.pointer (some ⟨w.heap.size,0,none⟩),_,_,?_,g2,g3,?_⟩
 ·simp [execOp,Instr.box,newVar,newRow]
 ·simp only [aO,bk]
  exact ⟨w.heap.size,0,rfl,yh ((NR hd c1).mono g1) g4⟩
end Go.Proofs.YtlfjfoknbjcncaaGreat.K
namespace Go.Proofs.YtlfjfoknbjcncaaGreat.K
open Go Go.RowKit
variable {P:Program}
def ni:TypeDesc→Bool
 | .slice _=>true
 | .string=>true
 | _=>false
theorem uF {d:TypeDesc} (h:ni d=true):(∃ e,d= .slice e)∨d= .string:=by
 cases d<;>simp_all [ni]
section
variable (w:World)
theorem pM (t u ty e:TypeId) (d:TypeDesc) (i:TypeInfo) (z:Value) (ht:P.underlying t=some (.slice e)) (hu:P.underlying u=some d) (hd:ni d=true) (hi:P.info? e=some i) (hz:i.zero=some z)
  (base:Option Addr) (sLen sCap n:Nat) (y:Value) (olds news:List Value) (hy:(Builtin.lenOf y).run P w= .ok n w) (ho:(Builtin.firstCells i.size sLen (.slice base sLen sCap)).run P w.drew= .ok olds.toArray w.drew)
  (hn:(Builtin.firstCells i.size n y).run P w.drew= .ok news.toArray w.drew) (hg:sCap<sLen+n) (h63:sLen+n≤9223372036854775807) (hfit:Builtin.nextslicecap (sLen+n) sCap*i.bytes≤281474976710656):
  (Builtin.append_ #[t,u] ty #[.slice base sLen sCap,y]).run P w= .ok (.slice (some ⟨w.heap.size,0,none⟩) (sLen+n) (grownCap w (sLen+n) sCap e))
    (w.drew.alloc (.cells ⟨(olds++news)++(Builtin.zeroCells z.cells (grownCap w (sLen+n) sCap e-(sLen+n))).toList⟩ e)):=by
 have h1:¬ (sLen+n≤sCap):=by omega
 have h2:¬ (9223372036854775807<((sLen:Int)+(n:Int))):=by omega
 have h3:¬ (281474976710656<Builtin.nextslicecap (sLen+n) sCap*i.bytes):=by omega
 rcases uF hd with ⟨e2,rfl⟩ | rfl
 all_goals
  simp [Builtin.append_,run_underlying ht,run_underlying hu,sizeOf,typeInfo,zeroValue,hi,hz,hy,h1,h2,h3,Question.forced,hn,ho,newRow,grownCap]
  congr 2
  apply Array.ext'
  simp
theorem AO (g o:Nat) (t:TypeId) (fr:Nat×Nat):∀ (vs:List Value) (i:Nat) (cur:Array Value) (w:World),w.heap[g]? =some (.cells cur t fr)→(fr=(0,0)∨cur.size≤fr.1)→o+i+vs.length≤cur.size→(∀ v∈vs,v.oneCell'=true)→
  (storeCells ⟨g,o,none⟩ vs i).run P w= .ok () (w.setRow g (cur.toList.take (o+i)++vs++cur.toList.drop (o+i+vs.length)).toArray)
 | [],i,cur,w,hg,_,_,_=>by
  simp only [storeCells,List.append_nil,List.length_nil,Nat.add_zero,List.take_append_drop,Array.toArray_toList]
  rw [setRow_self w g cur t fr hg]
  rfl
 | v::rest,i,cur,w,hg,hfr,hl,h1=>by
  have hi:o+i<cur.size:=by simp at hl;omega
  have hcell:w.cell? ⟨g,o+i,none⟩=some cur[o+i]:=by simp [World.cell?,hg,hi]
  have YD:w.frozen? ⟨g,o+i,none⟩=false:=by
   simp only [World.frozen?,hg]
   rcases hfr with rfl | hfr
   ·simp
   ·have:¬ (fr.1≤o+i):=by omega
    simp [this]
  have hst:(store ((⟨g,o,none⟩:Addr).add i) v).run P w= .ok () (w.setRow g (cur.setIfInBounds (o+i) v)):=by
   rw [jh,run_store P w _ v _ (h1 v (by simp)),hcell]
   simp [YD,setCell_eq_setRow w g (o+i) cur t fr v hg]
  have ih:=AO g o t fr rest (i+1) (cur.setIfInBounds (o+i) v) (w.setRow g (cur.setIfInBounds (o+i) v)) (setRow_heap w g cur _ t _ hg) (by simpa using hfr) (by simp at hl ⊢;omega) (fun x hx=>h1 x (by simp [hx]))
  simp only [storeCells,Sem.run_bind,hst,Result.andThen_ok,ih,setRow_setRow]
  congr 3
  have e:=list_seg_step cur.toList (o+i) v rest (by simp at hl ⊢;omega)
  simpa [Array.toList_setIfInBounds,Nat.add_assoc] using e
theorem run_append_fits (t u ty e:TypeId) (d:TypeDesc) (i:TypeInfo) (ht:P.underlying t=some (.slice e)) (hu:P.underlying u=some d) (hd:ni d=true) (hi:P.info? e=some i)
  (g sLen sCap n:Nat) (y:Value) (cur:Array Value) (tb:TypeId) (fr:Nat×Nat) (hg:w.heap[g]? =some (.cells cur tb fr)) (hfr:fr=(0,0)∨cur.size≤fr.1) (news:List Value) (hy:(Builtin.lenOf y).run P w= .ok n w)
  (hn:(Builtin.firstCells i.size n y).run P w= .ok news.toArray w) (h1:∀ v∈news,v.oneCell'=true) (hroom:sLen+n≤sCap) (hfit:sLen*i.size+news.length≤cur.size):
  (Builtin.append_ #[t,u] ty #[.slice (some ⟨g,0,none⟩) sLen sCap,y]).run P w=
   .ok (.slice (some ⟨g,0,none⟩) (sLen+n) sCap) (w.setRow g (cur.toList.take (sLen*i.size)++news++cur.toList.drop (sLen*i.size+news.length)).toArray):=by
 have hst:=AO (P:=P) g (sLen*i.size) tb fr news 0 cur w hg hfr (by simpa using hfit) h1
 simp only [Nat.add_zero] at hst
 rcases uF hd with ⟨e2,rfl⟩ | rfl
 all_goals simp [Builtin.append_,run_underlying ht,run_underlying hu,sizeOf,typeInfo,hi,hy,hroom,hn,jh,hst]
theorem uh (t u ty e:TypeId) (d:TypeDesc) (i:TypeInfo) (ht:P.underlying t=some (.slice e)) (hu:P.underlying u=some d) (hd:ni d=true) (hi:P.info? e=some i)
  (base:Option Addr) (y:Value) (hy:(Builtin.lenOf y).run P w= .ok 0 w) (hn:(Builtin.firstCells i.size 0 y).run P w= .ok #[] w):
  (Builtin.append_ #[t,u] ty #[.slice base 0 0,y]).run P w= .ok (.slice base 0 0) w:=by
 rcases uF hd with ⟨e2,rfl⟩ | rfl
 all_goals cases base<;>simp [Builtin.append_,run_underlying ht,run_underlying hu,sizeOf,typeInfo,hi,hy,hn,storeCells]
end
theorem Da {s:St} {m:Mem} {ρ:dA} {w:World} (T:List Nat) (V:eu (· ∈T) m ρ w s.H) (hf:∀ i,s.nx≤i→i<s.nx+1→ρ i=none) {vals rest:List Value} {sz n cap:Nat} (h1:∀ v∈vals,v.oneCell'=true) (hv:vals.length=n*sz)
  (hr:vals.length+rest.length=cap*sz) (hc:n≤cap) (hm:cap≤maxLen) (e:TypeId) (Hd:HM) (hd:∀ i,Hd i=none∨Hd i=s.H i):
  Ah (· ∈T) s.nx (s.nx+1) m ρ w s.H (m.with w.heap.size vals) (fun i=>if i=s.nx then some (w.heap.size,cap) else ρ i) (w.drew.alloc (.cells ⟨vals++rest⟩ e)) (fun i=>if i=s.nx then some (.spare sz n) else Hd i):=by
 have hle:ρ.le (fun i=>if i=s.nx then some (w.heap.size,cap) else ρ i):=by
  intro i x e
  have:i≠s.nx:=by intro h;subst h;rw [hf _ (Nat.le_refl _) (by omega)] at e;cases e
  simp [this,e]
 have hml:=Mem.uQ (vs:=vals) (uR V.mem)
 have hold:∀ k,k<w.heap.size→(w.drew.alloc (.cells ⟨vals++rest⟩ e)).heap[k]? =w.heap[k]? :=fun k hk=>heap_alloc_old w.drew _ hk
 have hnew:(w.drew.alloc (.cells ⟨vals++rest⟩ e)).heap[w.heap.size]? =some (.cells ⟨vals++rest⟩ e (0,0)):=heap_alloc_new w.drew _
 have hnm:∀ b o v,(m.with w.heap.size vals) b o=some v→m b o=some v∨w.heap.size≤b:=by
  intro b o v h
  unfold Mem.with at h
  split at h
  ·exact .inr (by omega)
  ·exact .inl h
 have hmem:gr (m.with w.heap.size vals) (w.drew.alloc (.cells ⟨vals++rest⟩ e)):=by
  refine V.mem.with (fun b ⟨_,_,h⟩=>hold b (V.mem.lt h)) (fun o v h=>?_) h1
  rw [iH hnew,List.getElem?_append_left (List.getElem?_eq_some_iff.1 h).1]
  exact h
 refine ⟨⟨hml,by simp,fun b hb _=>hold b hb,rfl,rfl,rfl,fun b o v h=>(hnm b o v h).imp id .inr⟩,hle,fun i=>?_,⟨hmem,?_,?_⟩,?_⟩
 ·by_cases h:i=s.nx
  ·exact .inr ⟨by omega,by omega⟩
  ·simp [h]
 ·intro i o hi hH
  by_cases h:i=s.nx
  ·subst h
   simp only [if_true,Option.some.injEq] at hH
   subst hH
   refine .inr ⟨w.heap.size,cap,_,e,(0,0),by simp,hnew,by simp;omega,hc,hm,by simp,fun o ho=>?_⟩
   simp only [Mem.with,if_true]
   exact List.getElem?_eq_none (by omega)
  ·simp only [h,if_false] at hH
   have vo:s.H i=some o:=by
    rcases hd i with h' | h'
    ·rw [h'] at hH;cases hH
    ·rw [← h'];exact hH
   have hE:=V.entry i o (hi.elim id (by omega)) vo
   refine hE.move hml hle (by simp [h]) (fun b c hr=>hold b (hE.pU hr)) (fun b c hr o' v h'=>?_)
   rcases hnm b o' v h' with h'' | h''
   ·exact h''
   ·have:=hE.pU hr;omega
 ·intro i j b c c' hi hj Cq zx gi kn
  have old:∀ k,(k∈T∨(s.nx≤k∧k<s.nx+1))→k≠s.nx→(if k=s.nx then some (HO.spare sz n) else Hd k)≠none→∀ b c,(if k=s.nx then some (w.heap.size,cap) else ρ k)=some (b,c)→k∈T∧s.H k≠none∧ρ k=some (b,c)∧b<w.heap.size:=by
   intro k hk hne hl b c hr
   simp only [hne,if_false] at hl hr
   have G6:k∈T:=hk.elim id (by omega)
   have hl':s.H k≠none:=by
    rcases hd k with h' | h'
    ·exact absurd h' hl
    ·rw [← h'];exact hl
   refine ⟨G6,hl',hr,?_⟩
   cases e:s.H k with
   | none=>exact absurd e hl'
   | some o=>exact (V.entry k o G6 e).pU hr
  by_cases h:i=s.nx<;>by_cases h':j=s.nx
  ·rw [h,h']
  ·subst h
   have:=old j hj h' zx b c' kn
   simp at gi
   omega
  ·subst h'
   have:=old i hi h Cq b c gi
   simp at kn
   omega
  ·have e1:=old i hi h Cq b c gi
   have e2:=old j hj h' zx b c' kn
   exact V.apart i j b c c' e1.1 e2.1 e1.2.1 e2.2.1 e1.2.2.1 e2.2.2.1
 ·rintro b ⟨i,c,hi,hl,hr⟩
  by_cases h:i=s.nx
  ·subst h
   simp at hr
   exact .inr (by omega)
  ·simp only [h,if_false] at hl hr
   have hl':s.H i≠none:=by
    rcases hd i with h' | h'
    ·exact absurd h' hl
    ·rw [← h'];exact hl
   exact .inl ⟨i,c,hi.elim id (by omega),hl',hr⟩
def PV.more:PV→Option (List D)
 | .d (.val (.string s))=>some (s.data.toList.map aa)
 | p=>p.elems
theorem yL {m:Mem} {ρ:dA} {w:World} (hm:gr m w) {p:PV} {v:Value} {l:List D} (hp:p.more=some l) (h:aO m ρ p v) {sz:Nat} (hs:∀ x∈l,x.cells.length=sz):
  (Builtin.lenOf v).run P w= .ok l.length w∧∃ news:List Value,news.length=l.length*sz∧bP m (l.flatMap D.cells) news∧(∀ u∈news,u.oneCell'=true)∧
   ∀ w':World,w'.heap=w.heap→(Builtin.firstCells sz l.length v).run P w'= .ok news.toArray w':=by
 have row:p.elems=some l→(Builtin.lenOf v).run P w= .ok l.length w∧∃ news:List Value,news.length=l.length*sz∧bP m (l.flatMap D.cells) news∧(∀ u∈news,u.oneCell'=true)∧
   ∀ w':World,w'.heap=w.heap→(Builtin.firstCells sz l.length v).run P w'= .ok news.toArray w':=by
  intro hp
  obtain ⟨ad,c,rfl,_,iY⟩:=rQ hp h
  refine ⟨by simp [Builtin.lenOf],?_⟩
  rcases iY with rfl | ⟨b,o,rfl,hE⟩
  ·refine ⟨[],by simp,by simp [bP],by simp,fun w' _=>?_⟩
   cases ad with
   | none=>simp [Builtin.firstCells]
   | some ad=>simp [Builtin.firstCells,loadCells,loadCellsFrom]
  ·obtain ⟨vs,e1,e2,e3⟩:=C4 hE
   rw [zq hs] at e1
   obtain ⟨f1,f2⟩:=vY hm e3
   refine ⟨vs,e1,e2,f2,fun w' hw=>?_⟩
   refine run_firstCells_some (P:=P) w' sz l.length ⟨b,o,none⟩ _ _ vs e1 (fun j u hj=>?_)
   have:=f1 j u hj
   unfold World.cell? at this ⊢
   rw [hw];exact this
 unfold PV.more at hp
 split at hp
 ·rename_i s
  simp only [Option.some.injEq] at hp
  subst hp
  simp only [aO,bk] at h
  subst h
  refine ⟨by simp [Builtin.lenOf],s.data.toList.map (fun b=> .int .u8 b.toNat),?_,?_,?_,?_⟩
  ·have hlen:(s.data.toList.map aa).length*sz=(s.data.toList.map aa).length:=by
    cases hL:s.data.toList with
    | nil=>simp
    | cons b r=>
     have:=hs (aa b) (by rw [hL];simp)
     simp only [aa,D.cells,List.length_singleton] at this
     rw [← this,Nat.mul_one]
   rw [hlen]
   simp
  ·rw [wI]
   have:∀ bs:List UInt8,bP m (bs.map aa) (bs.map fun b=> .int .u8 b.toNat):=by
    intro bs
    induction bs with
    | nil=>simp [bP]
    | cons b r ih=>simp only [List.map_cons,bP,aa,bk];exact ⟨_,_,rfl,rfl,ih⟩
   exact this _
  ·intro u hu
   obtain ⟨b,_,rfl⟩:=List.mem_map.1 hu
   rfl
  ·intro w' _
   simp only [Builtin.firstCells,Sem.run_pure,List.length_map]
   congr 1
   apply Array.ext'
   have:s.extract 0 s.data.toList.length=s:=by
    have:s.data.toList.length=s.size:=by rw [Array.length_toList];rfl
    rw [this]
    exact ByteArray.extract_zero_size
   rw [this]
   simp
 ·exact row hp
theorem iQ {o:Oper} {a:Act} {w w':World} {x y:Operand} {t u:TypeId} {v:Value} (ho:o.op= .call {callee:= .builtin .append,args:= #[x,y],argTypes:= #[t,u]}) (h:(Builtin.append_ #[t,u] o.type #[a.eval x,a.eval y]).run P w= .ok v w'):
  (execOp a.eval o).run P w= .ok (.value v) w':=by
 obtain ⟨dst,op',type,pos,after,guard⟩:=o
 simp only at ho h
 subst ho
 simp [execOp,resolve,invoke,builtin,h]
theorem zy {l l':List D} {m:Mem} {us vs:List Value} (h:bP m (l.flatMap D.cells) us) (h':bP m (l'.flatMap D.cells) vs):bP m ((l++l').flatMap D.cells) (us++vs):=by
 rw [List.flatMap_append];exact qp h h'
theorem EV {o:Oper} {s:St} {t u:TypeId} {x y:Operand} {l l2:List D} (ho:o.op= .call {callee:= .builtin .append,args:= #[x,y],argTypes:= #[t,u]}) {sz jq:Nat} (hrow:qH P t=some (sz,jq)) {d:TypeDesc} (hu:P.underlying u=some d) (hd:ni d=true)
  (hx:aH s.S x= .full l) (hy:(aH s.S y).more=some l2) (hn:∀ i,s.nx≤i→s.H i=none) (c1:∀ z∈l,z.cells.length=sz) (c2:∀ z∈l2,z.cells.length=sz) (hb:(l.length+l2.length)*jq≤140737488355328) (hm:l.length+l2.length≤maxLen) (hne:l2=[]→l=[]):
  n4 P o s (.own s.nx (l++l2)) (fun i=>if i=s.nx then some (.spare sz (l.length+l2.length)) else s.H i) (s.nx+1) [] []:=by
 refine ⟨by omega,fun i _ hi=>?_,fun i hi=>?_,by simp,by simp,?_⟩
 ·have:i≠s.nx:=by omega
  simp [this]
 ·have:i≠s.nx:=by omega
  simp [this,hn i (by omega)]
 intro m ρ a w K Q V hf hxs hK
 have h1:=hxs x (by simp [ho,Op.operands,Call.operands])
 have h2:=hxs y (by simp [ho,Op.operands,Call.operands])
 rw [hx] at h1
 obtain ⟨e,i,z,AP,hi,hz,hzs,h0,hsz,hby⟩:=ug hrow
 obtain ⟨g1,news,g2,g3,g4,g5⟩:=yL (P:=P) V.mem hy h2 c2
 obtain ⟨q1,olds,q2,q3,q4,q5⟩:=yL (P:=P) V.mem (p:= .full l) rfl h1 c1
 simp only [aO] at h1
 obtain ⟨ad,ev,iY⟩:=h1
 subst hsz
 subst hby
 unfold Oper.wp
 by_cases hk:l2=[]
 ·have hl:=hne hk
  subst hk;subst hl
  have hrun:=uh (P:=P) w t u o.type e d i AP hu hd hi ad (a.eval y) (by simpa using g1) (by
   have:=g5 w rfl
   have KY:news=[]:=List.eq_nil_of_length_eq_zero (by simpa using g2)
   subst KY
   simpa using this)
  rw [iQ ho (by rw [ev];exact hrun),Oper.upon_value]
  have hle:ρ.le ρ:=dA.le_refl _
  refine hK _ m ρ w ⟨Ext.refl _ _ _,hle,fun i=> .inl rfl,⟨V.mem,?_,?_⟩,?_⟩ ?_
  ·intro k ob hk' hH
   have uS:k=s.nx:=by have:=hk'.elim (fun h=>by cases h) id;omega
   subst uS
   simp only [if_true,Option.some.injEq] at hH
   subst hH
   exact .inl ⟨rfl,hf _ (Nat.le_refl _) (by omega)⟩
  ·intro k j b c c' hk' _ _ _ hr _
   have uS:k=s.nx:=by have:=hk'.elim (fun h=>by cases h) id;omega
   subst uS
   rw [hf _ (Nat.le_refl _) (by omega)] at hr;cases hr
  ·rintro b ⟨k,c,hk',_,hr⟩
   have uS:k=s.nx:=by have:=hk'.elim (fun h=>by cases h) id;omega
   subst uS
   rw [hf _ (Nat.le_refl _) (by omega)] at hr;cases hr
  ·simp only [aO]
   exact .inr ⟨rfl,ad,rfl⟩
 ·have hpos:0<l2.length:=List.length_pos_iff.2 hk
  have hgrow:l.length<l.length+l2.length:=by omega
  have hrun:=pM (P:=P) w t u o.type e d i z AP hu hd hi hz ad l.length l.length l2.length (a.eval y) olds news g1 (by
   have:=q5 w.drew rfl
   rw [ev] at this
   exact this) (g5 w.drew rfl) hgrow (by simp only [maxLen] at hm;omega) (growslice_fits hgrow hb)
  rw [iQ ho (by rw [ev];exact hrun),Oper.upon_value]
  have hge:=grownCap_ge w (l.length+l2.length) l.length e
  have I6:=grownCap_le_maxLen w (l.length+l2.length) l.length e hm
  have hlen:(olds++news).length=(l.length+l2.length)*i.size:=by rw [List.length_append,q2,g2,Nat.add_mul]
  have hD:=Da (s:=s) (w:=w) [] V hf (vals:=olds++news) (rest:=(Builtin.zeroCells z.cells (grownCap w (l.length+l2.length) l.length e-(l.length+l2.length))).toList) (sz:=i.size) (n:=l.length+l2.length) (cap:=grownCap w (l.length+l2.length) l.length e)
   (fun v hv=>(List.mem_append.1 hv).elim (q4 v) (g4 v)) hlen (by
    have RO:(Builtin.zeroCells z.cells (grownCap w (l.length+l2.length) l.length e-(l.length+l2.length))).toList.length=(grownCap w (l.length+l2.length) l.length e-(l.length+l2.length))*i.size:=by
     rw [Array.length_toList,size_zeroCells,hzs]
    rw [hlen,RO, ← Nat.add_mul]
    congr 1
    omega) hge I6 e s.H (fun i=> .inr rfl)
  refine hK _ _ _ _ hD ?_
  simp only [aO]
  refine .inl ⟨w.heap.size,grownCap w (l.length+l2.length) l.length e,by simp,by simp,by simpa using hge,?_⟩
  exact kR ((zy q3 g3).mono (Mem.uQ (uR V.mem))) (fun j v hj=>by simp [Mem.with,hj])
end Go.Proofs.YtlfjfoknbjcncaaGreat.K
namespace Go.Proofs.YtlfjfoknbjcncaaGreat.K
open Go Go.RowKit
variable {P:Program}
def Mem.more (m:Mem) (b lo:Nat) (vs:List Value):Mem:=fun b' o=>if b'=b∧lo≤o∧o<lo+vs.length then vs[o-lo]? else m b' o
theorem Gg {o:Oper} {s:St} {t u:TypeId} {x y:Operand} {ix:Nat} {l l2:List D} (ho:o.op= .call {callee:= .builtin .append,args:= #[x,y],argTypes:= #[t,u]}) {sz jq:Nat} (hrow:qH P t=some (sz,jq)) {d:TypeDesc} (hu:P.underlying u=some d) (hd:ni d=true)
  (hx:aH s.S x= .own ix l) (hH:s.H ix=some (.spare sz l.length)) (hy:(aH s.S y).more=some l2) (hn:∀ i,s.nx≤i→s.H i=none) (c1:∀ z∈l,z.cells.length=sz) (c2:∀ z∈l2,z.cells.length=sz)
  (hb:(l.length+l2.length)*jq≤140737488355328) (hm:l.length+l2.length≤maxLen):
  n4 P o s (.own s.nx (l++l2)) (fun i=>if i=s.nx then some (.spare sz (l.length+l2.length)) else if i=ix then none else s.H i) (s.nx+1) [ix] [ix]:=by
 have hid:ix<s.nx:=by
  rcases Nat.lt_or_ge ix s.nx with h | h
  ·exact h
  ·rw [hn ix h] at hH;cases hH
 refine ⟨by omega,fun i hi hlt=>?_,fun i hi=>?_,by simp,by simpa using hid,?_⟩
 ·have h1:i≠s.nx:=by omega
  have h2:i≠ix:=by simpa using hi
  simp [h1,h2]
 ·have h1:i≠s.nx:=by omega
  have h2:i≠ix:=by omega
  simp [h1,h2,hn i (by omega)]
 intro m ρ a w K Q V hf hxs hK
 have h1:=hxs x (by simp [ho,Op.operands,Call.operands])
 have h2:=hxs y (by simp [ho,Op.operands,Call.operands])
 rw [hx] at h1
 obtain ⟨e,i,z,AP,hi,hz,hzs,h0,hsz,hby⟩:=ug hrow
 obtain ⟨g1,news,g2,g3,g4,g5⟩:=yL (P:=P) V.mem hy h2 c2
 subst hsz
 subst hby
 have hE0:=V.entry ix _ (by simp) hH
 unfold Oper.wp
 have RP:∀ (base:Option Addr) (n0 Aj:Nat) (olds:List Value),a.eval x= .slice base n0 Aj→n0=l.length→olds.length=l.length*i.size→bP m (l.flatMap D.cells) olds→(∀ u∈olds,u.oneCell'=true)→
   (∀ w':World,w'.heap=w.heap→(Builtin.firstCells i.size l.length (.slice base l.length Aj)).run P w'= .ok olds.toArray w')→Aj<l.length+l2.length→
   Oper.upon P o a K Q ((execOp a.eval o).run P w):=by
  intro base n0 Aj olds ev hn0 q2 q3 q4 q5 hgrow
  subst hn0
  have hrun:=pM (P:=P) w t u o.type e d i z AP hu hd hi hz base l.length Aj l2.length (a.eval y) olds news g1 (q5 w.drew rfl) (g5 w.drew rfl) hgrow (by simp only [maxLen] at hm;omega) (growslice_fits hgrow hb)
  rw [iQ ho (by rw [ev];exact hrun),Oper.upon_value]
  have hge:=grownCap_ge w (l.length+l2.length) Aj e
  have I6:=grownCap_le_maxLen w (l.length+l2.length) Aj e hm
  have hlen:(olds++news).length=(l.length+l2.length)*i.size:=by rw [List.length_append,q2,g2,Nat.add_mul]
  have RO:(Builtin.zeroCells z.cells (grownCap w (l.length+l2.length) Aj e-(l.length+l2.length))).toList.length=(grownCap w (l.length+l2.length) Aj e-(l.length+l2.length))*i.size:=by
   rw [Array.length_toList,size_zeroCells,hzs]
  have hD:=Da (s:=s) (w:=w) [ix] V hf (vals:=olds++news) (rest:=(Builtin.zeroCells z.cells (grownCap w (l.length+l2.length) Aj e-(l.length+l2.length))).toList) (sz:=i.size) (n:=l.length+l2.length) (cap:=grownCap w (l.length+l2.length) Aj e)
   (fun v hv=>(List.mem_append.1 hv).elim (q4 v) (g4 v)) hlen (by
    rw [hlen,RO, ← Nat.add_mul]
    congr 1
    omega) hge I6 e (fun k=>if k=ix then none else s.H k) (fun k=>by by_cases h:k=ix<;>simp [h])
  refine hK _ _ _ _ hD ?_
  simp only [aO]
  refine .inl ⟨w.heap.size,grownCap w (l.length+l2.length) Aj e,by simp,by simp,by simpa using hge,?_⟩
  exact kR ((zy q3 g3).mono (Mem.uQ (uR V.mem))) (fun j v hj=>by simp [Mem.with,hj])
 simp only [aO] at h1
 rcases h1 with ⟨b,c,hr,ev,hlc,hE⟩ | ⟨rfl,base,ev⟩
 ·obtain ⟨Xb,f1,f2,f3⟩:=C4 hE
  rw [zq c1] at f1
  obtain ⟨f4,f5⟩:=vY V.mem f3
  by_cases hfit:l.length+l2.length≤c
  ·
   rcases hE0 with ⟨_,e0⟩ | ⟨b',c',vs,tb,fr,hr',FG,hvs,hnc,I6,hfr,hno⟩
   ·rw [hr] at e0;cases e0
   rw [hr] at hr';cases hr'
   have YH:fr=(0,0)∨vs.size≤fr.1:=by
    by_cases h:fr=(0,0)
    ·exact .inl h
    ·rw [if_neg h] at hfr;exact .inr (by omega)
   have YI:(l.length+l2.length)*i.size≤vs.size:=by rw [hvs];exact Nat.mul_le_mul_right _ hfit
   have YJ:l.length*i.size+news.length≤vs.size:=by rw [g2, ← Nat.add_mul];exact YI
   have hrun:=run_append_fits (P:=P) w t u o.type e d i AP hu hd hi b l.length c l2.length (a.eval y) vs tb fr FG YH news g1 (g5 w rfl) g4 hfit YJ
   rw [iQ ho (by rw [ev];exact hrun),Oper.upon_value]
   generalize I1:w.setRow b (vs.toList.take (l.length*i.size)++news++vs.toList.drop (l.length*i.size+news.length)).toArray=w'
   have xL:∀ k,k≠b→w'.heap[k]? =w.heap[k]? :=fun k hk=>by rw [← I1];exact setRow_other w b k _ hk
   have hnew:w'.heap[b]? =some (.cells (vs.toList.take (l.length*i.size)++news++vs.toList.drop (l.length*i.size+news.length)).toArray tb fr):=by rw [← I1];exact setRow_heap w b vs _ tb fr FG
   have hsize:w'.heap.size=w.heap.size:=by rw [← I1];simp [World.setRow]
   have hbs:b<w.heap.size:=(Array.getElem?_eq_some_iff.1 FG).1
   have LX:∀ k,w'.cell? ⟨b,k,none⟩=(vs.toList.take (l.length*i.size)++news++vs.toList.drop (l.length*i.size+news.length))[k]? :=fun k=>iH (vs:=vs.toList.take (l.length*i.size)++news++vs.toList.drop (l.length*i.size+news.length)) hnew k
   have RR:(vs.toList.take (l.length*i.size)).length=l.length*i.size:=by simp;omega
   have hml:m.le (m.more b (l.length*i.size) news):=by
    intro b2 o2 v2 h
    unfold Mem.more
    split
    ·rename_i hc
     obtain ⟨rfl,hlo,_⟩:=hc
     rw [hno o2 hlo] at h;cases h
    ·exact h
   have hmem:gr (m.more b (l.length*i.size) news) w':=by
    intro b2 o2 v2 h
    unfold Mem.more at h
    split at h
    ·rename_i hc
     obtain ⟨rfl,hlo,hhi⟩:=hc
     refine ⟨?_,g4 v2 (List.mem_of_getElem? h)⟩
     rw [LX,List.append_assoc,List.getElem?_append_right (by omega),List.getElem?_append_left (by omega),RR]
     exact h
    ·obtain ⟨p1,p2⟩:=V.mem b2 o2 v2 h
     refine ⟨?_,p2⟩
     by_cases NS:b2=b
     ·subst NS
      have hlt:o2<l.length*i.size:=by
       rcases Nat.lt_or_ge o2 (l.length*i.size) with h' | h'
       ·exact h'
       ·rw [hno o2 h'] at h;cases h
      rw [LX,List.append_assoc,List.getElem?_append_left (by omega),List.getElem?_take,if_pos hlt]
      rw [iH (vs:=vs.toList) (by simpa using FG)] at p1
      exact p1
     ·rw [G4 (xL b2 NS)];exact p1
   have hle:ρ.le (fun k=>if k=s.nx then some (b,c) else ρ k):=by
    intro k x' e'
    have:k≠s.nx:=by intro h;subst h;rw [hf _ (Nat.le_refl _) (by omega)] at e';cases e'
    simp [this,e']
   have hnm:∀ b2 o2 v2,(m.more b (l.length*i.size) news) b2 o2=some v2→m b2 o2=some v2∨b2=b:=by
    intro b2 o2 v2 h
    unfold Mem.more at h
    split at h
    ·rename_i hc;exact .inr hc.1
    ·exact .inl h
   have NT:yg ρ s.H (fun k=>k∈[ix]) b:=⟨ix,c,by simp,by rw [hH];simp,hr⟩
   refine hK _ (m.more b (l.length*i.size) news) (fun k=>if k=s.nx then some (b,c) else ρ k) w' ⟨⟨hml,by omega,fun k hk hnb=>xL k (fun e'=>hnb (by rw [e'];exact NT)),?_,?_,?_,fun b2 o2 v2 h=>(hnm b2 o2 v2 h).imp id (fun h'=> .inl (by rw [h'];exact NT))⟩,hle,fun k=>?_,⟨hmem,?_,?_⟩,?_⟩ ?_
   ·rw [← I1];rfl
   ·rw [← I1];rfl
   ·rw [← I1];rfl
   ·by_cases h:k=s.nx
    ·exact .inr ⟨by omega,by omega⟩
    ·simp [h]
   ·intro k ob hk KZ
    have hk':k=s.nx:=by
     rcases hk with h | h
     ·have G7:k=ix:=by simpa using h
      have:k≠s.nx:=by omega
      simp [G7] at KZ
      omega
     ·omega
    subst hk'
    simp only [if_true,Option.some.injEq] at KZ
    subst KZ
    refine .inr ⟨b,c,_,tb,fr,by simp,hnew,?_,hfit,I6,?_,fun o2 ho2=>?_⟩
    ·simp only [List.size_toArray,List.length_append,List.length_take,List.length_drop,Array.length_toList]
     omega
    ·have:(vs.toList.take (l.length*i.size)++news++vs.toList.drop (l.length*i.size+news.length)).toArray.size=vs.size:=by
      simp only [List.size_toArray,List.length_append,List.length_take,List.length_drop,Array.length_toList]
      omega
     rw [this];exact hfr
    ·have hlo:l.length*i.size≤o2:=by have:=ho2;rw [Nat.add_mul] at this;omega
     have hhi:¬ (o2<l.length*i.size+news.length):=by rw [g2, ← Nat.add_mul];omega
     simp only [Mem.more]
     rw [if_neg (fun h=>hhi h.2.2)]
     exact hno o2 hlo
   ·intro k j b1 I5 Xa hk hj KZ zx _ _
    have key:∀ k,(k∈[ix]∨(s.nx≤k∧k<s.nx+1))→(if k=s.nx then some (HO.spare i.size (l.length+l2.length)) else if k=ix then none else s.H k)≠none→k=s.nx:=by
     intro k hk hl
     rcases hk with h | h
     ·have G7:k=ix:=by simpa using h
      have:k≠s.nx:=by omega
      simp [G7] at hl
      omega
     ·omega
    rw [key k hk KZ,key j hj zx]
   ·rintro b1 ⟨k,I5,hk,hl,Ul⟩
    have hk':k=s.nx:=by
     rcases hk with h | h
     ·have G7:k=ix:=by simpa using h
      have:k≠s.nx:=by omega
      simp [G7] at hl
      omega
     ·omega
    subst hk'
    simp at Ul
    left
    rw [← Ul.1];exact NT
   ·simp only [aO]
    refine .inl ⟨b,c,by simp,by simp,by simpa using hfit,?_⟩
    refine DQ (n:=l.length*i.size) (hE.mono hml) ?_ (zq c1)
    refine kR (g3.mono hml) (fun j v hj=>?_)
    have hjl:j<news.length:=(List.getElem?_eq_some_iff.1 hj).1
    simp only [Mem.more]
    rw [if_pos ⟨trivial,by omega,by omega⟩]
    rwa [show 0+l.length*i.size+j-l.length*i.size=j from by omega]
  ·exact RP (some ⟨b,0,none⟩) l.length c Xb ev rfl f1 f2 f5 (fun w' hw=>by
    refine run_firstCells_some (P:=P) w' i.size l.length ⟨b,0,none⟩ _ _ Xb f1 (fun j u hj=>?_)
    have:=f4 j u hj
    unfold World.cell? at this ⊢
    rw [hw];exact this) (by omega)
 ·by_cases hk:l2=[]
  ·subst hk
   have KY:news=[]:=List.eq_nil_of_length_eq_zero (by simpa using g2)
   subst KY
   have hrun:=uh (P:=P) w t u o.type e d i AP hu hd hi base (a.eval y) (by simpa using g1) (by simpa using g5 w rfl)
   rw [iQ ho (by rw [ev];exact hrun),Oper.upon_value]
   have key:∀ k,(k∈[ix]∨(s.nx≤k∧k<s.nx+1))→(if k=s.nx then some (HO.spare i.size (([]:List D).length+([]:List D).length)) else if k=ix then none else s.H k)≠none→k=s.nx:=by
    intro k hk hl
    rcases hk with h | h
    ·have G7:k=ix:=by simpa using h
     have:k≠s.nx:=by omega
     simp [G7] at hl
     omega
    ·omega
   refine hK _ m ρ w ⟨Ext.refl _ _ _,dA.le_refl _,fun i=> .inl rfl,⟨V.mem,?_,?_⟩,?_⟩ ?_
   ·intro k ob hk' KZ
    have uS:=key k hk' (by rw [KZ];simp)
    subst uS
    simp only [if_true,Option.some.injEq] at KZ
    subst KZ
    exact .inl ⟨rfl,hf _ (Nat.le_refl _) (by omega)⟩
   ·intro k j b c c' hk' _ hl _ hr _
    have uS:=key k hk' hl
    subst uS
    rw [hf _ (Nat.le_refl _) (by omega)] at hr;cases hr
   ·rintro b ⟨k,c,hk',hl,hr⟩
    have uS:=key k hk' hl
    subst uS
    rw [hf _ (Nat.le_refl _) (by omega)] at hr;cases hr
   ·simp only [aO]
    exact .inr ⟨rfl,base,rfl⟩
  ·have hpos:0<l2.length:=List.length_pos_iff.2 hk
   exact RP base 0 0 [] ev rfl (by simp) (by simp [bP]) (by simp) (fun w' _=>by
    cases base with
    | none=>simp [Builtin.firstCells]
    | some ad=>simp [Builtin.firstCells,loadCells,loadCellsFrom]) (by simpa using hpos)
end Go.Proofs.YtlfjfoknbjcncaaGreat.K
namespace Go.Proofs.YtlfjfoknbjcncaaGreat.K
open Go Go.RowKit
variable {P:Program}
def cD (P:Program) (f:Nat) (args:List D) (res:D):Prop:=
 ∀ m w vs,gr m w→bP m args vs→Calls P f ⟨vs⟩ w fun e w'=>∃ v m',e= .returned v∧bk m' res v∧gr m' w'∧Ext (fun _=>False) m w m' w'
def e8 (P:Program) (f:Nat):Bool:=
 match P.funcs[f]? with
 | some fn=>fn.body.isSome&& !(fn.name=="runtime.NumGoroutine")
 | none=>false
theorem yl {f:Nat} (h:e8 P f=true) (args:Array Value) (w:World):(callFunc f args).run P w= .ok (.enter f args) w:=by
 unfold e8 at h
 cases hf:P.funcs[f]? with
 | none=>simp [hf] at h
 | some fn=>
  simp only [hf,Bool.and_eq_true,Bool.not_eq_true'] at h
  obtain ⟨h1,h2⟩:=h
  have RS:¬ (fn.name="runtime.NumGoroutine"):=by simpa using h2
  have h3:fn.body≠none:=by intro hb;simp [hb] at h1
  simp [callFunc,hf,RS,h3]
theorem sZ {o:Oper} {a:Act} {w:World} {c:Call} {f:Nat} (ho:o.op= .call c) (hc:c.callee= .value (.func f)) (h:e8 P f=true):(execOp a.eval o).run P w= .ok (.enter f (c.args.map a.eval)) w:=by
 obtain ⟨dst,op',type,pos,after,guard⟩:=o
 simp only at ho
 subst ho
 obtain ⟨callee,args,argTypes⟩:=c
 simp only at hc
 subst hc
 simp [execOp,resolve,Deferred.ofValue,Act.eval,invoke,yl h]
theorem CC {o:Oper} {a:Act} {w:World} {c:Call} {t:Operand} {f:Nat} {caps:Array Value} (ho:o.op= .call c) (hc:c.callee= .value t) (ht:a.eval t= .func (.func f) #[] caps) (h:e8 P f=true):
  (execOp a.eval o).run P w= .ok (.enter f (c.args.map a.eval++caps)) w:=by
 obtain ⟨dst,op',type,pos,after,guard⟩:=o
 simp only at ho
 subst ho
 obtain ⟨callee,args,argTypes⟩:=c
 simp only at hc
 subst hc
 simp [execOp,resolve,ht,Deferred.ofValue,invoke,yl h]
theorem xM {S:Nat→PV} {m:Mem} {ρ:dA} {a:Act} {l:List Operand} {ds:List D} (hx:∀ x∈l,aO m ρ (aH S x) (a.eval x)) (hd:PV.dW (l.map (aH S))=some ds):bP m ds (l.map a.eval):=by
 refine bC.dW (ρ:=ρ) _ _ _ hd ?_
 have:∀ (l:List Operand),(∀ x∈l,aO m ρ (aH S x) (a.eval x))→bC m ρ (l.map (aH S)) (l.map a.eval):=by
  intro l
  induction l with
  | nil=>intro _;simp [bC]
  | cons x r ih=>intro h;simp only [List.map_cons,bC];exact ⟨_,_,rfl,h x (List.mem_cons_self ..),ih fun y hy=>h y (List.mem_cons_of_mem _ hy)⟩
 exact this l hx
theorem Qc {o:Oper} {S:Nat→PV} {c:Call} {f:Nat} (ho:o.op= .call c) (hc:c.callee= .value (.func f)) (he:e8 P f=true) {ds:List D} (hd:PV.dW (c.args.toList.map (aH S))=some ds) {res:D} (hF:cD P f ds res):BP P o S (.d res):=by
 intro m ρ a w K Q hm hx hK
 have h1:∀ x∈c.args.toList,aO m ρ (aH S x) (a.eval x):=fun x hx'=>hx x (by simp only [ho,Op.operands,Call.operands];simp only [Array.mem_append];exact .inr (by simpa using hx'))
 unfold Oper.wp
 rw [sZ ho hc he,Oper.upon_enter]
 have hr:=xM h1 hd
 have:=hF m w _ hm hr
 have e:(⟨c.args.toList.map a.eval⟩:Array Value)=c.args.map a.eval:=by apply Array.ext';simp
 rw [e] at this
 refine this.mono ?_
 rintro e w' ⟨v,m',rfl,hv,hm',hE⟩
 exact hK v m' w' hm' hE (by simpa [aO] using hv)
theorem Qd {o:Oper} {S:Nat→PV} {c:Call} {t:Operand} {f:Nat} {caps:List D} (ho:o.op= .call c) (hc:c.callee= .value t) (ht:aH S t= .d (.jT f caps)) (he:e8 P f=true) {ds:List D} (hd:PV.dW (c.args.toList.map (aH S))=some ds) {res:D}
  (hF:cD P f (ds++caps) res):BP P o S (.d res):=by
 intro m ρ a w K Q hm hx hK
 have h1:∀ x∈c.args.toList,aO m ρ (aH S x) (a.eval x):=fun x hx'=>hx x (by simp only [ho,Op.operands,Call.operands];simp only [Array.mem_append];exact .inr (by simpa using hx'))
 have h2:=hx t (by simp [ho,Op.operands,Call.operands,hc])
 rw [ht] at h2
 simp only [aO,bk] at h2
 obtain ⟨cs,Xc,hcs⟩:=h2
 unfold Oper.wp
 rw [CC ho hc Xc he,Oper.upon_enter]
 have hr:=qp (xM h1 hd) hcs
 have:=hF m w _ hm hr
 have e:(⟨c.args.toList.map a.eval++cs⟩:Array Value)=c.args.map a.eval++⟨cs⟩:=by apply Array.ext';simp
 rw [e] at this
 refine this.mono ?_
 rintro e w' ⟨v,m',rfl,hv,hm',hE⟩
 exact hK v m' w' hm' hE (by simpa [aO] using hv)
def pG (P:Program) (s:St):ResultVar→PV×Prop
 | .tmp t=>(s.S t,True)
 | .cell a t=>match s.S a with
  | .aR ix off=>match s.H ix with
   | some (.var l)=>yj (jU P t) l off
   | _=>(.dJ,False)
  | _=>(.dJ,False)
def pZ (P:Program) (rs:List ResultVar) (s:St):PV×Prop:=
 match rs with
 | [r]=>pG P s r
 | rs=>(.tuple (rs.map fun r=>(pG P s r).1),∀ r∈rs,(pG P s r).2)
def GB (tmps:Array Value):ResultVar→Sem Value
 | .tmp t=>pure (tmps.getD t undef)
 | .cell x t=>do loadVar t (← asAddr (tmps.getD x undef))
theorem Qe {N:Nat} {s:St} {m:Mem} {ρ:dA} {a:Act} {w:World} (hI:Inv N s m ρ a w) {r:ResultVar} (h:(pG P s r).2):
  ∃ v,(GB a.tmps r).run P w= .ok v w∧aO m ρ (pG P s r).1 v:=by
 cases r with
 | tmp t=>exact ⟨_,rfl,hI.slots t⟩
 | cell x t=>
  unfold pG at h ⊢
  have hs:=hI.slots x
  cases hx:s.S x with
  | aR ix off=>
   simp only [hx] at h hs ⊢
   cases hH:s.H ix with
   | none=>simp [hH] at h
   | some ob=>
    cases ob with
    | spare=>simp [hH] at h
    | dead=>simp [hH] at h
    | CX=>simp [hH] at h
    | var l=>
     simp only [hH] at h ⊢
     simp only [aO] at hs
     obtain ⟨b,c,hr,ev⟩:=hs
     rcases hI.valid.entry ix _ trivial hH with ⟨_,hr'⟩ | ⟨b',c',vs,tail,tb,hr',hb,hl,hone,_⟩
     ·rw [hr] at hr';cases hr'
     rw [hr] at hr';cases hr'
     unfold yj at h ⊢
     cases ht:jU P t with
     | none=>simp [ht] at h
     | some an=>
      obtain ⟨ag,n⟩:=an
      simp only [ht] at h ⊢
      obtain ⟨u,hu,iY⟩:=yK (P:=P) hb hl hone ht h.1 h.2
      refine ⟨u,?_,iY⟩
      simp only [GB,ev,asAddr,Sem.run_bind,Sem.run_pure,Result.andThen_ok,hu]
  | _=>simp [hx] at h
theorem oI {N:Nat} {fn:Func} {s:St} {m:Mem} {ρ:dA} {a:Act} {w:World} (hI:Inv N s m ρ a w) (h:(pZ P fn.results.toList s).2):
  ∃ v,(results fn a.tmps).run P w= .ok v w∧aO m ρ (pZ P fn.results.toList s).1 v:=by
 have all:∀ (rs:List ResultVar),(∀ r∈rs,(pG P s r).2)→∃ vs:List Value,(rs.mapM (GB a.tmps)).run P w= .ok vs w∧bC m ρ (rs.map fun r=>(pG P s r).1) vs:=by
  intro rs
  induction rs with
  | nil=>intro _;exact ⟨[],rfl,by simp [bC]⟩
  | cons r rs ih=>
   intro hr
   obtain ⟨v,h1,h2⟩:=Qe (P:=P) hI (hr r (List.mem_cons_self ..))
   obtain ⟨vs,h3,h4⟩:=ih fun r' hr'=>hr r' (List.mem_cons_of_mem _ hr')
   refine ⟨v::vs,?_,by simp only [List.map_cons,bC];exact ⟨v,vs,rfl,h2,h4⟩⟩
   rw [List.mapM_cons,Sem.run_bind,h1,Result.andThen_ok,Sem.run_bind,h3,Result.andThen_ok]
   rfl
 have hall:∀ r∈fn.results.toList,(pG P s r).2:=by
  unfold pZ at h
  split at h
  ·rename_i r e
   intro r' hr'
   rw [e] at hr'
   simp at hr'
   subst hr'
   exact h
  ·exact h
 obtain ⟨vs,h1,h2⟩:=all _ hall
 have hrun:(results fn a.tmps).run P w= .ok (if h:vs.toArray.size=1 then vs.toArray[0] else .tuple vs.toArray) w:=by
  have e:results fn a.tmps=(do let vs ← fn.results.mapM (GB a.tmps);pure (if h:vs.size=1 then vs[0] else .tuple vs)):=by
   unfold results
   congr 1
  rw [e,Array.mapM_eq_mapM_toList,Sem.run_bind,Sem.run_map,h1]
  rfl
 refine ⟨_,hrun,?_⟩
 have hlen:=o9 h2
 unfold pZ
 split
 ·rename_i r e
  rw [e] at h2 hlen
  simp only [List.map_cons,List.map_nil,bC] at h2
  obtain ⟨v,vr,rfl,h3,rfl⟩:=h2
  simpa using h3
 ·rename_i hne
  have YK:vs.toArray.size≠1:=by
   intro DS
   have:fn.results.toList.length=1:=by simpa using hlen.symm.trans (by simpa using DS)
   obtain ⟨r,hr⟩:=List.length_eq_one_iff.1 this
   exact hne r hr
  rw [dif_neg YK]
  simp only [aO]
  exact ⟨vs,rfl,h2⟩
def zA (args:List D):Nat→PV:=fun t=>match args[t]? with | some x=> .d x | none=> .dJ
theorem Jz {N:Nat} {args:List D} {m:Mem} {w:World} {vs:List Value} (hm:gr m w) (hr:bP m args vs) (hN:args.length≤N):
  Inv N ⟨zA args,fun _=>none,0,[]⟩ m (fun _=>none) {tmps:=(⟨vs⟩:Array Value)++Array.replicate (N-(⟨vs⟩:Array Value).size) undef,defers:=[]} w:=by
 have hl:=n6 hr
 refine ⟨by simp;omega,rfl,fun t=>?_,⟨hm,fun i o _ h=>(by cases h),fun i j b c c' _ _ h _ _ _=>absurd rfl h⟩,fun _ _=>rfl,fun _ _=>rfl⟩
 show aO m (fun _=>none) (match args[t]? with | some x=>PV.d x | none=>PV.dJ) _
 cases ha:args[t]? with
 | none=>simp [aO]
 | some x=>
  have hlt:t<args.length:=(List.getElem?_eq_some_iff.1 ha).1
  obtain ⟨v,h1,h2⟩:=BQ hr hlt
  have hx:args.getD t default=x:=by rw [List.getD_eq_getElem?_getD,ha];rfl
  rw [hx] at h2
  simp only [aO]
  have:((⟨vs⟩:Array Value)++Array.replicate (N-(⟨vs⟩:Array Value).size) undef).getD t undef=v:=by
   rw [Array.getD_eq_getD_getElem?,Array.getElem?_append_left (by simp;omega)]
   simp [h1]
  rw [this]
  exact h2
def Ends (P:Program) (rs:List ResultVar) (post:PV→Prop):PX→St→Prop:=fun px s=>(px= .normal∨px= .ret)∧s.df=[]∧(pZ P rs s).2∧post (pZ P rs s).1
def RE (m:Mem) (ρ:dA):Out→Ending→Prop
 | .ret p,e=>∃ v,e= .returned v∧aO m ρ p v
 | .nV p,e=>∃ v,e= .panicked [{v:=v,recovered:=false}]∧aO m ρ p v
def Spec (P:Program) (f:Nat) (args:List PV) (H:HM) (nx:Nat) (post:Out→HM→Nat→Prop):Prop:=
 ∀ m ρ w vs,eu (fun _=>True) m ρ w H→(∀ i,nx≤i→H i=none)→(∀ i,nx≤i→ρ i=none)→bC m ρ args vs→Calls P f ⟨vs⟩ w fun e w'=>
  ∃ out H' cw m' ρ',post out H' cw∧eu (fun _=>True) m' ρ' w' H'∧(∀ i,cw≤i→H' i=none)∧(∀ i,cw≤i→ρ' i=none)∧oG nx m ρ w H cw m' ρ' w' H'∧RE m' ρ' out e
theorem eu.sub {m:Mem} {ρ:dA} {w:World} {H H':HM} (V:eu (fun _=>True) m ρ w H) (h:∀ i,H' i=none∨H' i=H i):eu (fun _=>True) m ρ w H':=by
 refine ⟨V.mem,fun i o _ e=>V.entry i o trivial ?_,fun i j b c c' _ _ hi hj=>V.apart i j b c c' trivial trivial ?_ ?_⟩
 ·rcases h i with h' | h'
  ·rw [h'] at e;cases e
  ·rw [← h'];exact e
 ·rcases h i with h' | h'
  ·exact absurd h' hi
  ·rw [← h'];exact hi
 ·rcases h j with h' | h'
  ·exact absurd h' hj
  ·rw [← h'];exact hj
def nJ (args:List PV):Nat→PV:=fun t=>args.getD t .dJ
theorem Db {N nx:Nat} {args:List PV} {H:HM} {m:Mem} {ρ:dA} {w:World} {vs:List Value} (V:eu (fun _=>True) m ρ w H) (hn:∀ i,nx≤i→H i=none) (hρ:∀ i,nx≤i→ρ i=none) (hr:bC m ρ args vs) (hN:args.length≤N):
  Inv N ⟨nJ args,H,nx,[]⟩ m ρ {tmps:=(⟨vs⟩:Array Value)++Array.replicate (N-(⟨vs⟩:Array Value).size) undef,defers:=[]} w:=by
 have hl:=o9 hr
 refine ⟨by simp;omega,rfl,fun t=>?_,V,hn,hρ⟩
 show aO m ρ (args.getD t .dJ) _
 by_cases hlt:t<args.length
 ·obtain ⟨v,h1,h2⟩:=yJ hr hlt
  have:((⟨vs⟩:Array Value)++Array.replicate (N-(⟨vs⟩:Array Value).size) undef).getD t undef=v:=by
   rw [Array.getD_eq_getD_getElem?,Array.getElem?_append_left (by simp;omega)]
   simp [h1]
  rw [this]
  exact h2
 ·rw [List.getD_eq_getElem?_getD,List.getElem?_eq_none (by omega)]
  simp [aO]
def Xd (P:Program) (rs:List ResultVar) (post:Out→HM→Nat→Prop):PX→St→Prop:=fun px s=>
 s.df=[]∧match px with
 | .normal | .ret=>(pZ P rs s).2∧∃ H',(∀ i,H' i=none∨H' i=s.H i)∧post (.ret (pZ P rs s).1) H' s.nx
 | .panic p=>∃ H',(∀ i,H' i=none∨H' i=s.H i)∧post (.nV p) H' s.nx
 | .exit _=>False
theorem oG.sub {n0 n:Nat} {m0 m:Mem} {lG ρ:dA} {w0 w:World} {H0 H H':HM} (A:oG n0 m0 lG w0 H0 n m ρ w H) (h:∀ i,H' i=none∨H' i=H i):oG n0 m0 lG w0 H0 n m ρ w H':=by
 refine ⟨A.ext,A.pU,?_,A.le,A.old⟩
 rintro b ⟨i,c,ht,hl,hr⟩
 refine A.place b ⟨i,c,ht,?_,hr⟩
 rcases h i with h' | h'
 ·exact absurd h' hl
 ·rw [← h'];exact hl
end Go.Proofs.YtlfjfoknbjcncaaGreat.K
namespace Go.Proofs.YtlfjfoknbjcncaaGreat.K
open Go Go.RowKit
variable {P:Program}
def Ak (P:Program) (t:TypeId) (p q:PV):Option Bool:=
 match P.underlying t,p,q with
 | some .bool, .d (.val (.bool a)), .d (.val (.bool b))=>some (a==b)
 | some (.pointer _), .d (.m5 z _), .d (.m5 true _)=>some z
 | some (.pointer _), .d (.cF _), .d (.m5 true _)=>some false
 | some (.pointer _), .d (.m5 true _), .d (.cF _)=>some false
 | some (.pointer _), .aR _ _, .d (.m5 true _)=>some false
 | some (.interface _), .d (.iface _ _), .d (.val .nilIface)=>some false
 | _,_,_=>none
def pH (op:BinOp) (b:Bool):Bool:=
 match op with
 | .eql=>b
 | _=> !b
section
variable {t:TypeId} {w:World}
theorem Up (hu:P.underlying t=some .bool) (a b:Bool):(Op.equal t (.bool a) (.bool b)).run P w= .ok (a==b) w:=by
 have:∀ n,(Op.equalIn (n+1) t (.bool a) (.bool b)).run P w= .ok (a==b) w:=fun n=>by simp [Op.equalIn,run_underlying hu]
 exact this 9999
theorem Qf {e:TypeId} (hu:P.underlying t=some (.pointer e)):(Op.equal t (.pointer none) (.pointer none)).run P w= .ok true w:=by
 have:∀ n,(Op.equalIn (n+1) t (.pointer none) (.pointer none)).run P w= .ok true w:=fun n=>by simp [Op.equalIn,run_underlying hu]
 exact this 9999
theorem Dc {e:TypeId} (hu:P.underlying t=some (.pointer e)) (a:Addr):(Op.equal t (.pointer (some a)) (.pointer none)).run P w= .ok false w:=by
 have:∀ n,(Op.equalIn (n+1) t (.pointer (some a)) (.pointer none)).run P w= .ok false w:=fun n=>by simp [Op.equalIn,run_underlying hu]
 exact this 9999
theorem NU {e:TypeId} (hu:P.underlying t=some (.pointer e)) (a:Addr):(Op.equal t (.pointer none) (.pointer (some a))).run P w= .ok false w:=by
 have:∀ n,(Op.equalIn (n+1) t (.pointer none) (.pointer (some a))).run P w= .ok false w:=fun n=>by simp [Op.equalIn,run_underlying hu]
 exact this 9999
theorem LY {ms:Array (String×TypeId)} (hu:P.underlying t=some (.interface ms)) (u:TypeId) (v:Value):(Op.equal t (.iface u v) .nilIface).run P w= .ok false w:=by
 have:∀ n,(Op.equalIn (n+1) t (.iface u v) .nilIface).run P w= .ok false w:=fun n=>by simp [Op.equalIn,run_underlying hu]
 exact this 9999
end
theorem LZ {o:Oper} {S:Nat→PV} {op:BinOp} {t u:TypeId} {x y:Operand} (ho:o.op= .binOp op t x y u) (hop:op= .eql∨op= .neq) {b:Bool} (h:Ak P t (aH S x) (aH S y)=some b):bp P o S (.d (.val (.bool (pH op b)))):=by
 refine bp.still fun m ρ a w _ hx=>?_
 have h1:=hx x (by simp [ho,Op.operands])
 have h2:=hx y (by simp [ho,Op.operands])
 obtain ⟨dst,op',type,pos,after,guard⟩:=o
 simp only at ho
 subst ho
 generalize aH S x=p at*
 generalize aH S y=q at*
 refine ⟨.bool (pH op b),?_,by simp [aO,bk]⟩
 unfold Ak at h
 split at h
 ·rename_i hu
  simp only [Option.some.injEq] at h;subst h
  simp only [aO,bk] at h1 h2
  rcases hop with rfl | rfl<;>simp [execOp,h1,h2,eqGuard,binOp,Up hu,pH]
 ·rename_i hu
  simp only [Option.some.injEq] at h;subst h
  simp only [aO,bk,true_and,Bool.true_eq_false,false_and,or_false] at h1 h2
  rcases h1 with ⟨rfl,e1⟩ | ⟨rfl,b1,o1,e1,_⟩
  ·rcases hop with rfl | rfl<;>simp [execOp,e1,h2,eqGuard,binOp,Qf hu,pH]
  ·rcases hop with rfl | rfl<;>simp [execOp,e1,h2,eqGuard,binOp,Dc hu,pH]
 ·rename_i hu
  simp only [Option.some.injEq] at h;subst h
  simp only [aO,bk,true_and,Bool.true_eq_false,false_and,or_false] at h1 h2
  obtain ⟨b1,o1,e1,_⟩:=h1
  rcases hop with rfl | rfl<;>simp [execOp,e1,h2,eqGuard,binOp,Dc hu,pH]
 ·rename_i hu
  simp only [Option.some.injEq] at h;subst h
  simp only [aO,bk,true_and,Bool.true_eq_false,false_and,or_false] at h1 h2
  obtain ⟨b1,o1,e1,_⟩:=h2
  rcases hop with rfl | rfl<;>simp [execOp,e1,h1,eqGuard,binOp,NU hu,pH]
 ·rename_i hu
  simp only [Option.some.injEq] at h;subst h
  simp only [aO,bk,true_and,Bool.true_eq_false,false_and,or_false] at h1 h2
  obtain ⟨b1,c1,_,e1⟩:=h1
  rcases hop with rfl | rfl<;>simp [execOp,e1,h2,eqGuard,binOp,Dc hu,pH]
 ·rename_i hu
  simp only [Option.some.injEq] at h;subst h
  simp only [aO,bk] at h1 h2
  obtain ⟨b1,e1,_⟩:=h1
  rcases hop with rfl | rfl<;>simp [execOp,e1,h2,eqGuard,binOp,LY hu,pH]
 ·cases h
def G8 (P:Program) (t:TypeId) (x y:D) (b:Bool):Prop:=
 P.eqGuardType P.depth t=false∧∀ m w v u,bk m x v→bk m y u→∃ vs us,v= .agg vs∧u= .agg us∧(Op.equal t v u).run P w= .ok b w
theorem NV {o:Oper} {S:Nat→PV} {op:BinOp} {t u:TypeId} {x y:Operand} (ho:o.op= .binOp op t x y u) (hop:op= .eql∨op= .neq) {dx dy:D} (hx:(aH S x).cN=some dx) (hy:(aH S y).cN=some dy) {b:Bool} (h:G8 P t dx dy b):
  bp P o S (.d (.val (.bool (pH op b)))):=by
 refine bp.still fun m ρ a w _ hxs=>?_
 have h1:=aO.cN _ _ _ hx (hxs x (by simp [ho,Op.operands]))
 have h2:=aO.cN _ _ _ hy (hxs y (by simp [ho,Op.operands]))
 obtain ⟨dst,op',type,pos,after,guard⟩:=o
 simp only at ho
 subst ho
 obtain ⟨hg,hr⟩:=h
 obtain ⟨vs,us,e1,e2,e3⟩:=hr m w _ _ h1 h2
 refine ⟨.bool (pH op b),?_,by simp [aO,bk]⟩
 rw [e1,e2] at e3
 rcases hop with rfl | rfl<;>simp [execOp,e1,e2,eqGuard,hg,binOp,e3,pH]
def BS:D→UInt8
 | .val (.int _ n)=>UInt8.ofNat n.toNat
 | _=>0
def bytesOf (l:List D):ByteArray:=⟨(l.map BS).toArray⟩
theorem CD (b:UInt8):BS (aa b)=b:=by simp [BS,aa]
theorem DV (bs:List UInt8):bytesOf (bs.map aa)=⟨bs.toArray⟩:=by
 unfold bytesOf
 rw [List.map_map]
 have:(BS ∘ aa)=id:=by funext b;exact CD b
 rw [this,List.map_id]
def DW (l:List D):Prop:=l=(l.map BS).map aa
theorem DX (bs:List UInt8):DW (bs.map aa):=by
 unfold DW
 rw [List.map_map,List.map_map]
 congr 1
 funext b
 simp [CD]
def vp (P:Program) (t u:TypeId) (p:PV):PV×Prop:=
 match P.underlying t,P.underlying u with
 | some _,some (.int k)=>match p with
  | .d (.val (.int _ n))=>(.d (.val (.int k (k.wrap n))),True)
  | _=>(.dJ,False)
 | some (.slice e),some .string=>match p.elems with
  | some l=>(.d (.val (.string (bytesOf l))),P.underlying e=some (.int .u8)∧DW l)
  | none=>(.dJ,False)
 | some _,some .string=>match p with
  | .d (.val (.string s))=>(.d (.val (.string s)),True)
  | _=>(.dJ,False)
 | _,_=>(.dJ,False)
theorem L0 {o:Oper} {S:Nat→PV} {t u:TypeId} {x:Operand} (ho:o.op= .convert t u x) (h:(vp P t u (aH S x)).2):bp P o S (vp P t u (aH S x)).1:=by
 unfold vp at h ⊢
 split at h
 ·rename_i d k ht hu
  split at h
  ·rename_i k' n hp
   exact P6 ho ht hu hp
  ·exact h.elim
 ·rename_i e ht hu
  split at h
  ·rename_i l hl
   obtain ⟨he,hb⟩:=h
   unfold DW at hb
   have hl':(aH S x).elems=some ((l.map BS).map aa):=by rw [hl, ← hb]
   have:=LO (P:=P) ho ht he hu hl'
   simpa [bytesOf] using this
  ·exact h.elim
 ·rename_i d _ ht hu
  split at h
  ·rename_i s hp
   exact P7 ho ht hu hp
  ·exact h.elim
 ·exact h.elim
def DY (P:Program) (t:TypeId) (p:PV) (lo hi mx:Option PV):PV×Prop:=
 match P.underlying t with
 | some .string=>match p,pV 0 lo,mx with
  | .d (.val (.string s)),some l,none=>match pV s.size hi with
   | some h=>(.d (.val (.string (s.extract l.toNat h.toNat))),0≤l∧l≤h∧h≤(s.size:Int))
   | none=>(.dJ,False)
  | _,_,_=>(.dJ,False)
 | some (.slice _)=>match qG P t,p.elems,pV 0 lo with
  | some (sz,_,_),some e,some l=>match mx with
   | none=>match pV e.length hi with
    | some h=>(.d (.slice ((e.drop l.toNat).take (h-l).toNat)),(0≤l∧l≤h∧h≤(e.length:Int))∧∀ x∈e,x.cells.length=sz)
    | none=>(.dJ,False)
   | some (.d (.val (.int _ q)))=>match hi with
    | some (.d (.val (.int _ h)))=>(.full ((e.drop l.toNat).take (h-l).toNat),(0≤l∧l≤h∧h≤(e.length:Int))∧q=h∧∀ x∈e,x.cells.length=sz)
    | _=>(.dJ,False)
   | some _=>(.dJ,False)
  | _,_,_=>(.dJ,False)
 | some (.array _ _)=>match nR P t,p,pV 0 lo,mx with
  | some (n,1,_), .d (.cF c),some l,none=>match pV n hi with
   | some h=>((if hi.isSome then .d (.slice ((c.drop l.toNat).take (h-l).toNat)) else .full ((c.drop l.toNat).take (h-l).toNat)),(0≤l∧l≤h∧h≤(n:Int))∧n≤c.length∧∀ x∈c,x.flat=true)
   | none=>(.dJ,False)
  | _,_,_,_=>(.dJ,False)
 | _=>(.dJ,False)
theorem NW {o:Oper} {S:Nat→PV} {t:TypeId} {x:Operand} {lo hi mx:Option Operand} (ho:o.op= .slice t x lo hi mx) (h:(DY P t (aH S x) (lo.map (aH S)) (hi.map (aH S)) (mx.map (aH S))).2):
  bp P o S (DY P t (aH S x) (lo.map (aH S)) (hi.map (aH S)) (mx.map (aH S))).1:=by
 unfold DY at h ⊢
 split at h
 ·rename_i hu
  split at h
  ·rename_i s l hp hl hm
   have hm':mx=none:=by cases mx<;>simp_all
   subst hm'
   split at h
   ·rename_i hh RU
    exact I3 ho hu hp hl RU h.1 h.2.1 h.2.2
   ·exact h.elim
  ·exact h.elim
 ·rename_i e hu
  split at h
  ·rename_i sz jq ag el l hs he hl
   split at h
   ·rename_i hm
    have hm':mx=none:=by cases mx<;>simp_all
    subst hm'
    split at h
    ·rename_i hh RU
     exact NM ho hs he hl RU h.1.1 h.1.2.1 h.1.2.2 h.2
    ·exact h.elim
   ·rename_i k q hm
    split at h
    ·rename_i k' hh hhi
     obtain ⟨⟨c1,c2,c3⟩,rfl,c4⟩:=h
     cases mx with
     | none=>simp at hm
     | some mo=>
      cases hi with
      | none=>simp at hhi
      | some ho'=>
       simp only [Option.map_some,Option.some.injEq] at hm hhi
       exact LN ho hs he hl hhi hm c1 c2 c3 c4
    ·exact h.elim
   ·exact h.elim
  ·exact h.elim
 ·rename_i n e hu
  split at h
  ·rename_i n' ag c l ha hp hl hm
   have hm':mx=none:=by cases mx<;>simp_all
   subst hm'
   split at h
   ·rename_i hh RU
    have:=KW (P:=P) ho ha hp hl RU h.1.1 h.1.2.1 h.1.2.2 h.2.1 h.2.2
    cases hi<;>simpa using this
   ·exact h.elim
  ·exact h.elim
 ·exact h.elim
def AQ (P:Program) (t:TypeId) (p:PV):PV×Prop:=
 match P.underlying t with
 | some .string=>match p with
  | .d (.val (.string s))=>(.d (.val (.int .i64 s.size)),True)
  | _=>(.dJ,False)
 | some (.slice _)=>match p.elems with
  | some l=>(.d (.val (.int .i64 l.length)),True)
  | none=>(.dJ,False)
 | some (.array n _)=>(.d (.val (.int .i64 n)),True)
 | some (.pointer u)=>match P.underlying u with
  | some (.array n _)=>(.d (.val (.int .i64 n)),True)
  | _=>(.dJ,False)
 | _=>(.dJ,False)
def jJ (P:Program) (S:Nat→PV) (b:Builtin) (args:List Operand) (ts:List TypeId):PV×Prop:=
 match b,args,ts with
 | .len,[x],[t]=>AQ P t (aH S x)
 | .min,[x,y],_=>match aH S x,aH S y with
  | .d (.val (.int k i)), .d (.val (.int _ j))=>(.d (.val (.int k (if j<i then j else i))),True)
  | _,_=>(.dJ,False)
 | .max,[x,y],_=>match aH S x,aH S y with
  | .d (.val (.int k i)), .d (.val (.int _ j))=>(.d (.val (.int k (if j>i then j else i))),True)
  | _,_=>(.dJ,False)
 | _,_,_=>(.dJ,False)
theorem BT {α:Type} {a:Array α} {l:List α} (h:a.toList=l):a=l.toArray:=by subst h;simp
theorem AR {o:Oper} {S:Nat→PV} {c:Call} {b:Builtin} (ho:o.op= .call c) (hc:c.callee= .builtin b) (h:(jJ P S b c.args.toList c.argTypes.toList).2):bp P o S (jJ P S b c.args.toList c.argTypes.toList).1:=by
 obtain ⟨callee,args,ts⟩:=c
 simp only at hc
 subst hc
 simp only at h ⊢
 unfold jJ at h ⊢
 split at h
 ·rename_i x t ha ht
  rw [BT ha,BT ht] at ho
  unfold AQ at h ⊢
  split at h
  ·rename_i hu
   split at h
   ·rename_i s hp
    exact LP ho hu hp
   ·exact h.elim
  ·rename_i e hu
   split at h
   ·rename_i l hp
    exact RI ho hu hp
   ·exact h.elim
  ·rename_i n e hu
   exact NO ho hu
  ·rename_i u hu
   split at h
   ·rename_i n e hu2
    exact LQ ho hu hu2
   ·exact h.elim
  ·exact h.elim
 ·rename_i x y ts' ha
  rw [BT ha] at ho
  split at h
  ·rename_i k i k' j hp hq
   exact RJ ho hp hq
  ·exact h.elim
 ·rename_i x y ts' ha
  rw [BT ha] at ho
  split at h
  ·rename_i k i k' j hp hq
   exact RL ho hp hq
  ·exact h.elim
 ·exact h.elim
def yM (P:Program) (t:TypeId):Bool:=
 match P.underlying t with
 | some (.interface _)=>false
 | some _=>true
 | none=>false
def xO (P:Program) (op:BinOp) (t:TypeId) (p q:PV):PV×Prop:=
 match op with
 | .eql=>match Ak P t p q with
  | some b=>(.d (.val (.bool b)),True)
  | none=>bin .eql p q
 | .neq=>match Ak P t p q with
  | some b=>(.d (.val (.bool (!b))),True)
  | none=>bin .neq p q
 | op=>bin op p q
theorem FI {o:Oper} {S:Nat→PV} {op:BinOp} {t u:TypeId} {x y:Operand} (ho:o.op= .binOp op t x y u) (h:(xO P op t (aH S x) (aH S y)).2):bp P o S (xO P op t (aH S x) (aH S y)).1:=by
 unfold xO at h ⊢
 split at h
 ·split at h
  ·rename_i b hb
   exact LZ ho (.inl rfl) hb
  ·rename_i hb
   exact C0 ho h
 ·split at h
  ·rename_i b hb
   exact LZ ho (.inr rfl) hb
  ·rename_i hb
   exact C0 ho h
 ·exact C0 ho h
def uG (S:Nat→PV):List (Nat×Operand)→List PV
 | []=>[]
 | x::r=>aH S x.2::uG S r
def pN (S:Nat→PV):List (Nat×Operand)→List (Nat×PV)
 | []=>[]
 | x::r=>(x.1,aH S x.2)::pN S r
def BU:List PV→Prop
 | []=>True
 | p::r=>p.ir=true∧BU r
def BV:List (Nat×Operand)→List Nat
 | []=>[]
 | x::r=>x.1::BV r
theorem G9 (S:Nat→PV):∀ l,uG S l=l.map fun x=>aH S x.2
 | []=>rfl
 | x::r=>by simp only [uG,List.map_cons,G9 S r]
theorem He (S:Nat→PV):∀ l,pN S l=l.map fun x=>(x.1,aH S x.2)
 | []=>rfl
 | x::r=>by simp only [pN,List.map_cons,He S r]
theorem Hf:∀ l,BV l=l.map (·.1)
 | []=>rfl
 | x::r=>by simp only [BV,List.map_cons,Hf r]
theorem FJ (S:Nat→PV):∀ l,BU (uG S l)→∀ x∈l,(aH S x.2).ir=true
 | [],_,x,hx=>by cases hx
 | y::r,h,x,hx=>by
  rcases List.mem_cons.1 hx with rfl | hx
  ·exact h.1
  ·exact FJ S r h.2 x hx
def jV (P:Program) (S:Nat→PV) (op:Op):PV×Prop:=
 match op with
 | .move x=>(aH S x,True)
 | .assign x=>(aH S x,True)
 | .pick c a b=>zn (aH S c) (aH S a) (aH S b)
 | .build t parts=>lX (sv P t) (pN S parts.toList)
 | .buildSlice t n parts=>match qH P t,PV.dW (uG S parts.toList) with
  | some (sz,_),some xs=>(.full xs,BV parts.toList=List.range n∧n*sz≤2 ^ 24∧BU (uG S parts.toList)∧∀ x∈xs,x.cells.length=sz)
  | _,_=>(.dJ,False)
 | .load t x=>match aH S x with
  | .d (.cF l)=>C8 (jU P t) l
  | _=>(.dJ,False)
 | .nilCheck x=>(BR (aH S x),zw (aH S x))
 | .binOp op t x y _=>xO P op t (aH S x) (aH S y)
 | .unOp op _ x=>un op (aH S x)
 | .convert t u x=>vp P t u (aH S x)
 | .sliceToArrayPointer t x=>match nR P t,(aH S x).elems with
  | some (n,1,_),some l=>(.d (.cF l),n≤l.length∧l≠[]∧∀ x∈l,x.flat=true)
  | _,_=>(.dJ,False)
 | .makeInterface t x=>match (aH S x).cN with
  | some y=>(.d (.iface t y),yM P t=true)
  | none=>(.dJ,False)
 | .makeFunc (.func f) first caps=>(LR f (caps.toList.map (aH S)),first= #[])
 | .slice t x lo hi mx=>DY P t (aH S x) (lo.map (aH S)) (hi.map (aH S)) (mx.map (aH S))
 | .fieldAddr t x f=>pY (n5 P t f) (aH S x)
 | .field t x f=>DR (n5 P t f) (aH S x)
 | .indexAddr t x y=>oy (qG P t) (nR P t) (aH S x) (aH S y)
 | .index t x y=>((xK (nR P t) (aH S x) (aH S y)).1,(nR P t=none→P.underlying t=some .string)∧(xK (nR P t) (aH S x) (aH S y)).2)
 | .extract x i=>uf (aH S x) i
 | .call c=>match c.callee with
  | .builtin b=>jJ P S b c.args.toList c.argTypes.toList
  | _=>(.dJ,False)
 | _=>(.dJ,False)
theorem K0 {o:Oper} {S:Nat→PV} (h:(jV P S o.op).2):bp P o S (jV P S o.op).1:=by
 obtain ⟨dst,op,type,pos,after,guard⟩:=o
 simp only at h ⊢
 cases op<;>simp only [jV] at h ⊢ <;>try exact h.elim
 case move x=>exact FC (.inl rfl)
 case assign x=>exact FC (.inr rfl)
 case pick c a b=>exact FD rfl h
 case build t parts=>
  rw [He] at h ⊢
  exact KX rfl h
 case buildSlice t n parts=>
  split at h
  ·rename_i sz jq xs h1 h2
   rw [G9] at h2
   exact DU rfl h1 (by rw [← Hf];exact h.1) h.2.1 h2 (FJ S _ h.2.2.1) h.2.2.2
  ·exact h.elim
 case load t x=>
  split at h
  ·rename_i l hp
   exact FE rfl hp h
  ·exact h.elim
 case nilCheck x=>exact Ge rfl h
 case binOp op t x y u=>exact FI rfl h
 case unOp op t x=>exact P5 rfl h
 case convert t u x=>exact L0 rfl h
 case sliceToArrayPointer t x=>
  split at h
  ·rename_i n ag l h1 h2
   exact G2 rfl h1 h2 h.1 h.2.1 h.2.2
  ·exact h.elim
 case makeInterface t x=>
  split at h
  ·rename_i y hy
   unfold yM at h
   split at h
   ·cases h
   ·rename_i d hne hu
    exact AN rfl hu (by cases d<;>simp_all) hy
   ·cases h
  ·exact h.elim
 case makeFunc fn first caps=>
  cases fn<;>simp only at h ⊢ <;>try exact h.elim
  subst h
  exact Gf rfl
 case slice t x lo hi mx=>exact NW rfl h
 case fieldAddr t x f=>exact ET rfl h
 case field t x f=>exact KU rfl h
 case indexAddr t x y=>exact EU rfl h
 case index t x y=>exact KV rfl h.1 h.2
 case extract x i=>exact GU rfl h
 case call c=>
  split at h
  ·rename_i b hb
   exact AR rfl hb h
  ·exact h.elim
end Go.Proofs.YtlfjfoknbjcncaaGreat.K
