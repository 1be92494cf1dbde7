/- Words of 32 and 64 bits; laws of any operation (stepO); writable rows; structs and arrays held against each other. -/
import Derived.Test.YtlfjfoknbjcncaaGreatGG2
import Derived.ChangeKeysEq
import Derived.Laws.StructEq
import Derived.KernelRfl
namespace Go.Proofs.YtlfjfoknbjcncaaGreat.K
open Go Go.RowKit
set_option linter.unusedVariables false
set_option linter.unusedSimpArgs false
set_option linter.unusedSectionVars false
variable {P:Program} {N:Nat} {ops:Array Oper} {o:Oper} {r:List Oper}
def sW (P:Program) (o:Oper) (s:St) (k:PV→HM→Nat→List Nat→List Nat→Prop):Prop:=
 (∀ i,s.nx≤i→s.H i=none)→∃ v H' cC T W,m6 P o s v H' cC T W∧k v H' cC T W
section
variable {S:Nat→PV} {H:HM} {nx:Nat} {df:List (Nat×List PV)}
theorem XK.so {Q:PX→St→Prop} (d:Option Nat) (hd:o.dst=d) (hg:o.guard=none) (h:sW P o ⟨S,H,nx,df⟩ fun v H' cC _ _=>XK P ops r ⟨fj S d v,H',cC,df⟩ Q):XK P ops (o::r) ⟨S,H,nx,df⟩ Q:=by
 intro hn
 subst hd
 obtain ⟨v,H',cC,T,W,h1,h3⟩:=h hn
 exact .step (.run hg h1) (h3 h1.nil)
theorem RK.so {acc:List Rec} {K:St→List Rec→Prop} (d:Option Nat) (hd:o.dst=d) (hg:o.guard=none) (h:sW P o ⟨S,H,nx,df⟩ fun v H' cC T W=>RK P ops r ⟨fj S d v,H',cC,df⟩ (⟨T,W,nx,cC⟩::acc) K):RK P ops (o::r) ⟨S,H,nx,df⟩ acc K:=by
 intro hn
 subst hd
 obtain ⟨v,H',cC,T,W,h1,h3⟩:=h hn
 obtain ⟨s',L,h4,h5⟩:=h3 h1.nil
 exact ⟨s',_, .cons (.run hg h1) h4,by simpa using h5⟩
end
section
variable {S:Nat→PV} {H:HM} {nx:Nat} {df:List (Nat×List PV)} {k:PV→HM→Nat→List Nat→List Nat→Prop}
theorem C8 {v v':PV} (h:bp P o S v) (hi:iy v v') (hk:k v' H nx [] []):sW P o ⟨S,H,nx,df⟩ k:=
 fun hn=>⟨_,_,_,_,_,(lH (s:=⟨S,H,nx,df⟩) hn h.op).imp hi,hk⟩
theorem SC {s:St} {id:Nat} {h:HO} (hn:∀ i,s.nx≤i→s.H i=none) (hH:s.H id=some h):id<s.nx:=by
 rcases Nat.lt_or_ge id s.nx with h' | h'
 ·exact h'
 ·rw [hn id h'] at hH;cases hH
theorem UP {t:TypeId} {x:Operand} {lo hi:Option Operand} {n id off:Nat} {ag:Bool} {p q:Int} (ho:o.op= .slice t x lo hi none) (ha:mu P t=some (n,1,ag)) (hx:aB S x= .aK id off)
  (hl:oz 0 (lo.map (aB S))=some p) (hh:oz n (hi.map (aB S))=some q) (h:0≤p∧p≤q∧q≤(n:Int)) (hk:k (.gA id (off+p.toNat) (q-p).toNat) H nx [] []):sW P o ⟨S,H,nx,df⟩ k:=by
 refine C8 (v:= .gA id (off+p.toNat) (q-p).toNat) ?_ iy.refl hk
 obtain ⟨h0,h1,h2⟩:=h
 refine bp.still fun m ρ a w hm hx'=>?_
 have e1:=hx' x (by simp [ho,Op.operands])
 have e2:∀ y,lo=some y→aM m ρ (aB S y) (a.eval y):=fun y hy=>hx' y (by simp [ho,hy,Op.operands])
 have e3:∀ y,hi=some y→aM m ρ (aB S y) (a.eval y):=fun y hy=>hx' y (by simp [ho,hy,Op.operands])
 obtain ⟨dst,op',type,pos,after,guard⟩:=o
 simp only at ho
 subst ho
 rw [hx] at e1
 simp only [aM] at e1
 obtain ⟨b,c,hr,ev⟩:=e1
 obtain ⟨et,hu,ht⟩:=qt ha
 have hsz:=(iX ht w).2
 have hb:=tH (P:=P) (w:=w) (IU:=false) hl hh e2 e3 h0 h1 h2 (Nat.le_refl _)
 refine ⟨.slice (some (if n=p.toNat then ⟨b,off,none⟩ else (⟨b,off,none⟩:Addr).add p.toNat)) (q.toNat-p.toNat) (n-p.toNat),?_,?_⟩
 ·simp [execOp,Instr.sliceAt,run_underlying hu,ev,Instr.sureAddr,hb,hsz]
 ·have e:(q-p).toNat=q.toNat-p.toNat:=by omega
  simp only [aM,e]
  by_cases e:n=p.toNat
  ·exact .inr ⟨by omega,some (if n=p.toNat then ⟨b,off,none⟩ else (⟨b,off,none⟩:Addr).add p.toNat),n-p.toNat,by rw [show q.toNat-p.toNat=0 by omega]⟩
  ·exact .inl ⟨b,c,n-p.toNat,hr,by simp [e,iY],by omega⟩
theorem UQ {t u e:TypeId} {x:Operand} {id off n:Nat} {l:List PV} {bs:List UInt8} (ho:o.op= .convert t u x) (ht:P.underlying t=some (.slice e)) (he:P.underlying e=some (.int .u8)) (hu:P.underlying u=some .string)
  (hx:aB S x= .gA id off n) (hH:H id=some (.var l)) (hl:(l.drop off).take n=(bs.map U).map .d) (hn:bs.length=n) (hk:k (.d (.val (sV bs))) H nx [id] []):sW P o ⟨S,H,nx,df⟩ k:=by
 intro gP
 refine ⟨_,_,_,_,_,⟨Nat.le_refl _,fun _ _ _=>rfl,gP,by simp,by simpa using SC gP hH,?_⟩,hk⟩
 intro m ρ a w K Q V hf hxs hK
 have h1:=hxs x (by simp [ho,Op.operands])
 rw [show aB ({S:=S,H:=H,nx:=nx,df:=df}:St).S x=_ from hx] at h1
 simp only [aM] at h1
 have hrun:(Conv.bytesToString (a.eval x)).run P w= .ok (sV bs) w:=by
  rcases h1 with ⟨b,c,kk,hr,ev,_⟩ | ⟨h0,ad,kk,ev⟩
  ·rcases V.entry id _ (by simp) hH with ⟨_,hr'⟩ | ⟨b',c',vs,tail,tb,hr',hb,hrl,hone,_⟩
   ·rw [hr] at hr';cases hr'
   rw [hr] at hr';cases hr'
   rw [ev]
   have h2:bM m ρ ((bs.map U).map PV.d) ((vs.drop off).take n):=by rw [← hl];exact oC n (vk off hrl)
   have h3:=bM.eg _ _ _ (wP (bs.map U)) h2
   have h4:=tI h3
   have hcell:∀ j v,((vs.drop off).take n)[j]? =some v→w.cell? ((⟨b,off,none⟩:Addr).add j)=some v:=by
    intro j v hj
    rw [iY,hY hb]
    rw [List.getElem?_take] at hj
    split at hj
    ·rw [List.getElem?_drop] at hj
     rw [List.getElem?_append_left (List.getElem?_eq_some_iff.1 hj).1];exact hj
    ·cases hj
   have hlc:=run_loadCells_list (P:=P) w ⟨b,off,none⟩ _ hcell
   rw [h4,List.length_map,hn] at hlc
   have:=run_bytesToString (P:=P) w ⟨b,off,none⟩ n kk (bs.map fun b=>(b.toNat:Int)) (by rw [hlc];simp [List.map_map,Function.comp_def])
   rw [this]
   congr 2
   apply F4
   have e:∀ (l:List UInt8) (s:ByteArray),(l.map fun b=>(b.toNat:Int)).foldl (fun r n=>r.push (UInt8.ofNat n.toNat)) s=l.foldl (fun r b=>r.push b) s:=by
    intro l
    induction l with
    | nil=>intro s;rfl
    | cons b l ih=>
     intro s
     simp only [List.map_cons,List.foldl_cons,Int.toNat_natCast,UInt8.ofNat_toNat]
     exact ih _
   rw [e,foldl_push]
   simp [ByteArray.empty,ByteArray.emptyWithCapacity]
   rfl
  ·subst h0
   have:bs=[]:=List.eq_nil_of_length_eq_zero hn
   subst this
   rw [ev]
   cases ad with
   | none=>simp [Conv.bytesToString];rfl
   | some ad=>
    have hlc:=run_loadCells_list (P:=P) w ad [] (by simp)
    have:=run_bytesToString (P:=P) w ad 0 kk [] (by simpa using hlc)
    rw [this];rfl
 obtain ⟨dst,op',type,pos,after,guard⟩:=o
 simp only at ho
 subst ho
 have Xw:(execOp a.eval ⟨dst, .convert t u x,type,pos,after,guard⟩).run P w= .ok (.value (sV bs)) w:=by
  have:∃ ad n k,a.eval x= .slice ad n k:=by
   rcases h1 with ⟨b,c,kk,hr,ev,_⟩ | ⟨h0,ad,kk,ev⟩
   ·exact ⟨_,_,_,ev⟩
   ·exact ⟨_,_,_,ev⟩
  obtain ⟨ad,n',k',ev⟩:=this
  simp [execOp,convert,run_underlying ht,run_underlying hu,run_underlying he,ev]
  rw [ev] at hrun
  simp [hrun]
 unfold Oper.wp
 rw [Xw,Oper.upon_value]
 exact hK _ m ρ w (xX.same V) (by simp [aM,bh])
theorem LL {t:TypeId} {x y:Operand} {id off n sz je:Nat} {ag:Bool} {i:Int} {kd:IntKind} (ho:o.op= .indexAddr t x y) (ht:l6 P t=some (sz,je,ag)) (hx:aB S x= .gA id off n) (hy:aB S y= .d (.val (.int kd i)))
  (h:0≤i∧i<(n:Int)) (hk:k (.aK id (off+i.toNat*sz)) H nx [] []):sW P o ⟨S,H,nx,df⟩ k:=by
 refine C8 (v:= .aK id (off+i.toNat*sz)) ?_ iy.refl hk
 refine bp.still fun m ρ a w hm hx'=>?_
 have e1:=hx' x (by simp [ho,Op.operands])
 have e2:=hx' y (by simp [ho,Op.operands])
 obtain ⟨dst,op',type,pos,after,guard⟩:=o
 simp only at ho
 subst ho
 rw [hx] at e1
 rw [hy] at e2
 simp only [aM,bh] at e1 e2
 obtain ⟨e,inf,hu,het,hi,_,_⟩:=vl ht
 have hsz:=(iX het w).2
 obtain ⟨h3,h4⟩:=h
 rcases e1 with ⟨b,c,kk,hr,ev,_⟩ | ⟨h0,_⟩
 ·refine ⟨.pointer (some ⟨b,off+i.toNat*sz,none⟩),?_,by simp only [aM];exact ⟨b,c,hr,rfl⟩⟩
  simp [execOp,Instr.indexAt,e2,asIntOf,ev,run_underlying hu,hsz,h3,h4,iY]
 ·omega
end
section
variable {S:Nat→PV} {H:HM} {nx:Nat} {df:List (Nat×List PV)} {eB:List Nat} {k:PV→HM→Nat→List Nat→List Nat→Prop}
class Wk (kd:IntKind) (w:outParam Nat):Prop where
 bits:kd.bits=w
 wrap:∀ n:Int,kd.wrap n=((BitVec.ofInt w n).toNat:Int)
 pos:0<w
instance:Wk .u32 32:=⟨rfl,fun n=>by rw [IntKind.wrap_u32,BitVec.toNat_ofInt];omega,by decide⟩
instance:Wk .u64 64:=⟨rfl,fun n=>by rw [IntKind.wrap_u64,BitVec.toNat_ofInt];omega,by decide⟩
variable {kd:IntKind} {w:Nat} [Wk kd w]
omit [Wk kd w] in
theorem iZ (a:BitVec w):BitVec.ofInt w (a.toNat:Int)=a:=by
 apply BitVec.eq_of_toNat_eq
 rw [BitVec.toNat_ofInt]
 have:=a.isLt
 rw [Int.emod_eq_of_lt (by omega) (by exact_mod_cast this)];simp
theorem fT {t u:TypeId} {x y:Operand} {a b:BitVec w} (ho:o.op= .binOp .add t x y u) (hx:aB S x= .d (.val (.int kd (a.toNat:Int)))) (hy:aB S y= .d (.val (.int kd (b.toNat:Int)))) (hk:k (.d (.val (.int kd ((a+b).toNat:Int)))) H nx [] []):aR P eB o ⟨S,H,nx,df⟩ k:=
 gr ho hx hy rfl rfl (by show PV.d (.val (.int kd (kd.wrap ((a.toNat:Int)+(b.toNat:Int)))))=_;rw [Wk.wrap (kd:=kd),BitVec.ofInt_add,iZ,iZ]) hk
theorem Jh {t u:TypeId} {x y:Operand} {a b:BitVec w} (ho:o.op= .binOp .sub t x y u) (hx:aB S x= .d (.val (.int kd (a.toNat:Int)))) (hy:aB S y= .d (.val (.int kd (b.toNat:Int)))) (hk:k (.d (.val (.int kd ((a-b).toNat:Int)))) H nx [] []):aR P eB o ⟨S,H,nx,df⟩ k:=
 gr ho hx hy rfl rfl (by show PV.d (.val (.int kd (kd.wrap ((a.toNat:Int)-(b.toNat:Int)))))=_;rw [Wk.wrap (kd:=kd),Int.sub_eq_add_neg,BitVec.ofInt_add,BitVec.ofInt_neg,iZ,iZ, ← BitVec.sub_eq_add_neg]) hk
theorem D6 {t u:TypeId} {x y:Operand} {a b:BitVec w} (ho:o.op= .binOp .mul t x y u) (hx:aB S x= .d (.val (.int kd (a.toNat:Int)))) (hy:aB S y= .d (.val (.int kd (b.toNat:Int)))) (hk:k (.d (.val (.int kd ((a*b).toNat:Int)))) H nx [] []):aR P eB o ⟨S,H,nx,df⟩ k:=
 gr ho hx hy rfl rfl (by show PV.d (.val (.int kd (kd.wrap ((a.toNat:Int)*(b.toNat:Int)))))=_;rw [Wk.wrap (kd:=kd),BitVec.ofInt_mul,iZ,iZ]) hk
omit [Wk kd w] in
theorem SD {b:BitVec w} (h:b≠0):(b.toNat:Int)≠0:=by
 intro e;apply h;apply BitVec.eq_of_toNat_eq;simp;omega
theorem AZ {t u:TypeId} {x y:Operand} {a b:BitVec w} (ho:o.op= .binOp .quo t x y u) (hx:aB S x= .d (.val (.int kd (a.toNat:Int)))) (hy:aB S y= .d (.val (.int kd (b.toNat:Int)))) (h:b≠0) (hk:k (.d (.val (.int kd ((a/b).toNat:Int)))) H nx [] []):aR P eB o ⟨S,H,nx,df⟩ k:=by
 refine gr ho hx hy rfl ⟨rfl,SD h⟩ ?_ hk
 show PV.d (.val (.int kd (kd.wrap ((a.toNat:Int).tdiv (b.toNat:Int)))))=_
 have e:(a.toNat:Int).tdiv (b.toNat:Int)=((a/b).toNat:Int):=by rw [BitVec.toNat_udiv];rfl
 rw [e,Wk.wrap (kd:=kd),iZ]
omit [Wk kd w] in
theorem A0 {t u:TypeId} {x y:Operand} {a b:BitVec w} (ho:o.op= .binOp .rem t x y u) (hx:aB S x= .d (.val (.int kd (a.toNat:Int)))) (hy:aB S y= .d (.val (.int kd (b.toNat:Int)))) (h:b≠0) (hk:k (.d (.val (.int kd ((a%b).toNat:Int)))) H nx [] []):aR P eB o ⟨S,H,nx,df⟩ k:=by
 refine gr ho hx hy rfl ⟨rfl,SD h⟩ ?_ hk
 show PV.d (.val (.int kd ((a.toNat:Int).tmod (b.toNat:Int))))=_
 have e:(a.toNat:Int).tmod (b.toNat:Int)=((a%b).toNat:Int):=by rw [BitVec.toNat_umod];rfl
 rw [e]
theorem m9 {t u:TypeId} {x y:Operand} {a b:BitVec w} (ho:o.op= .binOp .and t x y u) (hx:aB S x= .d (.val (.int kd (a.toNat:Int)))) (hy:aB S y= .d (.val (.int kd (b.toNat:Int)))) (hk:k (.d (.val (.int kd ((a&&& b).toNat:Int)))) H nx [] []):aR P eB o ⟨S,H,nx,df⟩ k:=by
 have hb:=Wk.bits (kd:=kd)
 subst hb
 refine gr ho hx hy rfl rfl ?_ hk
 show PV.d (.val (.int kd (kd.wrap (BitVec.ofInt kd.bits a.toNat&&& BitVec.ofInt kd.bits b.toNat).toNat)))=_
 rw [iZ,iZ,Wk.wrap (kd:=kd),iZ]
theorem vw {t u:TypeId} {x y:Operand} {a b:BitVec w} (ho:o.op= .binOp .or t x y u) (hx:aB S x= .d (.val (.int kd (a.toNat:Int)))) (hy:aB S y= .d (.val (.int kd (b.toNat:Int)))) (hk:k (.d (.val (.int kd ((a||| b).toNat:Int)))) H nx [] []):aR P eB o ⟨S,H,nx,df⟩ k:=by
 have hb:=Wk.bits (kd:=kd)
 subst hb
 refine gr ho hx hy rfl rfl ?_ hk
 show PV.d (.val (.int kd (kd.wrap (BitVec.ofInt kd.bits a.toNat||| BitVec.ofInt kd.bits b.toNat).toNat)))=_
 rw [iZ,iZ,Wk.wrap (kd:=kd),iZ]
theorem j6 {t u:TypeId} {x y:Operand} {a b:BitVec w} (ho:o.op= .binOp .xor t x y u) (hx:aB S x= .d (.val (.int kd (a.toNat:Int)))) (hy:aB S y= .d (.val (.int kd (b.toNat:Int)))) (hk:k (.d (.val (.int kd ((a^^^b).toNat:Int)))) H nx [] []):aR P eB o ⟨S,H,nx,df⟩ k:=by
 have hb:=Wk.bits (kd:=kd)
 subst hb
 refine gr ho hx hy rfl rfl ?_ hk
 show PV.d (.val (.int kd (kd.wrap (BitVec.ofInt kd.bits a.toNat^^^BitVec.ofInt kd.bits b.toNat).toNat)))=_
 rw [iZ,iZ,Wk.wrap (kd:=kd),iZ]
def qW {w:Nat} (a:BitVec w) (c:Int):BitVec w:=a <<< (min c.toNat w)
def oJ {w:Nat} (a:BitVec w) (c:Int):BitVec w:=a >>> (min c.toNat w)
theorem A2 {t u:TypeId} {x y:Operand} {a:BitVec w} {c:Int} {Bo:IntKind} (ho:o.op= .binOp .shl t x y u) (hx:aB S x= .d (.val (.int kd (a.toNat:Int)))) (hy:aB S y= .d (.val (.int Bo c))) (h:0≤c) (hk:k (.d (.val (.int kd ((qW a c).toNat:Int)))) H nx [] []):aR P eB o ⟨S,H,nx,df⟩ k:=by
 have hb:=Wk.bits (kd:=kd)
 subst hb
 refine gr ho hx hy rfl h ?_ hk
 show PV.d (.val (.int kd (kd.wrap ((a.toNat:Int)*2 ^ (min c.toNat kd.bits)))))=_
 have e:(a.toNat:Int)*2 ^ (min c.toNat kd.bits)=((a.toNat*2 ^ (min c.toNat kd.bits):Nat):Int):=by push_cast;rfl
 rw [e,Wk.wrap (kd:=kd),qW,BitVec.toNat_shiftLeft,Nat.shiftLeft_eq,BitVec.toNat_ofInt]
 norm_cast
theorem A4 {t u:TypeId} {x y:Operand} {a:BitVec w} {c:Int} {Bo:IntKind} (ho:o.op= .binOp .shr t x y u) (hx:aB S x= .d (.val (.int kd (a.toNat:Int)))) (hy:aB S y= .d (.val (.int Bo c))) (h:0≤c) (hk:k (.d (.val (.int kd ((oJ a c).toNat:Int)))) H nx [] []):aR P eB o ⟨S,H,nx,df⟩ k:=by
 have hb:=Wk.bits (kd:=kd)
 subst hb
 refine gr ho hx hy rfl h ?_ hk
 show PV.d (.val (.int kd ((a.toNat:Int).fdiv (2 ^ (min c.toNat kd.bits)))))=_
 rw [oJ,BitVec.toNat_ushiftRight,Nat.shiftRight_eq_div_pow,Int.fdiv_eq_ediv_of_nonneg _ (by exact Int.le_of_lt (Int.pow_pos (by decide)))]
 norm_cast
theorem wY {t u:TypeId} {x:Operand} {Bo:IntKind} {n:Int} (ho:o.op= .convert t u x) (ht:P.underlying t=some (.int Bo)) (hu:P.underlying u=some (.int kd)) (hx:aB S x= .d (.val (.int Bo n))) (hk:k (.d (.val (.int kd ((BitVec.ofInt w n).toNat:Int)))) H nx [] []):aR P eB o ⟨S,H,nx,df⟩ k:=by
 unfold aR;rw [ho]
 simp only [jD,uk,ht,hu,hx]
 refine ⟨trivial,?_⟩
 rw [Wk.wrap (kd:=kd)];exact hk
theorem Qs {t:TypeId} {x:Operand} {a:BitVec w} (ho:o.op= .unOp .xor t x) (hx:aB S x= .d (.val (.int kd (a.toNat:Int)))) (hs:kd.signed=false) (hm:BitVec.ofInt w kd.max=BitVec.allOnes w) (hk:k (.d (.val (.int kd ((~~~a).toNat:Int)))) H nx [] []):aR P eB o ⟨S,H,nx,df⟩ k:=by
 have hb:=Wk.bits (kd:=kd)
 subst hb
 unfold aR;rw [ho]
 simp only [jD,un,hx,hs,Bool.false_eq_true,if_false]
 refine ⟨trivial,?_⟩
 rw [hm,iZ,BitVec.allOnes_xor,Wk.wrap (kd:=kd),iZ];exact hk
end
end Go.Proofs.YtlfjfoknbjcncaaGreat.K
namespace Go.Proofs.YtlfjfoknbjcncaaGreat.K
open Go Go.RowKit
set_option linter.unusedVariables false
set_option linter.unusedSimpArgs false
set_option linter.unusedSectionVars false
variable {P:Program}
end Go.Proofs.YtlfjfoknbjcncaaGreat.K
namespace Go.Proofs.YtlfjfoknbjcncaaGreat.K
open Go Go.RowKit
set_option linter.unusedVariables false
set_option linter.unusedSimpArgs false
set_option linter.unusedSectionVars false
variable {P:Program}
section
variable {n:Nat} {α:Type} {en:α→D}
theorem sX {a:aE n α} {i:Int} {x:α} (h:0≤i∧i<(n:Int)):lX ((a.1.map en).map PV.d) (i.toNat*1) [PV.d (en x)]=((a.put i x).1.map en).map PV.d:=by
 have:=rI (en:=en) (a:=a) (x:=x) h
 rwa [Nat.zero_add] at this
theorem yS {l:List PV} {i:Int} {m tot:Nat} (h:0≤i∧i<(n:Int)) (hl:l.length=tot) (hm:m+n≤tot):m+i.toNat*1+1≤l.length:=by omega
end
end Go.Proofs.YtlfjfoknbjcncaaGreat.K
namespace Go.Proofs.YtlfjfoknbjcncaaGreat.K
open Go Go.RowKit
set_option linter.unusedVariables false
set_option linter.unusedSimpArgs false
set_option linter.unusedSectionVars false
variable {P:Program}
theorem GB {f:Nat→Nat} {H:HM}:∀ (M:List HO) (j k:Nat) (x:HO),wR f H M j→M[k]? =some x→H (f (j+k))=some (x.re f)
 | [],_,_,_,_,h=>by simp at h
 | y::r,j,0,x,h,e=>by simp only [List.getElem?_cons_zero,Option.some.injEq] at e;subst e;exact h.1
 | y::r,j,k+1,x,h,e=>by
  have:=GB r (j+1) k x h.2 (by simpa using e)
  rwa [show j+1+k=j+(k+1) by omega] at this
theorem Ji {f:Nat→Nat} {H Hr:HM}:∀ (M:List HO) (j:Nat),(∀ k,k<M.length→Hr (f (j+k))=H (f (j+k)))→wR f H M j→wR f Hr M j
 | [],_,_,_=>trivial
 | y::r,j,hh,h=>⟨by have:=hh 0 (by simp);rw [Nat.add_zero] at this;rw [this];exact h.1,Ji r (j+1) (fun k hk=>by have:=hh (k+1) (by simpa using hk);rwa [show j+(k+1)=j+1+k by omega] at this) h.2⟩
theorem ES {n:Nat}:∀ (M:List HO) (k:Nat) (x:HO),HO.bf n M=true→M[k]? =some x→x.bK n=true
 | [],_,_,_,h=>by simp at h
 | y::r,0,x,h,e=>by
  simp only [List.getElem?_cons_zero,Option.some.injEq] at e;subst e
  simp only [HO.bf,Bool.and_eq_true] at h;exact h.1
 | y::r,k+1,x,h,e=>by
  simp only [HO.bf,Bool.and_eq_true] at h
  exact ES r k x h.2 (by simpa using e)
theorem C9 {f:Nat→Nat} {H Hr:HM} {i:Nat} (h:H i=Hr i):∀ (M:List HO) (k:Nat),fD f M k H i=fD f M k Hr i
 | [],_=>h
 | x::r,k=>by
  simp only [fD,cE]
  split
  ·rfl
  ·exact C9 h r (k+1)
theorem Ky {H:HM} {nx:Nat} {f:Nat} {args:List PV} {M M':List HO} {p:PV} (F:List Nat) (hS:Spec P f args (aj M) M.length (kF (.ret p) (aj M') M'.length))
  (hF:F.length=M.length) (hd:F.Nodup) (hH:wR (iI F nx) H M 0) (hle:M.length≤M'.length) (Fp:∀ i∈F,i<nx) (hb:HO.bf nx (M.map (HO.re (iI F nx)))=true) (hab:PV.bf nx (PV.res (iI F nx) args)=true) (hn:∀ i,nx≤i→H i=none)
  {m:Mem} {ρ:cZ} {w:World} {vs:List Value} (V:dS (· ∈F) m ρ w H) (hf:∀ i,nx≤i→i<nx+(M'.length-M.length)→ρ i=none) (hr:bM m ρ (PV.res (iI F nx) args) vs):
  Calls P f ⟨vs⟩ w fun e w'=>∃ m' ρ',xX (· ∈F) nx (nx+(M'.length-M.length)) m ρ w H m' ρ' w' (fD (jA F M.length nx) M' 0 H)∧∃ v,e= .returned v∧aM m' ρ' (p.re (jA F M.length nx)) v:=by
 let Qu:cZ:=fun i=>if i<nx then ρ i else none
 let Hr:HM:=fun i=>if i∈F then H i else none
 have hrl:∀ i,i<nx→Qu i=ρ i:=fun i hi=>by show (if _ then _ else _)=_;rw [if_pos hi]
 have hrn:∀ i,nx≤i→Qu i=none:=fun i hi=>by show (if _ then _ else _)=_;rw [if_neg (by omega)]
 have Qv:∀ i,i∈F→Hr i=H i:=fun i hi=>by show (if _ then _ else _)=_;rw [if_pos hi]
 have UR:∀ i,Hr i≠none→i∈F:=fun i hi=>by
  by_cases h:i∈F
  ·exact h
  ·exact absurd (show (if _ then _ else _)=_ by rw [if_neg h]) hi
 have hfk:∀ k,k<M.length→iI F nx k∈F:=by
  intro k hk
  unfold iI
  rw [List.getD_eq_getElem?_getD,List.getElem?_eq_getElem (by omega)]
  exact List.getElem_mem _
 have hpos:∀ i∈F,∃ k,k<M.length∧iI F nx k=i:=by
  intro i hi
  obtain ⟨k,hk,e⟩:=List.mem_iff_getElem.1 hi
  refine ⟨k,by omega,?_⟩
  unfold iI
  rw [List.getD_eq_getElem?_getD,List.getElem?_eq_getElem hk];exact e
 have hHR:wR (iI F nx) Hr M 0:=Ji M 0 (fun k hk=>by rw [Nat.zero_add];exact Qv _ (hfk k hk)) hH
 have ent:∀ i∈F,∀ o,H i=some o→fX m Qu w i o:=by
  intro i hi o ho
  obtain ⟨k,hk,rfl⟩:=hpos i hi
  have h1:=GB M 0 k M[k] hH (List.getElem?_eq_getElem hk)
  rw [Nat.zero_add,ho] at h1
  cases h1
  have Pt:(HO.re (iI F nx) M[k]).bK nx=true:=ES _ k _ hb (by rw [List.getElem?_map,List.getElem?_eq_getElem hk];rfl)
  have hE:=V.entry _ _ hi ho
  generalize HO.re (iI F nx) M[k]=o at*
  have hl:=hrl _ (Fp _ hi)
  cases o with
  | var l=>
   simp only [fX] at hE ⊢
   rcases hE with ⟨e0,e⟩ | ⟨b,c,vs,tail,t,e1,e2,e3,e4⟩
   ·exact .inl ⟨e0,by rw [hl];exact e⟩
   exact .inr ⟨b,c,vs,tail,t,by rw [hl];exact e1,e2,bM.bK hrl l vs Pt e3,e4⟩
  | spare sz n=>
   simp only [fX] at hE ⊢
   rw [hl];exact hE
  | dead=>exact hE.elim
  | Bm sz l=>
   simp only [fX] at hE ⊢
   rcases hE with ⟨e0,e⟩ | ⟨b,c,vs,tail,t,e1,e2,e3,e4⟩
   ·exact .inl ⟨e0,by rw [hl];exact e⟩
   exact .inr ⟨b,c,vs,tail,t,by rw [hl];exact e1,e2,bM.bK hrl l vs Pt e3,e4⟩
 have Vr:dS (fun _=>True) m Qu w Hr:=by
  refine ⟨V.mem,fun i o _ ho=>?_,fun i j b c c' _ _ hi hj fl jd=>?_⟩
  ·have hi:=UR i (by rw [ho];simp)
   exact ent i hi o (by rw [← Qv i hi];exact ho)
  ·have h1:=UR i hi
   have h2:=UR j hj
   rw [hrl i (Fp i h1)] at fl
   rw [hrl j (Fp j h2)] at jd
   exact V.apart i j b c c' h1 h2 (by rw [← Qv i h1];exact hi) (by rw [← Qv j h2];exact hj) fl jd
 have Y2:∀ i,nx≤i→Hr i=none:=fun i hi=>by
  by_cases h:i∈F
  ·have:=Fp i h;omega
  ·show (if _ then _ else _)=_;rw [if_neg h]
 refine (z8 F hS hF hd hHR hle m Qu w vs Vr Y2 hrn (bM.bK hrl _ _ hab hr)).mono ?_
 rintro e w' ⟨m',ρ',V',hn',Gv,hA,v,rfl,hv⟩
 let cC:=nx+(M'.length-M.length)
 let jO:cZ:=fun i=>if i<cC then ρ' i else ρ i
 have Qw:∀ i,i<cC→jO i=ρ' i:=fun i hi=>by show (if _ then _ else _)=_;rw [if_pos hi]
 have Y3:∀ i,cC≤i→jO i=ρ i:=fun i hi=>by show (if _ then _ else _)=_;rw [if_neg (by omega)]
 have LB:ρ'.le jO:=fun i x hx=>by
  rcases Nat.lt_or_ge i cC with h | h
  ·rw [Qw i h];exact hx
  ·rw [Gv i h] at hx;cases hx
 have hnx:nx≤cC:=Nat.le_add_right _ _
 have hold:∀ i,i<nx→jO i=ρ i:=fun i hi=>by rw [Qw i (by omega),hA.old i hi,hrl i hi]
 have hsame:∀ i,(i∈F∨(nx≤i∧i<cC))→fD (jA F M.length nx) M' 0 H i=fD (jA F M.length nx) M' 0 Hr i:=by
  intro i hi
  refine C9 ?_ M' 0
  rcases hi with hi | hi
  ·exact (Qv i hi).symm
  ·rw [hn i hi.1,Y2 i hi.1]
 have hlt:∀ i,(i∈F∨(nx≤i∧i<cC))→i<cC:=fun i hi=>hi.elim (fun h=>by have:=Fp i h;omega) (fun h=>h.2)
 have Qn:∀ b,vh Qu Hr (fun _=>True) b→vh ρ H (· ∈F) b:=by
  rintro b ⟨i,c,_,hl,fl⟩
  have hi:=UR i hl
  exact ⟨i,c,hi,by rw [← Qv i hi];exact hl,by rw [← hrl i (Fp i hi)];exact fl⟩
 refine ⟨m',jO,⟨hA.ext.mono Qn,fun i x hx=>?_,fun i=>?_,⟨V'.mem,fun i o hi ho=>?_,fun i j b c c' hi hj P1 Y4 fl jd=>?_⟩,?_⟩,v,rfl,hv.mono (Mem.le_refl _) LB⟩
 ·rcases Nat.lt_or_ge i nx with h | h
  ·rw [hold i h];exact hx
  ·rcases Nat.lt_or_ge i cC with h' | h'
   ·rw [hf i h h'] at hx;cases hx
   ·rw [Y3 i h'];exact hx
 ·rcases Nat.lt_or_ge i nx with h | h
  ·exact .inl (hold i h)
  ·rcases Nat.lt_or_ge i cC with h' | h'
   ·exact .inr ⟨h,h'⟩
   ·exact .inl (Y3 i h')
 ·rw [hsame i hi] at ho
  exact (V'.entry i o trivial ho).move (Mem.le_refl _) LB (Qw i (hlt i hi)) (fun _ _ _=>rfl) (fun _ _ _ _ _ h=>h)
 ·rw [hsame i hi] at P1
  rw [hsame j hj] at Y4
  rw [Qw i (hlt i hi)] at fl
  rw [Qw j (hlt j hj)] at jd
  exact V'.apart i j b c c' trivial trivial P1 Y4 fl jd
 ·rintro b ⟨i,c,hi,hl,fl⟩
  rw [hsame i hi] at hl
  rw [Qw i (hlt i hi)] at fl
  exact (hA.place b ⟨i,c,trivial,hl,fl⟩).imp (Qn b) id
section
variable {o:Oper} {S:Nat→PV} {H:HM} {nx:Nat} {df:List (Nat×List PV)} {k:PV→HM→Nat→List Nat→List Nat→Prop}
theorem D7 {f:Nat→Nat} {H:HM} {i:Nat}:∀ (M:List HO) (k:Nat),(∀ j,j<M.length→i≠f (k+j))→fD f M k H i=H i
 | [],_,_=>rfl
 | x::r,k,h=>by
  have h0:i≠f k:=by have:=h 0 (by simp);rwa [Nat.add_zero] at this
  simp only [fD,cE,h0,if_false]
  exact D7 r (k+1) fun j hj=>by have:=h (j+1) (by simpa using hj);rwa [show k+(j+1)=k+1+j by omega] at this
theorem Kz {M M':List HO} {F:List Nat} (hF:F.length=M.length) (hle:M.length≤M'.length) (hn:∀ i,nx≤i→H i=none) (Fp:∀ i∈F,i<nx):
  (∀ i,i∉F→i<nx→fD (jA F M.length nx) M' 0 H i=H i)∧∀ i,nx+(M'.length-M.length)≤i→fD (jA F M.length nx) M' 0 H i=none:=by
 have fin:∀ j,j<M.length→jA F M.length nx j∈F:=by
  intro j hj
  unfold jA
  rw [if_pos hj,List.getD_eq_getElem?_getD,List.getElem?_eq_getElem (by omega)]
  exact List.getElem_mem _
 have WU:∀ j,¬ j<M.length→jA F M.length nx j=nx+(j-M.length):=fun j hj=>by unfold jA;rw [if_neg hj]
 refine ⟨fun i hi hlt=>D7 M' 0 fun j hj e=>?_,fun i hi=>?_⟩
 ·rw [Nat.zero_add] at e
  by_cases h:j<M.length
  ·exact hi (e▸fin j h)
  ·rw [WU j h] at e;omega
 ·rw [D7 M' 0 fun j hj e=>?_,hn i (by omega)]
  rw [Nat.zero_add] at e
  by_cases h:j<M.length
  ·have:=Fp _ (fin j h);omega
  ·rw [WU j h] at e;omega
theorem Qx {c:Call} {f:Nat} {args:List PV} {M M':List HO} {p q:PV} {H2:HM} {lF:Nat} (F:List Nat) (ho:o.op= .call c) (hc:c.callee= .value (.func f)) (he:aN P f=true) (hS:Spec P f args (aj M) M.length (kF (.ret p) (aj M') M'.length))
  (ha:c.args.toList.map (aB S)=PV.res (iI F nx) args) (hF:F.length=M.length) (hd:F.Nodup) (hH:wR (iI F nx) H M 0) (hle:M.length≤M'.length) (Fp:∀ i∈F,i<nx) (hb:HO.bf nx (M.map (HO.re (iI F nx)))=true) (hab:PV.bf nx (PV.res (iI F nx) args)=true)
  (hq:p.re (jA F M.length nx)=q) (h2:fD (jA F M.length nx) M' 0 H=H2) (hn2:nx+(M'.length-M.length)=lF) (hk:k q H2 lF F F):sW P o ⟨S,H,nx,df⟩ k:=by
 intro hn
 subst hq h2 hn2
 obtain ⟨f1,f2⟩:=Kz (M':=M') hF hle hn Fp
 refine ⟨_,_,_,_,_,⟨Nat.le_add_right _ _,f1,f2,fun i hi=>hi,Fp,?_⟩,hk⟩
 intro m ρ a w K Q V hf hx hK
 have hx':∀ x∈c.args.toList,aM m ρ (aB S x) (a.eval x):=fun x hx'=>hx x (by simp only [ho,Op.operands,Call.operands];simp only [Array.mem_append];exact .inr (by simpa using hx'))
 unfold Oper.wp
 rw [oF ho hc he,Oper.upon_enter]
 have hr:=oB (s:=⟨S,H,nx,df⟩) c.args.toList hx'
 have hr':bM m ρ (PV.res (iI F nx) args) (c.args.toList.map a.eval):=ha▸hr
 have:=Ky F hS hF hd hH hle Fp hb hab hn V hf hr'
 have e:(⟨c.args.toList.map a.eval⟩:Array Value)=c.args.map a.eval:=by apply Array.ext';simp
 rw [e] at this
 refine this.mono ?_
 rintro e w' ⟨m',ρ',hD,v,rfl,hv⟩
 exact hK v m' ρ' w' hD hv
end
end Go.Proofs.YtlfjfoknbjcncaaGreat.K
namespace Go.Proofs.YtlfjfoknbjcncaaGreat.K
open Go Go.RowKit
set_option linter.unusedVariables false
set_option linter.unusedSimpArgs false
set_option linter.unusedSectionVars false
variable {P:Program}
section
variable {o:Oper} {S:Nat→PV} {H:HM} {nx:Nat} {df:List (Nat×List PV)} {eB:List Nat} {k:PV→HM→Nat→List Nat→List Nat→Prop}
theorem Aa {l0:List D} {t u e:TypeId} {x y:Operand} {z:Bool} {l:List D} (ho:o.op= .binOp .eql t x y u) (ht:P.underlying t=some (.pointer e)) (hx:aB S x= .d (.l5 z l)) (hy:aB S y= .d (.l5 true l0)) (hk:k (.d (.val (.bool z))) H nx [] []):aR P eB o ⟨S,H,nx,df⟩ k:=by
 unfold aR;rw [ho]
 simp only [isEq,zy,hx,hy,Bool.and_false,Bool.false_eq_true,if_false,vo,x4,ht];exact ⟨trivial,hk⟩
theorem GC {l0:List D} {t u e:TypeId} {x y:Operand} {z:Bool} {l:List D} (ho:o.op= .binOp .neq t x y u) (ht:P.underlying t=some (.pointer e)) (hx:aB S x= .d (.l5 z l)) (hy:aB S y= .d (.l5 true l0)) (hk:k (.d (.val (.bool (!z)))) H nx [] []):aR P eB o ⟨S,H,nx,df⟩ k:=by
 unfold aR;rw [ho]
 simp only [isEq,zy,hx,hy,Bool.and_false,Bool.false_eq_true,if_false,vo,x4,ht];exact ⟨trivial,hk⟩
theorem SE {n:Nat} {a:aE n UInt8} {p q:Int} (h:0≤p∧p≤q∧q≤(n:Int)):(((a.1.map U).map PV.d).drop (0+p.toNat)).take (q-p).toNat=((sub a.1 p q).map U).map .d:=by
 unfold sub
 rw [Nat.zero_add, ← List.map_drop, ← List.map_drop, ← List.map_take, ← List.map_take]
theorem Qy {n:Nat} {a:aE n UInt8} {p q:Int} (h:0≤p∧p≤q∧q≤(n:Int)):(sub a.1 p q).length=(q-p).toNat:=by
 unfold sub
 rw [List.length_take,List.length_drop,a.2];omega
end
end Go.Proofs.YtlfjfoknbjcncaaGreat.K
namespace Go.Proofs.YtlfjfoknbjcncaaGreat.K
open Go Go.RowKit
set_option linter.unusedVariables false
set_option linter.unusedSimpArgs false
set_option linter.unusedSectionVars false
variable {P:Program}
theorem Da {n:Nat} {α:Type} {en:α→D} {a:aE n α} {i:Int} {p:PV} (h:0≤i∧i<(n:Int)):i.toNat*1+[p].length≤((a.1.map en).map PV.d).length:=by simp only [List.length_map,a.2,List.length_singleton];omega
section
variable {N:Nat} {ops:Array Oper} {o:Oper} {r:List Oper} {S:Nat→PV} {H:HM} {nx:Nat} {df:List (Nat×List PV)}
theorem XK.nt {Q:PX→St→Prop} {t e u:TypeId} {x:Operand} {α:Type} {en:α→D} {l:List α} (d:Option Nat) (hd:o.dst=d) (hg:o.guard=none) (ho:o.op= .binOp .eql t x (.const (.slice none 0 0)) u) (hu:P.underlying t=some (.slice e)) (hx:aB S x= .d (.slice (l.map en)))
  (h0:l=[]→XK P ops r ⟨fj S d (.d (.val (.bool true))),H,nx,df⟩ Q) (h1:XK P ops r ⟨fj S d (.d (.val (.bool false))),H,nx,df⟩ Q):XK P ops (o::r) ⟨S,H,nx,df⟩ Q:=by
 subst hd
 refine XK.Si (s:=⟨S,H,nx,df⟩) hg ho (.inl rfl) hu hx fun b hb=>?_
 cases b with
 | true=>exact h0 (by cases l with | nil=>rfl | cons y ys=>simp at hb)
 | false=>exact h1
end
end Go.Proofs.YtlfjfoknbjcncaaGreat.K
namespace Go.Proofs.YtlfjfoknbjcncaaGreat.K
open Go Go.RowKit
set_option linter.unusedVariables false
theorem US {k:IntKind} {l:List D} (h:kD (.int k) l):∃ n:Int,l=[.val (.int k n)]:=by
 simp only [kD] at h
 obtain ⟨n,rfl,_⟩:=h
 exact ⟨n,rfl⟩
theorem UT {l:List D} (h:kD .str l):∃ s:List UInt8,s.length≤maxLen∧l=[.val (sV s)]:=by
 simp only [kD] at h
 obtain ⟨⟨⟨s⟩⟩,rfl,hs⟩:=h
 exact ⟨s,hs,rfl⟩
theorem UU {α:Type} {e:Ty} {f:α→D} (one:∀ c,kD e c→∃ a,c=[f a]) {n:Nat} {l:List D} (h:kD (.arr n e) l):∃ a:aE n α,l=a.1.map f:=by
 simp only [kD] at h
 obtain ⟨ls,h1,rfl,h2⟩:=h
 have:∀ ls:List (List D),(∀ c∈ls,kD e c)→∃ as:List α,as.length=ls.length∧ls.flatten=as.map f:=by
  intro ls
  induction ls with
  | nil=>intro _;exact ⟨[],rfl,rfl⟩
  | cons c r ih=>
   intro h
   obtain ⟨a,e1⟩:=one c (h c (List.mem_cons_self ..))
   obtain ⟨as,e2,e3⟩:=ih fun x hx=>h x (List.mem_cons_of_mem _ hx)
   exact ⟨a::as,by simp [e2],by simp [e1,e3]⟩
 obtain ⟨as,e1,e2⟩:=this ls h2
 exact ⟨⟨as,by omega⟩,e2⟩
theorem Z9 {α:Type} {e:Ty} {f:α→D} (he:e.isAgg=false) (one:∀ c,kD e c→∃ a,c=[f a]) {l:List D} (h:kD (.slice e) l):∃ xs:List α,xs.length≤maxLen∧l=[.slice (xs.map f)]:=by
 simp only [kD] at h
 obtain ⟨xs,rfl,h1,h2⟩:=h
 obtain ⟨as,h3,rfl⟩:=Gh (e:=e) (f:=f) (fun x hx ha=>by
  obtain ⟨a,e1⟩:=one _ hx
  rw [he] at ha
  exact ⟨a,Lo e1 ha⟩) (xs:=xs) h2
 exact ⟨as,by omega,rfl⟩
theorem UW {α:Type} {e:Ty} {c:α→List D} {f:α→D} (he:e.isAgg=true) (hf:∀ a,f a= .agg (c a)) (one:∀ l,kD e l→∃ a,l=c a) {l:List D} (h:kD (.slice e) l):∃ xs:List α,xs.length≤maxLen∧l=[.slice (xs.map f)]:=by
 simp only [kD] at h
 obtain ⟨xs,rfl,h1,h2⟩:=h
 obtain ⟨as,h3,rfl⟩:=Gh (e:=e) (f:=f) (fun x hx ha=>by
  obtain ⟨a,e1⟩:=one _ hx
  have:∃ c,x= .agg c:=ha▸he
  obtain ⟨c',rfl⟩:=this
  exact ⟨a,by rw [hf];simp only [D.cells] at e1;rw [e1]⟩) (xs:=xs) h2
 exact ⟨as,by omega,rfl⟩
end Go.Proofs.YtlfjfoknbjcncaaGreat.K
namespace Go.Proofs.YtlfjfoknbjcncaaGreat.K
open Go Go.RowKit
set_option linter.unusedVariables false
set_option linter.unusedSimpArgs false
set_option linter.unusedSectionVars false
variable {P:Program}
def bB (l:List D):List PV:=(l.flatMap D.cells).map PV.d
theorem Jj (a b:List D):bB (a++b)=bB a++bB b:=by simp [bB]
section
variable {α:Type} {en:α→D} {c:α→List D} {sz:Nat}
theorem u6 (hl:rF en c sz):∀ l:List α,(bB (l.map en)).length=l.length*sz
 | []=>by simp [bB]
 | x::r=>by
  have:=u6 hl r
  have e:bB ((x::r).map en)=(c x).map PV.d++bB (r.map en):=by simp [bB,hl.cells]
  rw [e,List.length_append,List.length_map,hl.len,this,List.length_cons,Nat.succ_mul,Nat.add_comm]
theorem Ab [Inhabited α] (hl:rF en c sz) (l:List α) {i:Nat} (h:i<l.length):bB (l.map en)=bB ((l.take i).map en)++((c (idx l (i:Int))).map PV.d++bB ((l.drop (i+1)).map en)):=by
 have e:l=l.take i++(l[i]::l.drop (i+1)):=by rw [← List.drop_eq_getElem_cons h,List.take_append_drop]
 have e2:idx l (i:Int)=l[i]:=by simp [idx,List.getD_eq_getElem?_getD,List.getElem?_eq_getElem h]
 conv=>lhs;rw [e]
 rw [e2,List.map_append,Jj,List.map_cons]
 congr 1
 simp [bB,hl.cells]
theorem Qz [Inhabited α] (hl:rF en (fun x=>[en x]) 1) {l:List α} {i:Int} (h:0≤i∧i<(l.length:Int)):D0 false 1 (0+i.toNat*1) (bB (l.map en)) (.d (en (idx l i))):=by
 obtain ⟨n,rfl⟩:∃ n:Nat,i=(n:Int):=⟨i.toNat,by omega⟩
 have hn:n<l.length:=by omega
 rw [Ab hl l hn,Nat.zero_add,Int.toNat_natCast]
 have h1:(bB ((l.take n).map en)).length=n*1:=by rw [u6 hl,List.length_take,Nat.min_eq_left (by omega)]
 have:=UO (n*1) 0 h1 (Je (R:=bB ((l.drop (n+1)).map en)) (show D0 false 1 0 ([en (idx l (n:Int))].map PV.d) (.d (en (idx l (n:Int)))) from ⟨⟨by simp,by simp⟩,rfl⟩))
 simpa using this
theorem SF [Inhabited α] (hl:rF en c sz) {l:List α} {i:Int} {x:α} (h:0≤i∧i<(l.length:Int)):lX (bB (l.map en)) (0+i.toNat*sz) ((c x).map .d)=bB ((l.set i.toNat x).map en):=by
 obtain ⟨n,rfl⟩:∃ n:Nat,i=(n:Int):=⟨i.toNat,by omega⟩
 have hn:n<l.length:=by omega
 have hn2:n<(l.set n x).length:=by rw [List.length_set];exact hn
 rw [Int.toNat_natCast,Ab hl l hn,Ab hl (l.set n x) hn2,Nat.zero_add]
 have e1:(l.set n x).take n=l.take n:=by rw [List.take_set_of_le (Nat.le_refl _)]
 have e2:(l.set n x).drop (n+1)=l.drop (n+1):=by rw [List.drop_set_of_lt (by omega)]
 have e3:idx (l.set n x) (n:Int)=x:=by simp [idx,List.getD_eq_getElem?_getD,hn]
 rw [e1,e2,e3]
 have h1:(bB ((l.take n).map en)).length=n*sz:=by rw [u6 hl,List.length_take,Nat.min_eq_left (by omega)]
 have:=ql (n*sz) 0 h1 (GA (A:=(c (idx l (n:Int))).map PV.d) (R:=bB ((l.drop (n+1)).map en)) (c:=(c x).map PV.d) (m:=sz) (by rw [List.length_map,hl.len]) (by rw [List.length_map,hl.len]))
 simpa using this
theorem UX (hl:rF en c sz) {l:List α} {i:Int} (h:0≤i∧i<(l.length:Int)):0+i.toNat*sz+sz≤(bB (l.map en)).length:=by
 rw [u6 hl,Nat.zero_add, ← Nat.succ_mul]
 exact Nat.mul_le_mul_right _ (by omega)
theorem LM (hl:rF en c sz) (l:List α) (n:Nat) (h:n≤l.length):(bB (l.map en)).take (0+n*sz)=bB ((l.take n).map en):=by
 have h1:(bB ((l.take n).map en)).length=0+n*sz:=by rw [u6 hl,List.length_take,Nat.min_eq_left h,Nat.zero_add]
 conv=>lhs;rw [← List.take_append_drop n l]
 rw [List.map_append,Jj,List.take_left' h1]
end
section
variable {o:Oper} {S:Nat→PV} {H:HM} {nx:Nat} {df:List (Nat×List PV)} {k:PV→HM→Nat→List Nat→List Nat→Prop}
theorem SG {t e:TypeId} {x:Operand} {id off n:Nat} (ho:o.op= .call {callee:= .builtin .len,args:= #[x],argTypes:= #[t]}) (ht:P.underlying t=some (.slice e)) (hx:aB S x= .gA id off n) (hk:k (.d (.val (.int .i64 (n:Int)))) H nx [] []):sW P o ⟨S,H,nx,df⟩ k:=by
 refine C8 (v:= .d (.val (.int .i64 (n:Int)))) ?_ iy.refl hk
 refine bp.still fun m ρ a w hm hx'=>?_
 have e1:=hx' x (by simp [ho,Op.operands,Call.operands])
 obtain ⟨dst,op',type,pos,after,guard⟩:=o
 simp only at ho
 subst ho
 rw [hx] at e1
 simp only [aM] at e1
 refine ⟨.int .i64 n,?_,by simp [aM,bh]⟩
 rcases e1 with ⟨b,c,kk,_,ev,_⟩ | ⟨h0,ad,kk,ev⟩
 ·simp [execOp,resolve,invoke,builtin,Builtin.len_,run_underlying ht,ev,goInt]
 ·subst h0
  simp [execOp,resolve,invoke,builtin,Builtin.len_,run_underlying ht,ev,goInt]
theorem Pu {t:TypeId} {x:Operand} {lo hi:Option Operand} {id off n sz je:Nat} {ag:Bool} {p q:Int} (ho:o.op= .slice t x lo hi none) (hs:l6 P t=some (sz,je,ag)) (hx:aB S x= .gA id off n)
  (hl:oz 0 (lo.map (aB S))=some p) (hh:oz n (hi.map (aB S))=some q) (h:0≤p∧p≤q∧q≤(n:Int)) (hk:k (.gA id (off+p.toNat*sz) (q-p).toNat) H nx [] []):sW P o ⟨S,H,nx,df⟩ k:=by
 refine C8 (v:= .gA id (off+p.toNat*sz) (q-p).toNat) ?_ iy.refl hk
 obtain ⟨h0,h1,h2⟩:=h
 refine bp.still fun m ρ a w hm hx'=>?_
 have e1:=hx' x (by simp [ho,Op.operands])
 have e2:∀ y,lo=some y→aM m ρ (aB S y) (a.eval y):=fun y hy=>hx' y (by simp [ho,hy,Op.operands])
 have e3:∀ y,hi=some y→aM m ρ (aB S y) (a.eval y):=fun y hy=>hx' y (by simp [ho,hy,Op.operands])
 obtain ⟨dst,op',type,pos,after,guard⟩:=o
 simp only at ho
 subst ho
 rw [hx] at e1
 simp only [aM] at e1
 obtain ⟨et,inf,hu,ht,hi',_,_⟩:=vl hs
 have hsz:=(iX ht w).2
 have e:(q-p).toNat=q.toNat-p.toNat:=by omega
 rw [e]
 have gen:∀ (ad:Option Addr) (kk:Nat),a.eval x= .slice ad n kk→n≤kk→(execOp a.eval ⟨dst, .slice t x lo hi none,type,pos,after,guard⟩).run P w= .ok (.value (.slice (if kk=p.toNat then ad else ad.map (·.add (p.toNat*sz))) (q.toNat-p.toNat) (kk-p.toNat))) w:=by
  intro ad kk ev hk
  have hb:=tH (P:=P) (w:=w) (IU:=true) (cap:=kk) hl hh e2 e3 h0 h1 h2 hk
  simp [execOp,Instr.sliceAt,run_underlying hu,Instr.slice,ev,hb,hsz]
 rcases e1 with ⟨b,c,kk,hr,ev,hkk⟩ | ⟨hn0,ad,kk,ev⟩
 ·refine ⟨_,gen _ _ ev hkk,?_⟩
  simp only [aM]
  by_cases e:kk=p.toNat
  ·exact .inr ⟨by omega,_,_,by rw [show q.toNat-p.toNat=0 by omega]⟩
  ·exact .inl ⟨b,c,kk-p.toNat,hr,by simp [e,iY],by omega⟩
 ·subst hn0
  refine ⟨_,gen ad kk ev (Nat.zero_le _),?_⟩
  simp only [aM]
  exact .inr ⟨by omega,_,_,by rw [show q.toNat-p.toNat=0 by omega]⟩
def SH (P:Program) (t:TypeId):Bool:=match P.underlying t with
 | some (.slice e)=>(match lG P e with | some l=>l.all Value.oneCell' | none=>false)
 | _=>false
theorem QA {t:TypeId} {x:Operand} {id off n sz je:Nat} {l l':List PV} (ho:o.op= .call {callee:= .builtin .clear,args:= #[x],argTypes:= #[t]}) (ht:oE P t=some (sz,je)) (Nq:SH P t=true) (hx:aB S x= .gA id off n) (hH:H id=some (.var l))
  (hf:off+n*sz≤l.length) (hl':l.take off=l') (hk:k .dJ (cE H id (some (.var l'))) nx [id] [id]):sW P o ⟨S,H,nx,df⟩ k:=by
 intro gP
 subst hl'
 have hid:id<nx:=SC (s:=⟨S,H,nx,df⟩) gP hH
 refine ⟨_,_,_,_,_,⟨Nat.le_refl _,fun i hi _=>by simp at hi;simp [cE,hi],fun i hi=>by
  have:i≠id:=by have:nx≤i:=hi;omega
  simp [cE,this];exact gP i hi,by simp,by simpa using hid,?_⟩,hk⟩
 intro m ρ a w K Q V hf' hxs hK
 have h1:=hxs x (by simp [ho,Op.operands,Call.operands])
 rw [show aB ({S:=S,H:=H,nx:=nx,df:=df}:St).S x=_ from hx] at h1
 simp only [aM] at h1
 obtain ⟨e,i,z,zZ,hi,hz,hzs,h0,hsz,hby⟩:=sP ht
 have hE:=V.entry id _ (by simp) hH
 have Cb:∀ (base:Option Addr) (kk:Nat) (w':World),a.eval x= .slice base n kk→(match base with | some ad=>(if n=0 then w'=w else (storeCells ad (Builtin.zeroCells z.cells n).toList 0).run P w= .ok () w') | none=>w'=w)→
   (execOp a.eval o).run P w= .ok (.value (.tuple #[])) w':=by
  intro base kk w' ev hst
  have hc:(Builtin.clear_ #[t] o.type #[a.eval x]).run P w= .ok (.tuple #[]) w':=by
   rw [ev]
   cases base with
   | none=>subst hst;simp [Builtin.clear_,run_underlying zZ]
   | some ad=>
    simp only at hst
    cases n with
    | zero=>simp only [if_true] at hst;subst hst;simp [Builtin.clear_,run_underlying zZ]
    | succ n=>
     simp only [Nat.succ_ne_zero,if_false] at hst
     simp [Builtin.clear_,run_underlying zZ,zeroValue,typeInfo,hi,hz,hst]
  obtain ⟨dst,op',type,pos,after,guard⟩:=o
  simp only at ho hc
  subst ho
  simp [execOp,resolve,invoke,builtin,hc]
 have same:(execOp a.eval o).run P w= .ok (.value (.tuple #[])) w→o.wp P a w K Q:=by
  intro hrun
  unfold Oper.wp
  rw [hrun,Oper.upon_value]
  refine hK _ m ρ w ⟨Ext.refl _ _ _,cZ.le_refl _,fun i=> .inl rfl,⟨V.mem,?_,?_⟩,?_⟩ (by simp [aM])
  ·intro j ob hj yM
   have hj':j=id:=by simpa using hj.elim (fun h=>h) (by omega)
   subst hj'
   simp only [cE,if_true,Option.some.injEq] at yM
   subst yM
   rcases hE with ⟨e0,e1⟩ | ⟨b',c',vs,tail,tb,hr',hb,hrl,hone,hno⟩
   ·exact .inl ⟨by rw [e0];simp,e1⟩
   ·refine .inr ⟨b',c',vs.take off,vs.drop off++tail,tb,hr',by rw [← List.append_assoc,List.take_append_drop];exact hb,oC _ hrl,fun u hu=>hone u (List.mem_of_mem_take hu),hno⟩
  ·intro j j' b1 It Xd hj hj' _ _ _ _
   have e1:j=id:=by simpa using hj.elim (fun h=>h) (by omega)
   have e2:j'=id:=by simpa using hj'.elim (fun h=>h) (by omega)
   rw [e1,e2]
  ·rintro b1 ⟨j,It,hj,_,fl⟩
   have hj':j=id:=by simpa using hj.elim (fun h=>h) (by omega)
   subst hj'
   exact .inl ⟨j,It,by simp,by rw [show ({S:=S,H:=H,nx:=nx,df:=df}:St).H j=_ from hH];simp,fl⟩
 rcases h1 with ⟨b,c,kk,hr,ev,_⟩ | ⟨P6,ad,kk,ev⟩
 ·by_cases hn0:n=0
  ·exact same (Cb _ _ w ev (by simp [hn0]))
  ·rcases hE with ⟨_,hr'⟩ | ⟨b',c',vs,tail,tb,hr',hb,hrl,hone,hno⟩
   ·rw [hr] at hr';cases hr'
   rw [hr] at hr';cases hr'
   have hvl:=nX hrl
   have hzl:(Builtin.zeroCells z.cells n).toList.length=n*sz:=by rw [Array.length_toList,size_zeroCells,hzs]
   have hz1:∀ v∈(Builtin.zeroCells z.cells n).toList,v.oneCell'=true:=by
    unfold SH at Nq
    simp only [zZ,lG,hi,hz,Option.bind_some,Option.map_some,List.all_eq_true] at Nq
    intro v hv
    simp only [Builtin.zeroCells,Array.toList_map,List.mem_map] at hv
    obtain ⟨j,_,rfl⟩:=hv
    have hlt:j%z.cells.size<z.cells.size:=Nat.mod_lt _ (by omega)
    rw [getElem!_pos z.cells _ hlt]
    exact Nq _ (Array.getElem_mem_toList hlt)
   have hst:=run_storeCells_at P b off tb (Builtin.zeroCells z.cells n).toList 0 ⟨vs++tail⟩ w hb (by simp only [List.size_toArray,List.length_append,Nat.add_zero];rw [hzl];omega) hz1
   simp only [Nat.add_zero] at hst
   let w':=w.setRow b ((vs++tail).take off++(Builtin.zeroCells z.cells n).toList++(vs++tail).drop (off+(Builtin.zeroCells z.cells n).toList.length)).toArray
   unfold Oper.wp
   rw [Cb _ _ w' ev (by simp only [hn0,if_false];exact hst),Oper.upon_value]
   have wL:∀ k,k≠b→w'.heap[k]? =w.heap[k]? :=fun k hk=>setRow_other w b k _ hk
   have EI:w'.heap[b]? =some (.cells ⟨vs.take off++((Builtin.zeroCells z.cells n).toList++(vs++tail).drop (off+(Builtin.zeroCells z.cells n).toList.length))⟩ tb (0,0)):=by
    have:=setRow_heap w b ⟨vs++tail⟩ ((vs++tail).take off++(Builtin.zeroCells z.cells n).toList++(vs++tail).drop (off+(Builtin.zeroCells z.cells n).toList.length)).toArray tb (0,0) hb
    have e1:(vs++tail).take off=vs.take off:=List.take_append_of_le_length (by omega)
    simp only [w']
    rw [e1] at this ⊢
    simpa [List.append_assoc] using this
   have hsize':w'.heap.size=w.heap.size:=by simp [w',World.setRow]
   have hmem:ga m w':=V.mem.step fun k ⟨o',v,e⟩=>wL k (fun hk=>by subst hk;rw [hno o'] at e;cases e)
   refine hK _ m ρ w' ⟨⟨Mem.le_refl _,by omega,fun k hk hnb=>wL k (fun e=>hnb (by subst e;exact ⟨id,c,by simp,by rw [show ({S:=S,H:=H,nx:=nx,df:=df}:St).H id=_ from hH];simp,hr⟩)),rfl,rfl,rfl,fun _ _ _ e=> .inl e⟩,cZ.le_refl _,fun i=> .inl rfl,⟨hmem,?_,?_⟩,?_⟩ (by simp [aM])
   ·intro j ob hj yM
    have hj':j=id:=by simpa using hj.elim (fun h=>h) (by omega)
    subst hj'
    simp only [cE,if_true,Option.some.injEq] at yM
    subst yM
    exact .inr ⟨b,c,vs.take off,_,tb,hr,EI,oC _ hrl,fun u hu=>hone u (List.mem_of_mem_take hu),hno⟩
   ·intro j j' b1 It Xd hj hj' _ _ _ _
    have e1:j=id:=by simpa using hj.elim (fun h=>h) (by omega)
    have e2:j'=id:=by simpa using hj'.elim (fun h=>h) (by omega)
    rw [e1,e2]
   ·rintro b1 ⟨j,It,hj,_,fl⟩
    have hj':j=id:=by simpa using hj.elim (fun h=>h) (by omega)
    subst hj'
    exact .inl ⟨j,It,by simp,by rw [show ({S:=S,H:=H,nx:=nx,df:=df}:St).H j=_ from hH];simp,fl⟩
 ·subst P6
  exact same (Cb ad kk w ev (by cases ad<;>simp))
theorem SI {c:Call} {f:Nat} {x:Operand} {rest:List Operand} {id n:Nat} {l ds:List D} {v:Value} (ho:o.op= .call c) (hc:c.callee= .value (.func f)) (hargs:c.args.toList=x::rest) (he:aN P f=true) (hx:aB S x= .gA id 0 n) (hH:H id=some (.var (bB l))) (hn:n=l.length)
  (hd:PV.eg (rest.map (aB S))=some ds) (hF:bE P f (.slice l::ds) (.val v)) (hk:k (.d (.val v)) H nx [id] []):sW P o ⟨S,H,nx,df⟩ k:=by
 intro gP
 refine ⟨_,_,_,_,_,⟨Nat.le_refl _,fun _ _ _=>rfl,gP,by simp,by simpa using SC gP hH,?_⟩,hk⟩
 intro m ρ a w K Q V hf hxs hK
 have h1:∀ y∈c.args.toList,aM m ρ (aB S y) (a.eval y):=fun y hy=>hxs y (by simp only [ho,Op.operands,Call.operands];simp only [Array.mem_append];exact .inr (by simpa using hy))
 have Xx:=h1 x (by rw [hargs];simp)
 rw [hx] at Xx
 simp only [aM] at Xx
 have hE:=V.entry id _ (by simp) hH
 have Xy:∀ y∈rest,aM m ρ (aB S y) (a.eval y):=fun y hy=>h1 y (by rw [hargs];simp [hy])
 have UY:c.args.toList.map a.eval=a.eval x::rest.map a.eval:=by rw [hargs];rfl
 have e0:(⟨c.args.toList.map a.eval⟩:Array Value)=c.args.map a.eval:=by apply Array.ext';simp
 have go:∀ m1:Mem,m.le m1→ga m1 w→(∀ b o' v',m1 b o'=some v'→m b o'=some v'∨b<w.heap.size)→bh m1 (.slice l) (a.eval x)→o.wp P a w K Q:=by
  intro m1 hle x7 _ sw
  have hr:ct m1 (.slice l::ds) (c.args.toList.map a.eval):=by
   rw [UY]
   simp only [ct]
   exact ⟨_,_,rfl,sw,ct.mono hle _ _ (wM Xy hd)⟩
  unfold Oper.wp
  rw [oF ho hc he,Oper.upon_enter]
  have:=hF m1 w _ x7 hr
  rw [e0] at this
  refine this.mono ?_
  rintro e w' ⟨u,m',rfl,hv,hm',SJ⟩
  simp only [bh] at hv
  subst hv
  have hsame:∀ b,b<w.heap.size→w'.heap[b]? =w.heap[b]? :=fun b hb=>SJ.block b hb (fun h=>h)
  refine hK u m ρ w' ⟨⟨Mem.le_refl _,SJ.size,fun b hb _=>hsame b hb,SJ.os,SJ.tape,SJ.output,fun _ _ _ e=> .inl e⟩,cZ.le_refl _,fun i=> .inl rfl,⟨?_,?_,?_⟩,?_⟩ (by simp [aM,bh])
  ·intro b o' v' e'
   have h2:=V.mem b o' v' e'
   refine ⟨?_,h2.2⟩
   have hb:=V.mem.lt e'
   have h3:=h2.1
   unfold World.cell? at h3 ⊢
   rw [hsame b hb];exact h3
  ·intro i ob hi Bn
   have hi':i=id:=by simpa using hi.elim (fun h=>h) (by omega)
   subst hi'
   have Y5:=V.entry i ob (by simp) Bn
   exact Y5.move (Mem.le_refl _) (cZ.le_refl _) rfl (fun b c hr=>hsame b (Y5.oy hr)) (fun _ _ _ _ _ h=>h)
  ·intro i j b c1 c2 hi hj _ _ _ _
   have e1:i=id:=by simpa using hi.elim (fun h=>h) (by omega)
   have e2:j=id:=by simpa using hj.elim (fun h=>h) (by omega)
   rw [e1,e2]
  ·rintro b ⟨i,c1,hi,hl,fl⟩
   have hi':i=id:=by simpa using hi.elim (fun h=>h) (by omega)
   subst hi'
   exact .inl ⟨i,c1,by simp,hl,fl⟩
 rcases Xx with ⟨b,cc,kk,hr,ev,hkk⟩ | ⟨h0,ad,kk,ev⟩
 ·rcases hE with ⟨_,hr'⟩ | ⟨b',c',vs,tail,tb,hr',hb,hrl,hone,hno⟩
  ·rw [hr] at hr';cases hr'
  rw [hr] at hr';cases hr'
  have hl:=bM.eg _ _ _ (wP _) hrl
  have hle:m.le (m.with b vs):=Mem.tJ hno
  have x7:ga (m.with b vs) w:=by
   refine V.mem.with (fun _ _=>rfl) (fun o' v' h=>?_) hone
   rw [hY hb,List.getElem?_append_left (List.getElem?_eq_some_iff.1 h).1];exact h
  refine go (m.with b vs) hle x7 (fun b' o' v' h=>?_) ?_
  ·unfold Mem.with at h
   split at h
   ·rename_i e;right;rw [e];exact (Array.getElem?_eq_some_iff.1 hb).1
   ·exact .inl h
  ·simp only [bh]
   exact ⟨_,kk,by rw [ev,hn],by omega, .inr ⟨b,0,rfl,kq (hl.mono hle) (fun j u hj=>by simp [Mem.with,hj])⟩⟩
 ·subst h0
  have:l=[]:=List.eq_nil_of_length_eq_zero hn.symm
  subst this
  refine go m (Mem.le_refl _) V.mem (fun _ _ _ h=> .inl h) ?_
  simp only [bh]
  exact ⟨ad,kk,by rw [ev];rfl,Nat.zero_le _, .inl trivial⟩
end
variable {N b:Nat}
theorem View.NQ {s:St} {l:List D} {n:Nat} {R:List PV} (id t:Nat) (hH:s.H id=some (.var (bB l++R))) (ht:s.S t= .gA id 0 n) (hn:n=l.length) (Lz:b≤s.nx):View N b s ⟨fj s.S (some t) (.d (.slice l)),cE s.H id none,s.nx,s.df⟩:=by
 intro m ρ a w hI
 have qv:=hI.slots t
 rw [ht] at qv
 simp only [aM] at qv
 have hE:=hI.valid.entry id _ trivial hH
 have fin:∀ m1:Mem,m.le m1→ga m1 w→(∀ x y v,m1 x y=some v→m x y=some v∨∃ c,ρ id=some (x,c))→bh m1 (.slice l) (a.tmps.getD t undef)→∃ m' ρ',Inv N ⟨fj s.S (some t) (.d (.slice l)),cE s.H id none,s.nx,s.df⟩ m' ρ' a w∧zA b m ρ w s.H s.nx m' ρ' w (cE s.H id none):=by
  intro m1 x7 hmem hnew iQ
  have mq:Inv N ⟨fj s.S (some t) (.d (.slice l)),cE s.H id none,s.nx,s.df⟩ m1 ρ a w:=by
   refine ⟨hI.size,hI.defers.mono x7 (cZ.le_refl _),fun i=>?_,⟨hmem,fun i o _ uj=>?_,fun i j b1 c1 c2 _ _ hi hj fl jd=>?_⟩,fun i hi=>?_,hI.nQ⟩
   ·show aM _ _ (fj s.S (some t) (.d (.slice l)) i) _
    rw [cu]
    split
    ·rename_i e
     subst e
     simpa only [aM] using iQ
    ·exact (hI.slots i).mono x7 (cZ.le_refl _)
   ·by_cases e:i=id
    ·subst e;simp [cE] at uj
    ·simp only [cE,e,if_false] at uj
     have hE:=hI.valid.entry i o trivial uj
     refine hE.move x7 (cZ.le_refl _) rfl (fun _ _ _=>rfl) (fun b' c' hr o' v e'=>?_)
     rcases hnew b' o' v e' with h1 | ⟨c,h1⟩
     ·exact h1
     ·exact absurd (hI.valid.apart i id b' c' c trivial trivial (by rw [uj];simp) (by rw [hH];simp) hr h1) e
   ·refine hI.valid.apart i j b1 c1 c2 trivial trivial ?_ ?_ fl jd
    ·intro e;apply hi;simp only [cE];split
     ·rfl
     ·exact e
    ·intro e;apply hj;simp only [cE];split
     ·rfl
     ·exact e
   ·simp only [cE]
    split
    ·rfl
    ·exact hI.gP i hi
  have Qn:∀ x,vh ρ (cE s.H id none) (fun _=>True) x→vh ρ s.H (fun _=>True) x:=by
   rintro x ⟨i,c,_,hl,fl⟩
   refine ⟨i,c,trivial,?_,fl⟩
   intro e
   apply hl
   simp only [cE]
   split
   ·rfl
   ·exact e
  refine ⟨m1,ρ,mq,⟨⟨x7,Nat.le_refl _,fun _ _ _=>rfl,rfl,rfl,rfl,fun x y v e=>?_⟩,fun c hc=> .inl (Qn c hc),Lz,fun _ _=>rfl⟩⟩
  rcases hnew x y v e with h2 | ⟨c,h2⟩
  ·exact .inl h2
  ·exact .inr (.inl ⟨id,c,trivial,by rw [hH];simp,h2⟩)
 rcases qv with ⟨b0,cc,kk,hr,ev,hkk⟩ | ⟨h0,ad,kk,ev⟩
 ·rcases hE with ⟨_,hr'⟩ | ⟨b',c',vs,tail,tb,hr',hb,hrl,hone,hno⟩
  ·rw [hr] at hr';cases hr'
  rw [hr] at hr';cases hr'
  have hle:m.le (m.with b0 vs):=Mem.tJ hno
  have x7:ga (m.with b0 vs) w:=by
   refine hI.valid.mem.with (fun _ _=>rfl) (fun o' v' h=>?_) hone
   rw [hY hb,List.getElem?_append_left (List.getElem?_eq_some_iff.1 h).1];exact h
  refine fin (m.with b0 vs) hle x7 (fun x y v e=>?_) ?_
  ·unfold Mem.with at e
   split at e
   ·rename_i hx;right;exact ⟨cc,by rw [hx];exact hr⟩
   ·exact .inl e
  ·have UL:bM m ρ (bB l) (vs.take (bB l).length):=by
    have:=oC (bB l).length hrl
    rwa [List.take_left' rfl] at this
   have hl:=bM.eg _ _ _ (wP _) UL
   simp only [bh]
   refine ⟨_,kk,by rw [ev,hn],by omega, .inr ⟨b0,0,rfl,kq (hl.mono hle) (fun j u hj=>?_)⟩⟩
   rw [List.getElem?_take] at hj
   split at hj
   ·simp [Mem.with,hj]
   ·cases hj
 ·subst h0
  have:l=[]:=List.eq_nil_of_length_eq_zero hn.symm
  subst this
  refine fin m (Mem.le_refl _) hI.valid.mem (fun _ _ _ e=> .inl e) ?_
  simp only [bh]
  exact ⟨ad,kk,ev,Nat.zero_le _, .inl trivial⟩
theorem Xz {s:St} {ps:List PV} {m:Mem} {ρ:cZ} {w:World} {vs rest:List Value} (T:Nat→Prop) (V:dS T m ρ w s.H) (hf:∀ i,s.nx≤i→i<s.nx+1→ρ i=none)
  (hv:bM m ρ ps vs) (h1:∀ u∈vs,u.oneCell'=true) (t:TypeId):
  xX T s.nx (s.nx+1) m ρ w s.H m (fun i=>if i=s.nx then some (w.heap.size,0) else ρ i) (w.drew.alloc (.cells ⟨vs++rest⟩ t)) (fun i=>if i=s.nx then some (.var ps) else s.H i):=by
 have hle:ρ.le (fun i=>if i=s.nx then some (w.heap.size,0) else ρ i):=by
  intro i x e
  have:i≠s.nx:=by intro h;subst h;rw [hf _ (Nat.le_refl _) (by omega)] at e;cases e
  simp [this,e]
 have hold:∀ k,k<w.heap.size→(w.drew.alloc (.cells ⟨vs++rest⟩ t)).heap[k]? =w.heap[k]? :=fun k hk=>heap_alloc_old w.drew _ hk
 have hnew:(w.drew.alloc (.cells ⟨vs++rest⟩ t)).heap[w.heap.size]? =some (.cells ⟨vs++rest⟩ t (0,0)):=heap_alloc_new w.drew _
 have hmem:ga m (w.drew.alloc (.cells ⟨vs++rest⟩ t)):=V.mem.step fun k ⟨o',v,e⟩=>hold k (V.mem.lt e)
 refine ⟨⟨Mem.le_refl _,by simp,fun b hb _=>hold b hb,rfl,rfl,rfl,fun b o v h=> .inl h⟩,hle,fun i=>?_,⟨hmem,?_,?_⟩,?_⟩
 ·by_cases h:i=s.nx
  ·exact .inr ⟨by omega,by omega⟩
  ·simp [h]
 ·intro i o hi hH
  by_cases h:i=s.nx
  ·subst h
   simp only [if_true,Option.some.injEq] at hH
   subst hH
   exact .inr ⟨w.heap.size,0,vs,rest,t,by simp,hnew,hv.mono (Mem.le_refl _) hle,h1,tK V.mem⟩
  ·simp only [h,if_false] at hH
   have hE:=V.entry i o (hi.elim id (by omega)) hH
   refine hE.move (Mem.le_refl _) hle (by simp [h]) (fun b c hr=>hold b (hE.oy hr)) (fun _ _ _ _ _ e=>e)
 ·intro i j b c c' hi hj Bn yM fl jd
  have old:∀ k,(T k∨(s.nx≤k∧k<s.nx+1))→k≠s.nx→(if k=s.nx then some (HO.var ps) else s.H k)≠none→∀ b c,(if k=s.nx then some (w.heap.size,0) else ρ k)=some (b,c)→T k∧s.H k≠none∧ρ k=some (b,c)∧b<w.heap.size:=by
   intro k hk hne hl b c hr
   simp only [hne,if_false] at hl hr
   have Ga:T k:=hk.elim id (by omega)
   refine ⟨Ga,hl,hr,?_⟩
   cases e:s.H k with
   | none=>exact absurd e hl
   | some o=>exact (V.entry k o Ga e).oy hr
  by_cases h:i=s.nx<;>by_cases h':j=s.nx
  ·rw [h,h']
  ·subst h
   have:=old j hj h' yM b c' jd
   simp at fl
   omega
  ·subst h'
   have:=old i hi h Bn b c fl
   simp at jd
   omega
  ·have e1:=old i hi h Bn b c fl
   have e2:=old j hj h' yM b c' jd
   exact V.apart i j b c c' e1.1 e2.1 e1.2.1 e2.2.1 e1.2.2.1 e2.2.2.1
 ·rintro b ⟨i,c,hi,hl,hr⟩
  by_cases h:i=s.nx
  ·subst h
   simp at hr
   exact .inr (by omega)
  ·simp only [h,if_false] at hl hr
   exact .inl ⟨i,c,hi.elim id (by omega),hl,hr⟩
section
variable {o:Oper} {S:Nat→PV} {H:HM} {nx:Nat} {df:List (Nat×List PV)} {k:PV→HM→Nat→List Nat→List Nat→Prop}
theorem SK {t u:TypeId} {d:TypeDesc} {x y:Operand} {sz je:Nat} {l2:List D} (ho:o.op= .call {callee:= .builtin .append,args:= #[x,y],argTypes:= #[t,u]}) (ht:oE P t=some (sz,je)) (hu:P.underlying u=some d) (hd:mw d=true)
  (hx:aB S x= .full []) (hy:(aB S y).more=some l2) (c2:∀ z∈l2,z.cells.length=sz) (hb:l2.length*je≤140737488355328) (hb0:0<je) (hk:k (.gA nx 0 l2.length) (cE H nx (some (.var (bB l2)))) (nx+1) [] []):sW P o ⟨S,H,nx,df⟩ k:=by
 intro hn
 refine ⟨_,_,_,_,_,⟨Nat.le_succ _,fun i _ hi=>?_,fun i hi=>?_,by simp,by simp,?_⟩,hk⟩
 ·have:i≠nx:=Nat.ne_of_lt hi
  simp [cE,this]
 ·have hi:nx+1≤i:=hi
  have:i≠nx:=by omega
  simp only [cE,this,if_false];exact hn i (show nx≤i by omega)
 intro m ρ a w K Q V hf hxs hK
 have h1:=hxs x (by simp [ho,Op.operands,Call.operands])
 have h2:=hxs y (by simp [ho,Op.operands,Call.operands])
 rw [show aB ({S:=S,H:=H,nx:=nx,df:=df}:St).S x=_ from hx] at h1
 obtain ⟨e,i,z,zZ,hi,hz,hzs,h0,hsz,hby⟩:=sP ht
 obtain ⟨g1,news,g2,g3,g4,g5⟩:=x3 (P:=P) V.mem hy h2 c2
 simp only [aM,List.length_nil] at h1
 obtain ⟨ad,ev,iQ⟩:=h1
 subst hsz
 subst hby
 have R1:l2.length*1≤l2.length*i.bytes:=Nat.mul_le_mul_left _ hb0
 unfold Oper.wp
 by_cases hkk:l2=[]
 ·subst hkk
  have hrun:=sQ (P:=P) w t u o.type e d i zZ hu hd hi ad (a.eval y) (by simpa using g1) (by
   have:=g5 w rfl
   have Ki:news=[]:=List.eq_nil_of_length_eq_zero (by simpa using g2)
   subst Ki
   simpa using this)
  rw [iA ho (by rw [ev];exact hrun),Oper.upon_value]
  refine hK _ m ρ w ⟨Ext.refl _ _ _,cZ.le_refl _,fun i=> .inl rfl,⟨V.mem,?_,?_⟩,?_⟩ ?_
  ·intro k ob hk' hH
   have tM:k=nx:=by have:=hk'.elim (fun h=>by cases h) (fun h=>h);have h2:nx≤k∧k<nx+1:=this;omega
   subst tM
   simp only [cE,if_true,Option.some.injEq] at hH
   subst hH
   exact .inl ⟨rfl,hf _ (Nat.le_refl _) (Nat.lt_succ_self _)⟩
  ·intro k j b c c' hk' _ _ _ hr _
   have tM:k=nx:=by have:=hk'.elim (fun h=>by cases h) (fun h=>h);have h2:nx≤k∧k<nx+1:=this;omega
   subst tM
   rw [hf _ (Nat.le_refl _) (Nat.lt_succ_self _)] at hr;cases hr
  ·rintro b ⟨k,c,hk',_,hr⟩
   have tM:k=nx:=by have:=hk'.elim (fun h=>by cases h) (fun h=>h);have h2:nx≤k∧k<nx+1:=this;omega
   subst tM
   rw [hf _ (Nat.le_refl _) (Nat.lt_succ_self _)] at hr;cases hr
  ·simp only [aM]
   exact .inr ⟨rfl,ad,0,rfl⟩
 ·have hpos:0<l2.length:=List.length_pos_iff.2 hkk
  have hrun:=oe (P:=P) w t u o.type e d i z zZ hu hd hi hz ad 0 0 l2.length (a.eval y) [] news g1 (by
   cases ad with
   | none=>simp [Builtin.firstCells]
   | some ad=>simp [Builtin.firstCells,loadCells,loadCellsFrom]) (g5 w.drew rfl) (by omega) (by omega) (by rw [Nat.zero_add];exact growslice_fits hpos hb)
  rw [iA ho (by rw [ev];exact hrun),Oper.upon_value]
  have hge:=grownCap_ge w (0+l2.length) 0 e
  have hRn:bM m ρ (bB l2) news:=Kl g3
  have hD:=Xz (s:=⟨S,H,nx,df⟩) (w:=w) (· ∈([]:List Nat)) V hf hRn g4 (rest:=(Builtin.zeroCells z.cells (grownCap w (0+l2.length) 0 e-(0+l2.length))).toList) e
  simp only [List.nil_append]
  refine hK _ _ _ _ hD ?_
  simp only [aM]
  refine .inl ⟨w.heap.size,0,grownCap w (0+l2.length) 0 e,by simp,by simp,by omega⟩
end
section
variable {o:Oper} {S:Nat→PV} {H:HM} {nx:Nat} {df:List (Nat×List PV)} {k:PV→HM→Nat→List Nat→List Nat→Prop} {α:Type} {en:α→D} {c:α→List D} {sz:Nat}
theorem SL {t u:TypeId} {d:TypeDesc} {x y:Operand} {je:Nat} {l2:List α} (ho:o.op= .call {callee:= .builtin .append,args:= #[x,y],argTypes:= #[t,u]}) (ht:oE P t=some (sz,je)) (hu:P.underlying u=some d) (hd:mw d=true) (hl:rF en c sz)
  (hx:aB S x= .full []) (hy:(aB S y).more=some (l2.map en)) (hb:l2.length*je≤140737488355328) (hb0:0<je) (hk:k (.gA nx 0 l2.length) (cE H nx (some (.var (bB (l2.map en))))) (nx+1) [] []):sW P o ⟨S,H,nx,df⟩ k:=
 SK ho ht hu hd hx hy (hl.all l2) (by rw [List.length_map];exact hb) hb0 (by rw [List.length_map];exact hk)
theorem UZ (hl:rF en c sz) {l:List α} {A:Int} {n:Nat} (h:0≤A∧A≤(n:Int)∧(n:Int)≤(n:Int)) (hn:n=l.length):0+A.toNat*sz+((n:Int)-A).toNat*sz≤(bB (l.map en)).length:=by
 rw [u6 hl,Nat.zero_add, ← Nat.add_mul]
 exact Nat.mul_le_mul_right _ (by omega)
theorem QB (hl:rF en c sz) {l:List α} {A:Int} {n:Nat} (h:0≤A∧A≤(n:Int)∧(n:Int)≤(n:Int)) (hn:n=l.length):(bB (l.map en)).take (0+A.toNat*sz)=bB ((l.take A.toNat).map en):=LM hl l A.toNat (by omega)
end
theorem View.Jk {s:St} {α:Type} {en:α→D} {l:List α} {n:Nat} (id t:Nat) (hH:s.H id=some (.var (bB (l.map en)))) (ht:s.S t= .gA id 0 n) (hn:n=l.length) (Lz:b≤s.nx):View N b s ⟨fj s.S (some t) (.d (.slice (l.map en))),cE s.H id none,s.nx,s.df⟩:=
 View.NQ (R:=[]) id t (by rw [List.append_nil];exact hH) ht (by rw [List.length_map];exact hn) Lz
theorem View.Y6 {s:St} (t:Nat) (hs:s.S t= .full []) (hb:b≤s.nx):View N b s ⟨fj s.S (some t) (.gA s.nx 0 0),cE s.H s.nx (some (.var [])),s.nx+1,s.df⟩:=by
 refine View.of (Nat.le_trans hb (Nat.le_succ _)) fun m ρ a w hI=>?_
 have qv:=hI.slots t
 rw [hs] at qv
 simp only [aM] at qv
 obtain ⟨ad,ev,_⟩:=qv
 have nn:∀ k,(∃ b c,ρ k=some (b,c))→k≠s.nx:=by
  rintro k ⟨b,c,h⟩ e
  subst e
  rw [hI.nQ _ (Nat.le_refl _)] at h;cases h
 have mq:Inv N ⟨fj s.S (some t) (.gA s.nx 0 0),cE s.H s.nx (some (.var [])),s.nx+1,s.df⟩ m ρ a w:=by
  refine ⟨hI.size,hI.defers,fun i=>?_,⟨hI.valid.mem,fun i o _ hH=>?_,fun i j b c c' _ _ hi hj fl jd=>?_⟩,fun i hi=>?_,fun i hi=>hI.nQ i (by have:s.nx+1≤i:=hi;omega)⟩
  ·simp only [cu]
   by_cases e:i=t
   ·subst e
    simp only [if_true,aM]
    exact .inr ⟨trivial,ad,0,ev⟩
   ·simp only [e,if_false];exact hI.slots i
  ·simp only [oH] at hH
   by_cases e:i=s.nx
   ·subst e
    simp only [if_true,Option.some.injEq] at hH
    subst hH
    exact .inl ⟨rfl,hI.nQ _ (Nat.le_refl _)⟩
   ·simp only [e,if_false] at hH;exact hI.valid.entry i o trivial hH
  ·have e1:=nn i ⟨b,c,fl⟩
   have e2:=nn j ⟨b,c',jd⟩
   simp only [oH,e1,if_false] at hi
   simp only [oH,e2,if_false] at hj
   exact hI.valid.apart i j b c c' trivial trivial hi hj fl jd
  ·have h1:s.nx+1≤i:=hi
   have:i≠s.nx:=by omega
   simp only [oH,this,if_false]
   exact hI.gP i (by omega)
 refine ⟨ρ,mq,?_,fun _ _=>rfl⟩
 rintro b' ⟨i,c,_,hl,fl⟩
 have:=nn i ⟨b',c,fl⟩
 simp only [oH,this,if_false] at hl
 exact ⟨i,c,trivial,hl,fl⟩
end Go.Proofs.YtlfjfoknbjcncaaGreat.K
namespace Go.Proofs.YtlfjfoknbjcncaaGreat.K
open Go Go.RowKit
set_option linter.unusedVariables false
set_option linter.unusedSectionVars false
set_option linter.unusedSimpArgs false
theorem zL {n:Nat}:0≤n:=Nat.zero_le n
theorem g3 {α β γ δ:Type} {a:α} {b:β} {c:γ} {d:δ} {p:PV}:(a=a∧b=b∧c=c)∧d=d∧iy p p:=⟨⟨rfl,rfl,rfl⟩,rfl,iy.refl⟩
theorem lf {g:Prop} {p:Nat→Prop}:g→∀ i∈([]:List Nat),p i:=fun _ _ hi=>nomatch hi
theorem jQ {a b:Bool} (h:(a&&b)=true):a=true:=(Bool.and_eq_true_iff.mp h).1
theorem jZ {a b c:Bool} (h:((a&&b)&&c)=true):a=true:=jQ (jQ h)
theorem QW.rT {P:Program} {N id:Nat} {ops:Array Oper} {s:St} {Q:PX→St→Prop} (hok:qj ops N=true) (h:XK P ops ops.toList s Q):QW P N 0 (.region id ops false) s Q:=QW.region (Nat.zero_le _) (PW.WO hok h)
theorem QW.sT {P:Program} {N id:Nat} {ops:Array Oper} {y:Code} {s:St} {Q:PX→St→Prop} (hok:qj ops N=true) (h:XK P ops ops.toList s (PX.then (fun s'=>QW P N 0 y s' Q) Q)):QW P N 0 (.seq (.region id ops false) y) s Q:=QW.seq (QW.rT hok h)
theorem XK.nz {P:Program} {ops:Array Oper} {s:St} {next:St→Prop} {Q:PX→St→Prop} (h:next s):XK P ops [] s (PX.then next Q):=XK.nil (aY h)
abbrev pI (n:Int):PV:= .d (.val (.int .i64 n))
abbrev pS (l:List UInt8):PV:= .d (.val (sV l))
abbrev pB (b:Bool):PV:= .d (.val (.bool b))
theorem iC {p:PV} {A:Prop} (h:A):iy p p∧A:=⟨iy.refl,h⟩
theorem xs {P:Program} {ops:Array Oper} {o:Oper} {r:List Oper} {S:Nat→PV} {H:HM} {nx:Nat} {df:List (Nat×List PV)} {Q:PX→St→Prop} (d:Nat) (h0:(o.dst,o.guard)=(some d,none)) (h:aR P [] o ⟨S,H,nx,df⟩ fun v H' cC _ _=>XK P ops r ⟨fj S (some d) v,H',cC,df⟩ Q):XK P ops (o::r) ⟨S,H,nx,df⟩ Q:=XK.st (some d) (congrArg Prod.fst h0) (congrArg Prod.snd h0) h
theorem bL {a b:Nat} (h:Nat.ble a b=true:=by exact rfl):a≤b:=Nat.le_of_ble_eq_true h
section
variable {P:Program} {N id:Nat} {ops:Array Oper} {o:Oper} {r:List Oper} {x:Operand} {y:Code} {S:Nat→PV} {H:HM} {nx b:Nat} {df:List (Nat×List PV)} {s:St} {next:St→Prop} {Q:PX→St→Prop}
theorem rG (h:XK P ops ops.toList s Q) (hok:qj ops N=true:=by kernel_rfl):QW P N 0 (.region id ops false) s Q:=QW.rT hok h
theorem sR (h:XK P ops ops.toList s (PX.then (fun s'=>QW P N 0 y s' Q) Q)) (hok:qj ops N=true:=by kernel_rfl):QW P N 0 (.seq (.region id ops false) y) s Q:=QW.sT hok h
theorem Fq (h:XK P ops ops.toList s Q) (hb:b≤s.nx:=by exact Nat.le_of_ble_eq_true rfl) (hok:qj ops N=true:=by kernel_rfl):QW P N b (.region id ops false) s Q:=QW.region hb (PW.WO hok h)
theorem lJ (h:XK P ops ops.toList s (PX.then (fun s'=>QW P N b y s' Q) Q)) (hb:b≤s.nx:=by exact Nat.le_of_ble_eq_true rfl) (hok:qj ops N=true:=by kernel_rfl):QW P N b (.seq (.region id ops false) y) s Q:=QW.seq (Fq h hb hok)
theorem xm (d:Nat) (v:PV) (k:XK P ops r ⟨fj S (some d) v,H,nx,df⟩ Q) (h0:(o.dst,o.guard)=(some d,none):=by exact rfl) (ho:o.op= .move x:=by exact rfl) (hx:aB S x=v:=by exact rfl):XK P ops (o::r) ⟨S,H,nx,df⟩ Q:=xs d h0 (au ho hx k)
theorem xa (d:Nat) (v:PV) (k:XK P ops r ⟨fj S (some d) v,H,nx,df⟩ Q) (h0:(o.dst,o.guard)=(some d,none):=by exact rfl) (ho:o.op= .assign x:=by exact rfl) (hx:aB S x=v:=by exact rfl):XK P ops (o::r) ⟨S,H,nx,df⟩ Q:=xs d h0 (cq ho hx k)
theorem xz (d:Nat) (v:PV) (k:next ⟨fj S (some d) v,H,nx,df⟩) (h0:(o.dst,o.guard)=(some d,none):=by exact rfl) (ho:o.op= .assign x:=by exact rfl) (hx:aB S x=v:=by exact rfl):XK P ops [o] ⟨S,H,nx,df⟩ (PX.then next Q):=xs d h0 (cq ho hx (XK.nz k))
theorem xg {g:Bool} (d:Nat) (v:PV) (hd:o.dst=some d) (hg:tj ops o S=some g) (h:g=true→aR P [] o ⟨jz S,H,nx,df⟩ fun v' H' cC T' W=>(W=[]∧cC=nx∧T'=[])∧H'=H∧iy v' v)
  (k:XK P ops r ⟨fj S (some d) (.cond g v),H,nx,df⟩ Q) (hc:vp g S o.op.operands.toList:=by repeat (first | exact trivial | refine ⟨fun q=>by first | rfl | exact q | exact jQ q | exact jZ q,?_⟩)):XK P ops (o::r) ⟨S,H,nx,df⟩ Q:=XK.gd (T:=[]) (some d) hd hg hc h lf k
end
end Go.Proofs.YtlfjfoknbjcncaaGreat.K
namespace Go.Proofs.YtlfjfoknbjcncaaGreat.K
open Go Go.RowKit
set_option linter.unusedVariables false
set_option linter.unusedSimpArgs false
set_option linter.unusedSectionVars false
variable {P:Program}
def eG (x:BitVec 32):D:= .val (.int .u32 (x.toNat:Int))
def ee (x:BitVec 64):D:= .val (.int .u64 (x.toNat:Int))
theorem fA:rF ee (fun x=>[.val (.int .u64 (x.toNat:Int))]) 1:=⟨fun _=>rfl,fun _=>rfl⟩
end Go.Proofs.YtlfjfoknbjcncaaGreat.K
namespace Go.Proofs.YtlfjfoknbjcncaaGreat.K
open Go Go.RowKit
set_option linter.unusedVariables false
set_option linter.unusedSimpArgs false
set_option linter.unusedSectionVars false
variable {P:Program}
end Go.Proofs.YtlfjfoknbjcncaaGreat.K
namespace Go.Proofs.YtlfjfoknbjcncaaGreat.K
open Go Go.RowKit
theorem iy.l5 {l l':List D} {z:Bool} (h:l=l') (hz:z=false):iy (.d (.cr l)) (.d (.l5 z l')):=fun m ρ v e=>by
 subst h hz
 simp only [aM,bh] at e ⊢
 exact .inr ⟨by trivial,e⟩
theorem QC {α β:Type} {n:Nat} (f:α→β) (z:α) (a:aE n α):List.ofFn (fun i:Fin n=>f (a.1.getD i.1 z))=a.1.map f:=by
 apply List.ext_getElem
 ·simp [a.2]
 ·intro i h1 h2
  have hi:i<a.1.length:=by simpa using h2
  rw [List.getElem_ofFn,List.getElem_map,List.getD_eq_getElem?_getD,List.getElem?_eq_getElem hi]
  rfl
section
variable {P:Program} {ops:Array Oper} {o:Oper} {r:List Oper} {S:Nat→PV} {H:HM} {nx:Nat} {df:List (Nat×List PV)}
theorem XK.fx {Q:PX→St→Prop} (d:Option Nat) (hd:o.dst=d) (hg:o.guard=none) (h:aR P d.toList o ⟨S,H,nx,df⟩ fun v H' cC _ _=>∃ v',iy v v'∧XK P ops r ⟨fj S d v',H',cC,df⟩ Q):XK P ops (o::r) ⟨S,H,nx,df⟩ Q:=by
 intro hn
 subst hd
 obtain ⟨v,H',cC,T,W,h1,v',h2,h3⟩:=k9 hn h
 exact .step (.run hg (h1.imp h2)) (h3 h1.nil)
end
theorem View.LN {N b:Nat} {s:St} {l:List PV} {ds ds':List D} {z:Bool} (id t:Nat) (hH:s.H id=some (.var l)) (hl:ds.map PV.d=l) (he:ds=ds') (hz:z=false) (ht:s.S t= .aK id 0) (Lz:b≤s.nx):View N b s ⟨fj s.S (some t) (.d (.l5 z ds')),cE s.H id none,s.nx,s.df⟩:=by
 subst hl he hz
 refine View.trans (View.freeze (l:=ds) id t hH ht Lz) (View.of Lz fun m ρ a w hI=>⟨ρ,⟨hI.size,hI.defers,fun i=>?_,hI.valid,hI.gP,hI.nQ⟩,fun _ h=>h,fun _ _=>rfl⟩)
 have:=hI.slots i
 simp only [fj] at this ⊢
 split
 ·rename_i h
  rw [if_pos h] at this
  exact iy.l5 rfl rfl _ _ _ this
 ·rename_i h
  rw [if_neg h] at this
  exact this
variable {P:Program}
theorem bE.ya {f:Nat} {fn:Func} {c:Code} {args:List D} {fd:Nat} {res:D} (hf:P.funcs[f]? =some fn) (hb:fn.body=some c) (hN:args.length≤fn.ntmps) (hfd:aN P fd=true)
  (h:QW P fn.ntmps 0 c ⟨yO args,fun _=>none,0,[]⟩ (fun px s=>vu P fn.results.toList fd res px s∨Ends P fn.results.toList (fun p=>p.cW=some res) px s)):bE P f args res:=by
 intro m w vs hm hr
 refine calls_of_wp_defers hf hb (wp_mono (h.2 m _ _ w (IZ hm hr hN)) ?_)
 rintro e a w' ⟨px,s,m',ρ',⟨id,p0,hdf,hH,x,p1,hL,tL,LI,hx,hres,hD⟩ | ⟨hpx,hdf,hres,hp⟩,sw,hI,hA⟩
 rotate_left
 ·obtain ⟨v,hv,iQ⟩:=nI (P:=P) hI hres
  have hd:=hI.defers
  rw [hdf] at hd
  have hd:a.defers=[]:=hd
  have hE:Ext (fun _=>False) m w m' w':=hA.ext.mono (by rintro b ⟨i,c,_,h,_⟩;exact absurd rfl h)
  have key:Leaves P fn a.tmps (fun e w'=>∃ v m',e= .returned v∧bh m' res v∧ga m' w'∧Ext (fun _=>False) m w m' w') a.defers .returning w':=by
   rw [hd];exact ⟨v,hv,v,m',rfl,aM.cW _ _ _ hp iQ,hI.valid.mem,hE⟩
  rcases hpx with rfl | rfl<;>simp only [RX] at sw<;>subst sw<;>exact key
 have Iq:=hI.defers
 rw [hdf] at Iq
 obtain ⟨d,l',hd1,QD,Y7,Y8⟩:=Iq
 simp only [wJ] at Y8
 subst Y8
 obtain ⟨tgt,dargs⟩:=d
 simp only at QD Y7
 subst QD
 have hlen:∀ (u:FrameMode),u≠ .run→C7 m' x u→Leaves P fn a.tmps (fun e w'=>∃ v m',e= .returned v∧bh m' res v∧ga m' w'∧Ext (fun _=>False) m w m' w') a.defers u w':=by
  intro u hu XA
  rw [hd1]
  refine leaves_cons (f:=fd) (args:=dargs) hu ?_ ?_
  ·simp only [invoke,Array.append_empty]
   exact xB hfd _ _
  ·have abP:id<s.nx:=by
    rcases Nat.lt_or_ge id s.nx with h1 | h1
    ·exact h1
    ·rw [hI.gP _ h1] at hH;cases hH
   have hfr:=Sz (P:=P) (nx:=s.nx) (H:=s.H) [id] hL rfl (by simp) ⟨by show s.H id=some (.var (PV.res _ [p0]));rw [hH];simp only [PV.res];rw [tL],trivial⟩ (Nat.le_refl _)
    m' ρ' w' dargs.toList u hI.valid hI.gP hI.nQ (by simpa [PV.res,PV.re,iI] using Y7) XA
   refine CallsD.mono hfr ?_
   rintro e u' w2 ⟨v,m2,jO,rfl,BA,V2,hn2,hr2,DY⟩
   have eH:fD (jA [id] [HO.var [p0]].length s.nx) [HO.var [p1]] 0 s.H=cE s.H id (some (.var [p1])):=by
    show cE s.H (jA [id] 1 s.nx 0) (some (.var (PV.res (jA [id] 1 s.nx) [p1])))=_
    simp only [PV.res]
    rw [LI];rfl
   rw [eH] at V2 hn2 DY
   have zO:Inv fn.ntmps ⟨s.S,cE s.H id (some (.var [p1])),s.nx,[]⟩ m2 jO {a with defers:=[]} w2:=
    ⟨hI.size,rfl,fun t=>(hI.slots t).mono DY.ext.mem DY.oy,V2,hn2,hr2⟩
   obtain ⟨vv,Sy,iQ⟩:=nI (P:=P) zO hres
   have hE:Ext (fun _=>False) m w m2 w2:=(hA.ext.trans DY.ext hA.place).mono (by rintro b ⟨i,c,_,h,_⟩;exact absurd rfl h)
   show Leaves P fn a.tmps _ [] (settle u') w2
   rw [BA]
   exact ⟨vv,Sy,vv,m2,rfl,aM.cW _ _ _ hD iQ,V2.mem,hE⟩
 cases px with
 | normal=>simp only [RX] at sw;subst sw;subst hx;exact hlen .returning (by simp) rfl
 | ret=>simp only [RX] at sw;subst sw;subst hx;exact hlen .returning (by simp) rfl
 | exit i=>exact hx.elim
 | panic p=>
  obtain ⟨v,rfl,hv⟩:=sw
  obtain ⟨d,rfl,rfl⟩:=hx
  simp only [aM] at hv
  exact hlen (.panicking _) (by simp) ⟨v,hv,rfl⟩
theorem x9.QE {fd:Nat} {fn:Func} {id t:Nat} {o0:Oper} {rest:Code} {c0:Call} {args:List PV} {M M':List HO} {r:PV} (x:Option D) (hf:P.funcs[fd]? =some fn) (hb:fn.body=some (.seq (.region id #[o0] false) rest))
  (h0:o0.op= .call c0) (hc0:c0.callee= .builtin .recover) (g0:o0.guard=none) (d0:o0.dst=some t) (ht:t<fn.ntmps) (hN:args.length≤fn.ntmps)
  (h:QW P fn.ntmps M.length rest ⟨fj (l8 args) (some t) (zB x),aj M,M.length,[]⟩ (Ca P fn.results.toList fn.ntmps M.length (kF (.ret r) (aj M') M'.length))):x9 P fd args M x M':=by
 intro m ρ w vs u V gP hρ hr hu
 refine callsD_of_wpS hf hb ?_
 intro c₀ cs hm
 have Cb:∀ a:Act,(execOp a.eval o0).run P w= .ok .recover w:=by
  intro a
  obtain ⟨dst,op',type,pos,after,guard⟩:=o0
  simp only at h0
  subst h0
  obtain ⟨callee,Xr,argTypes⟩:=c0
  simp only at hc0
  subst hc0
  simp [execOp,resolve,invoke,builtin]
 have w0:∀ tm,Region.wanted o0 tm=true:=fun tm=>by unfold Region.wanted;simp only [g0]
 obtain ⟨v,u',Sw,hv,BA⟩:∃ v u',(match recoverD (c₀::cs) with | some x=>x | none=>(.nilIface,c₀::cs))=(v,{c₀ with mode:=u'}::cs)∧aM m ρ (zB x) v∧settle u'= .returning:=by
  cases x with
  | none=>
   simp only [C7] at hu
   subst hu
   refine ⟨.nilIface, .returning,?_,by simp [zB,aM,bh],rfl⟩
   have hc:({c₀ with mode:=FrameMode.returning}:Frame)=c₀:=by rw [← hm]
   simp only [recoverD,hm,hc]
  | some d=>
   obtain ⟨v,hv,rfl⟩:=hu
   refine ⟨v, .panicking [{v:=v,recovered:=true}],?_,by simpa [zB,aM] using hv,rfl⟩
   simp only [recoverD,hm]
 refine wpS_seq (wpS_region ?_)
 show wpOpsS P #[o0] _ [0] _ _ _
 refine ER (o:=o0) rfl (w0 _) (Cb _) Sw ?_
 have hI:=B7 V gP hρ hr hN
 have hsz:({tmps:=(⟨vs⟩:Array Value)++Array.replicate (fn.ntmps-(⟨vs⟩:Array Value).size) undef,defers:=[]}:Act).tmps.size=fn.ntmps:=hI.size
 generalize ({tmps:=(⟨vs⟩:Array Value)++Array.replicate (fn.ntmps-(⟨vs⟩:Array Value).size) undef,defers:=[]}:Act)=a0 at hI hsz
 rw [d0]
 have zO:Inv fn.ntmps ⟨fj (l8 args) (some t) (zB x),aj M,M.length,[]⟩ m ρ (a0.put (some t) v) w:=by
  refine ⟨by simp [Act.put,hsz],by simpa [Act.put] using hI.defers,?_,hI.valid,hI.gP,hI.nQ⟩
  exact sL hsz hI.slots (some t) (fun d hd=>by cases hd;exact ht) hv
 show Code.wpS P rest _ _ _ _
 refine wpS_of_wp (wp_mono (h.2 m ρ _ w zO) ?_)
 rintro e a' w' ⟨px,s,m',ρ',⟨s',NL,hx,Y1⟩,sw,mq,hA⟩
 obtain ⟨m2,jO,Kw,Xt⟩:=NL m' ρ' a' w' mq
 have Xu:=(hA.trans Xt).NH hρ
 obtain ⟨hdf,hpost⟩:=hx
 have hd:=Kw.defers
 rw [hdf] at hd
 have fin:(oG P fn.results.toList s').2∧(∃ H',(∀ i,H' i=none∨H' i=s'.H i)∧kF (.ret r) (aj M') M'.length (.ret (oG P fn.results.toList s').1) H' s'.nx)→
   a'.defers=[]∧∃ Sx,({c₀ with mode:=u'}::cs:List Frame)={c₀ with mode:=Sx}::cs∧∃ v,(results fn a'.tmps).run P w'= .ok v w'∧
    ∃ v_1 m' ρ',Ending.returned v= .returned v_1∧settle Sx= .returning∧dS (fun _=>True) m' ρ' w' (aj M')∧(∀ i,M'.length≤i→ρ' i=none)∧nH M.length m ρ w (aj M) M'.length m' ρ' w' (aj M'):=by
  rintro ⟨hres,H',hs,LI,LJ,z9⟩
  obtain ⟨vv,Sy,iQ⟩:=nI (P:=P) Kw hres
  refine ⟨hd,u',rfl,vv,Sy,vv,m2,jO,rfl,BA,?_,?_,?_⟩
  ·rw [← LJ];exact Kw.valid.sub hs
  ·rw [← z9];exact Kw.nQ
  ·rw [← LJ, ← z9];exact Xu.sub hs
 cases px with
 | normal=>simp only [RX] at sw;subst sw;exact fin hpost
 | ret=>simp only [RX] at sw;subst sw;exact fin hpost
 | exit i=>exact hpost.elim
 | panic p=>
  obtain ⟨H',_,hp,_⟩:=hpost
  cases hp
end Go.Proofs.YtlfjfoknbjcncaaGreat.K
