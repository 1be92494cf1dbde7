/- Words of 32 and 64 bits; laws of any operation (stepO); writable rows; structs and arrays held against each other. -/
import Derived.Test.YtlfjfoknbjcncaaGreatHG2
import Derived.ChangeKeysEq
import Derived.Laws.StructEq
import Derived.KernelRfl
import Derived.Test.YtlfjfoknbjcncaaGreatRows
namespace Go.Proofs.YtlfjfoknbjcncaaGreat.K
open Go Go.RowKit
set_option linter.unusedVariables false
set_option linter.unusedSimpArgs false
set_option linter.unusedSectionVars false
variable {P:Program} {N:Nat} {ops:Array Oper} {o:Oper} {r:List Oper}
def wM (P:Program) (o:Oper) (s:St) (k:PV→HM→Nat→List Nat→List Nat→Prop):Prop:=
 (∀ i,s.nx≤i→s.H i=none)→∃ v H' cw T W,n4 P o s v H' cw T W∧k v H' cw T W
section
variable {S:Nat→PV} {H:HM} {nx:Nat} {df:List (Nat×List PV)}
theorem XK.so {Q:PX→St→Prop} (d:Option Nat) (hd:o.dst=d) (hg:o.guard=none) (h:wM P o ⟨S,H,nx,df⟩ fun v H' cw _ _=>XK P ops r ⟨eK S d v,H',cw,df⟩ Q):XK P ops (o::r) ⟨S,H,nx,df⟩ Q:=by
 intro hn
 subst hd
 obtain ⟨v,H',cw,T,W,h1,h3⟩:=h hn
 exact .step (.run hg h1) (h3 h1.nil)
end
section
variable {S:Nat→PV} {H:HM} {nx:Nat} {df:List (Nat×List PV)} {k:PV→HM→Nat→List Nat→List Nat→Prop}
theorem Eb {v v':PV} (h:bp P o S v) (hi:fX v v') (hk:k v' H nx [] []):wM P o ⟨S,H,nx,df⟩ k:=
 fun hn=>⟨_,_,_,_,_,(mH (s:=⟨S,H,nx,df⟩) hn h.op).imp hi,hk⟩
theorem Sm {s:St} {id:Nat} {h:HO} (hn:∀ i,s.nx≤i→s.H i=none) (hH:s.H id=some h):id<s.nx:=by
 rcases Nat.lt_or_ge id s.nx with h' | h'
 ·exact h'
 ·rw [hn id h'] at hH;cases hH
theorem UJ {t:TypeId} {x:Operand} {lo hi:Option Operand} {n id off:Nat} {ag:Bool} (p q:Int) (ha:nR P t=some (n,1,ag)) (h:0≤p∧p≤q∧q≤(n:Int)) (hk:k (.iG id (off+p.toNat) (q-p).toNat) H nx [] []) (ho:o.op= .slice t x lo hi none:=by exact rfl) (hx:aH S x= .aR id off:=by exact rfl) (hl:pV 0 (lo.map (aH S))=some p:=by exact rfl) (hh:pV n (hi.map (aH S))=some q:=by exact rfl):wM P o ⟨S,H,nx,df⟩ k:=by
 refine Eb (v:= .iG id (off+p.toNat) (q-p).toNat) ?_ fX.refl hk
 obtain ⟨h0,h1,h2⟩:=h
 refine bp.still fun m ρ a w hm hx'=>?_
 have e1:=hx' x (by simp [ho,Op.operands])
 have e2:∀ y,lo=some y→aO m ρ (aH S y) (a.eval y):=fun y hy=>hx' y (by simp [ho,hy,Op.operands])
 have e3:∀ y,hi=some y→aO m ρ (aH S y) (a.eval y):=fun y hy=>hx' y (by simp [ho,hy,Op.operands])
 obtain ⟨dst,op',type,pos,after,guard⟩:=o
 simp only at ho
 subst ho
 rw [hx] at e1
 simp only [aO] at e1
 obtain ⟨b,c,hr,ev⟩:=e1
 obtain ⟨et,hu,ht⟩:=rR ha
 have hsz:=(iE ht w).2
 have hb:=uP (P:=P) (w:=w) (Ju:=false) hl hh e2 e3 h0 h1 h2 (Nat.le_refl _)
 refine ⟨.slice (some (if n=p.toNat then ⟨b,off,none⟩ else (⟨b,off,none⟩:Addr).add p.toNat)) (q.toNat-p.toNat) (n-p.toNat),?_,?_⟩
 ·simp [execOp,Instr.sliceAt,run_underlying hu,ev,Instr.sureAddr,hb,hsz]
 ·have e:(q-p).toNat=q.toNat-p.toNat:=by omega
  simp only [aO,e]
  by_cases e:n=p.toNat
  ·exact .inr ⟨by omega,some (if n=p.toNat then ⟨b,off,none⟩ else (⟨b,off,none⟩:Addr).add p.toNat),n-p.toNat,by rw [show q.toNat-p.toNat=0 by omega]⟩
  ·exact .inl ⟨b,c,n-p.toNat,hr,by simp [e,jh],by omega⟩
theorem UK {t u e:TypeId} {x:Operand} {id off n:Nat} {l:List PV} (bs:List UInt8) (ht:P.underlying t=some (.slice e)) (he:P.underlying e=some (.int .u8)) (hu:P.underlying u=some .string) (hl:(l.drop off).take n=(bs.map aa).map .d) (hn:bs.length=n) (hk:k (.d (.val (sV bs))) H nx [id] []) (ho:o.op= .convert t u x:=by exact rfl) (hx:aH S x= .iG id off n:=by exact rfl) (hH:H id=some (.var l):=by exact rfl):wM P o ⟨S,H,nx,df⟩ k:=by
 intro iq
 refine ⟨_,_,_,_,_,⟨Nat.le_refl _,fun _ _ _=>rfl,iq,by simp,by simpa using Sm iq hH,?_⟩,hk⟩
 intro m ρ a w K Q V hf hxs hK
 have h1:=hxs x (by simp [ho,Op.operands])
 rw [show aH ({S:=S,H:=H,nx:=nx,df:=df}:St).S x=_ from hx] at h1
 simp only [aO] at h1
 have hrun:(Conv.bytesToString (a.eval x)).run P w= .ok (sV bs) w:=by
  rcases h1 with ⟨b,c,kk,hr,ev,_⟩ | ⟨h0,ad,kk,ev⟩
  ·rcases V.entry id _ (by simp) hH with ⟨_,hr'⟩ | ⟨b',c',vs,tail,tb,hr',hb,hrl,hone,_⟩
   ·rw [hr] at hr';cases hr'
   rw [hr] at hr';cases hr'
   rw [ev]
   have h2:bC m ρ ((bs.map aa).map PV.d) ((vs.drop off).take n):=by rw [← hl];exact pX n (wG off hrl)
   have h3:=bC.dW _ _ _ (xR (bs.map aa)) h2
   have h4:=AM h3
   have hcell:∀ j v,((vs.drop off).take n)[j]? =some v→w.cell? ((⟨b,off,none⟩:Addr).add j)=some v:=by
    intro j v hj
    rw [jh,iH hb]
    rw [List.getElem?_take] at hj
    split at hj
    ·rw [List.getElem?_drop] at hj
     rw [List.getElem?_append_left (List.getElem?_eq_some_iff.1 hj).1];exact hj
    ·cases hj
   have hlc:=run_loadCells_list (P:=P) w ⟨b,off,none⟩ _ hcell
   rw [h4,List.length_map,hn] at hlc
   have:=run_bytesToString (P:=P) w ⟨b,off,none⟩ n kk (bs.map fun b=>(b.toNat:Int)) (by rw [hlc];simp [List.map_map,Function.comp_def])
   rw [this]
   congr 2
   apply G0
   have e:∀ (l:List UInt8) (s:ByteArray),(l.map fun b=>(b.toNat:Int)).foldl (fun r n=>r.push (UInt8.ofNat n.toNat)) s=l.foldl (fun r b=>r.push b) s:=by
    intro l
    induction l with
    | nil=>intro s;rfl
    | cons b l ih=>
     intro s
     simp only [List.map_cons,List.foldl_cons,Int.toNat_natCast,UInt8.ofNat_toNat]
     exact ih _
   rw [e,foldl_push]
   simp [ByteArray.empty,ByteArray.emptyWithCapacity]
   rfl
  ·subst h0
   have:bs=[]:=List.eq_nil_of_length_eq_zero hn
   subst this
   rw [ev]
   cases ad with
   | none=>simp [Conv.bytesToString];rfl
   | some ad=>
    have hlc:=run_loadCells_list (P:=P) w ad [] (by simp)
    have:=run_bytesToString (P:=P) w ad 0 kk [] (by simpa using hlc)
    rw [this];rfl
 obtain ⟨dst,op',type,pos,after,guard⟩:=o
 simp only at ho
 subst ho
 have Xu:(execOp a.eval ⟨dst, .convert t u x,type,pos,after,guard⟩).run P w= .ok (.value (sV bs)) w:=by
  have:∃ ad n k,a.eval x= .slice ad n k:=by
   rcases h1 with ⟨b,c,kk,hr,ev,_⟩ | ⟨h0,ad,kk,ev⟩
   ·exact ⟨_,_,_,ev⟩
   ·exact ⟨_,_,_,ev⟩
  obtain ⟨ad,n',k',ev⟩:=this
  simp [execOp,convert,run_underlying ht,run_underlying hu,run_underlying he,ev]
  rw [ev] at hrun
  simp [hrun]
 unfold Oper.wp
 rw [Xu,Oper.upon_value]
 exact hK _ m ρ w (Ah.same V) (by simp [aO,bk])
theorem Ms {t:TypeId} {x y:Operand} {id off n sz jq:Nat} {ag:Bool} (i:Int) {kd:IntKind} (ht:qG P t=some (sz,jq,ag)) (h:0≤i∧i<(n:Int)) (hk:k (.aR id (off+i.toNat*sz)) H nx [] []) (ho:o.op= .indexAddr t x y:=by exact rfl) (hx:aH S x= .iG id off n:=by exact rfl) (hy:aH S y= .d (.val (.int kd i)):=by exact rfl):wM P o ⟨S,H,nx,df⟩ k:=by
 refine Eb (v:= .aR id (off+i.toNat*sz)) ?_ fX.refl hk
 refine bp.still fun m ρ a w hm hx'=>?_
 have e1:=hx' x (by simp [ho,Op.operands])
 have e2:=hx' y (by simp [ho,Op.operands])
 obtain ⟨dst,op',type,pos,after,guard⟩:=o
 simp only at ho
 subst ho
 rw [hx] at e1
 rw [hy] at e2
 simp only [aO,bk] at e1 e2
 obtain ⟨e,inf,hu,het,hi,_,_⟩:=wH ht
 have hsz:=(iE het w).2
 obtain ⟨h3,h4⟩:=h
 rcases e1 with ⟨b,c,kk,hr,ev,_⟩ | ⟨h0,_⟩
 ·refine ⟨.pointer (some ⟨b,off+i.toNat*sz,none⟩),?_,by simp only [aO];exact ⟨b,c,hr,rfl⟩⟩
  simp [execOp,Instr.indexAt,e2,asIntOf,ev,run_underlying hu,hsz,h3,h4,jh]
 ·omega
end
section
variable {S:Nat→PV} {H:HM} {nx:Nat} {df:List (Nat×List PV)} {eR:List Nat} {k:PV→HM→Nat→List Nat→List Nat→Prop}
class Wk (kd:IntKind) (w:outParam Nat):Prop where
 bits:kd.bits=w
 wrap:∀ n:Int,kd.wrap n=((BitVec.ofInt w n).toNat:Int)
 pos:0<w
instance:Wk .u32 32:=⟨rfl,fun n=>by rw [IntKind.wrap_u32,BitVec.toNat_ofInt];omega,by decide⟩
instance:Wk .u64 64:=⟨rfl,fun n=>by rw [IntKind.wrap_u64,BitVec.toNat_ofInt];omega,by decide⟩
variable {kd:IntKind} {w:Nat} [Wk kd w]
omit [Wk kd w] in
theorem ji (a:BitVec w):BitVec.ofInt w (a.toNat:Int)=a:=by
 apply BitVec.eq_of_toNat_eq
 rw [BitVec.toNat_ofInt]
 have:=a.isLt
 rw [Int.emod_eq_of_lt (by omega) (by exact_mod_cast this)];simp
theorem ga {t u:TypeId} {x y:Operand} (a b:BitVec w) (hk:k (.d (.val (.int kd ((a+b).toNat:Int)))) H nx [] []) (ho:o.op= .binOp .add t x y u:=by exact rfl) (hx:aH S x= .d (.val (.int kd (a.toNat:Int))):=by exact rfl) (hy:aH S y= .d (.val (.int kd (b.toNat:Int))):=by exact rfl):aU P eR o ⟨S,H,nx,df⟩ k:=
 gT ho hx hy rfl rfl (by show PV.d (.val (.int kd (kd.wrap ((a.toNat:Int)+(b.toNat:Int)))))=_;rw [Wk.wrap (kd:=kd),BitVec.ofInt_add,ji,ji]) hk
theorem JU {t u:TypeId} {x y:Operand} (a b:BitVec w) (hk:k (.d (.val (.int kd ((a-b).toNat:Int)))) H nx [] []) (ho:o.op= .binOp .sub t x y u:=by exact rfl) (hx:aH S x= .d (.val (.int kd (a.toNat:Int))):=by exact rfl) (hy:aH S y= .d (.val (.int kd (b.toNat:Int))):=by exact rfl):aU P eR o ⟨S,H,nx,df⟩ k:=
 gT ho hx hy rfl rfl (by show PV.d (.val (.int kd (kd.wrap ((a.toNat:Int)-(b.toNat:Int)))))=_;rw [Wk.wrap (kd:=kd),Int.sub_eq_add_neg,BitVec.ofInt_add,BitVec.ofInt_neg,ji,ji, ← BitVec.sub_eq_add_neg]) hk
theorem E3 {t u:TypeId} {x y:Operand} (a b:BitVec w) (hk:k (.d (.val (.int kd ((a*b).toNat:Int)))) H nx [] []) (ho:o.op= .binOp .mul t x y u:=by exact rfl) (hx:aH S x= .d (.val (.int kd (a.toNat:Int))):=by exact rfl) (hy:aH S y= .d (.val (.int kd (b.toNat:Int))):=by exact rfl):aU P eR o ⟨S,H,nx,df⟩ k:=
 gT ho hx hy rfl rfl (by show PV.d (.val (.int kd (kd.wrap ((a.toNat:Int)*(b.toNat:Int)))))=_;rw [Wk.wrap (kd:=kd),BitVec.ofInt_mul,ji,ji]) hk
omit [Wk kd w] in
theorem Sn {b:BitVec w} (h:b≠0):(b.toNat:Int)≠0:=by
 intro e;apply h;apply BitVec.eq_of_toNat_eq;simp;omega
theorem B0 {t u:TypeId} {x y:Operand} (a b:BitVec w) (hk:k (.d (.val (.int kd ((a/b).toNat:Int)))) H nx [] []) (ho:o.op= .binOp .quo t x y u:=by exact rfl) (hx:aH S x= .d (.val (.int kd (a.toNat:Int))):=by exact rfl) (hy:aH S y= .d (.val (.int kd (b.toNat:Int))):=by exact rfl) (h:b≠0:=by decide):aU P eR o ⟨S,H,nx,df⟩ k:=by
 refine gT ho hx hy rfl ⟨rfl,Sn h⟩ ?_ hk
 show PV.d (.val (.int kd (kd.wrap ((a.toNat:Int).tdiv (b.toNat:Int)))))=_
 have e:(a.toNat:Int).tdiv (b.toNat:Int)=((a/b).toNat:Int):=by rw [BitVec.toNat_udiv];rfl
 rw [e,Wk.wrap (kd:=kd),ji]
omit [Wk kd w] in
theorem B1 {t u:TypeId} {x y:Operand} (a b:BitVec w) (hk:k (.d (.val (.int kd ((a%b).toNat:Int)))) H nx [] []) (ho:o.op= .binOp .rem t x y u:=by exact rfl) (hx:aH S x= .d (.val (.int kd (a.toNat:Int))):=by exact rfl) (hy:aH S y= .d (.val (.int kd (b.toNat:Int))):=by exact rfl) (h:b≠0:=by decide):aU P eR o ⟨S,H,nx,df⟩ k:=by
 refine gT ho hx hy rfl ⟨rfl,Sn h⟩ ?_ hk
 show PV.d (.val (.int kd ((a.toNat:Int).tmod (b.toNat:Int))))=_
 have e:(a.toNat:Int).tmod (b.toNat:Int)=((a%b).toNat:Int):=by rw [BitVec.toNat_umod];rfl
 rw [e]
theorem n9 {t u:TypeId} {x y:Operand} (a b:BitVec w) (hk:k (.d (.val (.int kd ((a&&& b).toNat:Int)))) H nx [] []) (ho:o.op= .binOp .and t x y u:=by exact rfl) (hx:aH S x= .d (.val (.int kd (a.toNat:Int))):=by exact rfl) (hy:aH S y= .d (.val (.int kd (b.toNat:Int))):=by exact rfl):aU P eR o ⟨S,H,nx,df⟩ k:=by
 have hb:=Wk.bits (kd:=kd)
 subst hb
 refine gT ho hx hy rfl rfl ?_ hk
 show PV.d (.val (.int kd (kd.wrap (BitVec.ofInt kd.bits a.toNat&&& BitVec.ofInt kd.bits b.toNat).toNat)))=_
 rw [ji,ji,Wk.wrap (kd:=kd),ji]
theorem wN {t u:TypeId} {x y:Operand} (a b:BitVec w) (hk:k (.d (.val (.int kd ((a||| b).toNat:Int)))) H nx [] []) (ho:o.op= .binOp .or t x y u:=by exact rfl) (hx:aH S x= .d (.val (.int kd (a.toNat:Int))):=by exact rfl) (hy:aH S y= .d (.val (.int kd (b.toNat:Int))):=by exact rfl):aU P eR o ⟨S,H,nx,df⟩ k:=by
 have hb:=Wk.bits (kd:=kd)
 subst hb
 refine gT ho hx hy rfl rfl ?_ hk
 show PV.d (.val (.int kd (kd.wrap (BitVec.ofInt kd.bits a.toNat||| BitVec.ofInt kd.bits b.toNat).toNat)))=_
 rw [ji,ji,Wk.wrap (kd:=kd),ji]
theorem kF {t u:TypeId} {x y:Operand} (a b:BitVec w) (hk:k (.d (.val (.int kd ((a^^^b).toNat:Int)))) H nx [] []) (ho:o.op= .binOp .xor t x y u:=by exact rfl) (hx:aH S x= .d (.val (.int kd (a.toNat:Int))):=by exact rfl) (hy:aH S y= .d (.val (.int kd (b.toNat:Int))):=by exact rfl):aU P eR o ⟨S,H,nx,df⟩ k:=by
 have hb:=Wk.bits (kd:=kd)
 subst hb
 refine gT ho hx hy rfl rfl ?_ hk
 show PV.d (.val (.int kd (kd.wrap (BitVec.ofInt kd.bits a.toNat^^^BitVec.ofInt kd.bits b.toNat).toNat)))=_
 rw [ji,ji,Wk.wrap (kd:=kd),ji]
def sx {w:Nat} (a:BitVec w) (c:Int):BitVec w:=a <<< (min c.toNat w)
def qY {w:Nat} (a:BitVec w) (c:Int):BitVec w:=a >>> (min c.toNat w)
theorem B2 {t u:TypeId} {x y:Operand} (a:BitVec w) (c:Int) {Cs:IntKind} (hk:k (.d (.val (.int kd ((sx a c).toNat:Int)))) H nx [] []) (ho:o.op= .binOp .shl t x y u:=by exact rfl) (hx:aH S x= .d (.val (.int kd (a.toNat:Int))):=by exact rfl) (hy:aH S y= .d (.val (.int Cs c)):=by exact rfl) (h:0≤c:=by decide):aU P eR o ⟨S,H,nx,df⟩ k:=by
 have hb:=Wk.bits (kd:=kd)
 subst hb
 refine gT ho hx hy rfl h ?_ hk
 show PV.d (.val (.int kd (kd.wrap ((a.toNat:Int)*2 ^ (min c.toNat kd.bits)))))=_
 have e:(a.toNat:Int)*2 ^ (min c.toNat kd.bits)=((a.toNat*2 ^ (min c.toNat kd.bits):Nat):Int):=by push_cast;rfl
 rw [e,Wk.wrap (kd:=kd),sx,BitVec.toNat_shiftLeft,Nat.shiftLeft_eq,BitVec.toNat_ofInt]
 norm_cast
theorem B3 {t u:TypeId} {x y:Operand} (a:BitVec w) (c:Int) {Cs:IntKind} (hk:k (.d (.val (.int kd ((qY a c).toNat:Int)))) H nx [] []) (ho:o.op= .binOp .shr t x y u:=by exact rfl) (hx:aH S x= .d (.val (.int kd (a.toNat:Int))):=by exact rfl) (hy:aH S y= .d (.val (.int Cs c)):=by exact rfl) (h:0≤c):aU P eR o ⟨S,H,nx,df⟩ k:=by
 have hb:=Wk.bits (kd:=kd)
 subst hb
 refine gT ho hx hy rfl h ?_ hk
 show PV.d (.val (.int kd ((a.toNat:Int).fdiv (2 ^ (min c.toNat kd.bits)))))=_
 rw [qY,BitVec.toNat_ushiftRight,Nat.shiftRight_eq_div_pow,Int.fdiv_eq_ediv_of_nonneg _ (by exact Int.le_of_lt (Int.pow_pos (by decide)))]
 norm_cast
theorem xX {t u:TypeId} {x:Operand} {Cs:IntKind} (n:Int) (ht:P.underlying t=some (.int Cs)) (hu:P.underlying u=some (.int kd)) (hk:k (.d (.val (.int kd ((BitVec.ofInt w n).toNat:Int)))) H nx [] []) (ho:o.op= .convert t u x:=by exact rfl) (hx:aH S x= .d (.val (.int Cs n)):=by exact rfl):aU P eR o ⟨S,H,nx,df⟩ k:=by
 unfold aU;rw [ho]
 simp only [jV,vp,ht,hu,hx]
 refine ⟨trivial,?_⟩
 rw [Wk.wrap (kd:=kd)];exact hk
theorem Qt {t:TypeId} {x:Operand} (a:BitVec w) (hk:k (.d (.val (.int kd ((~~~a).toNat:Int)))) H nx [] []) (ho:o.op= .unOp .xor t x:=by exact rfl) (hx:aH S x= .d (.val (.int kd (a.toNat:Int))):=by exact rfl) (hs:kd.signed=false:=by exact rfl) (hm:BitVec.ofInt w kd.max=BitVec.allOnes w:=by decide):aU P eR o ⟨S,H,nx,df⟩ k:=by
 have hb:=Wk.bits (kd:=kd)
 subst hb
 unfold aU;rw [ho]
 simp only [jV,un,hx,hs,Bool.false_eq_true,if_false]
 refine ⟨trivial,?_⟩
 rw [hm,ji,BitVec.allOnes_xor,Wk.wrap (kd:=kd),ji];exact hk
end
end Go.Proofs.YtlfjfoknbjcncaaGreat.K
namespace Go.Proofs.YtlfjfoknbjcncaaGreat.K
open Go Go.RowKit
set_option linter.unusedVariables false
set_option linter.unusedSimpArgs false
set_option linter.unusedSectionVars false
variable {P:Program}
def Mt (P:Program) (d:Nat) (t:TypeId) (n:Nat) (cx cy:List D) (b:Bool):Prop:=
 cx.length=n∧cy.length=n∧∀ (m:Mem) (w:World) (off:Nat) (pre pre' UL Pw vs us:List Value),bP m cx vs→bP m cy us→pre.length=off→pre'.length=off→
  ∃ x y,(part t ⟨pre++(vs++UL)⟩ off).run P w= .ok x w∧(part t ⟨pre'++(us++Pw)⟩ off).run P w= .ok y w∧(Op.equalIn d t x y).run P w= .ok b w
def Qu (P:Program) (d:Nat) (t:TypeId) (cx cy:List D) (b:Bool):Prop:=
 ∀ (m:Mem) (w:World) (vs us:List Value),bP m cx vs→bP m cy us→(Op.equalIn d t (.agg ⟨vs⟩) (.agg ⟨us⟩)).run P w= .ok b w
theorem Qu.run {t:TypeId} {cx cy:List D} {b:Bool} (h:Qu P (9999+1) t cx cy b) (hg:P.eqGuardType P.depth t=false):G8 P t (.agg cx) (.agg cy) b:=by
 refine ⟨hg,fun m w v u hv hu=>?_⟩
 simp only [bk] at hv hu
 obtain ⟨vs,rfl,h1,_⟩:=hv
 obtain ⟨us,rfl,h2,_⟩:=hu
 exact ⟨_,_,rfl,rfl,h m w vs us h1 h2⟩
theorem Mt.cell {d:Nat} {t:TypeId} {x y:D} {b:Bool} (ht:jU P t=some (false,1)) (h:∀ m w v u,bk m x v→bk m y u→(Op.equalIn d t v u).run P w= .ok b w):Mt P d t 1 [x] [y] b:=by
 refine ⟨rfl,rfl,fun m w off pre pre' UL Pw vs us hv hu hp hp'=>?_⟩
 simp only [bP] at hv hu
 obtain ⟨v,vr,rfl,h1,rfl⟩:=hv
 obtain ⟨u,ur,rfl,h2,rfl⟩:=hu
 have e1:(part t ⟨pre++([v]++UL)⟩ off).run P w= .ok v w:=by
  have:(pre++v::UL)[off]? =some v:=by subst hp;simp
  simp [part,(iE ht w).1,this]
 have e2:(part t ⟨pre'++([u]++Pw)⟩ off).run P w= .ok u w:=by
  have:(pre'++u::Pw)[off]? =some u:=by subst hp';simp
  simp [part,(iE ht w).1,this]
 exact ⟨v,u,e1,e2,h m w v u h1 h2⟩
theorem Mt.str {d:Nat} {t:TypeId} {a b:List UInt8} (ht:jU P t=some (false,1)) (hu:P.underlying t=some .string):Mt P (d+1) t 1 [.val (sV a)] [.val (sV b)] (a==b):=
 Mt.cell ht fun m w v u h1 h2=>by
  simp only [bk] at h1 h2
  rw [h1,h2]
  have:((⟨a.toArray⟩:ByteArray)==⟨b.toArray⟩)=(a==b):=by
   rw [beq_toListBytes,uT,uT]
  simp [Op.equalIn,run_underlying hu,this]
theorem AX {m:Mem}:∀ {a c:List D} {vs:List Value},bP m (a++c) vs→∃ x y,vs=x++y∧bP m a x∧bP m c y
 | [],c,vs,h=>⟨[],vs,rfl,by simp [bP],h⟩
 | x::a,c,vs,h=>by
  simp only [List.cons_append,bP] at h
  obtain ⟨v,vr,rfl,h1,h2⟩:=h
  obtain ⟨p,q,rfl,h3,h4⟩:=AX h2
  exact ⟨v::p,q,rfl,by simp only [bP];exact ⟨v,p,rfl,h1,h3⟩,h4⟩
def abK (P:Program) (t:TypeId):Bool:=match P.underlying t with
 | some (.struct _)=> !P.stoodInHeld t
 | _=>false
theorem FR {α:Type} [BEq α] [LawfulBEq α] {en:α→D} {e:TypeId} {d:Nat} {m:Mem} {w:World} (h:∀ x y,Mt P d e 1 [en x] [en y] (x==y)):∀ (a b:List α) (pa pb vs us:List Value),a.length=b.length→pa.length=pb.length→bP m (a.map en) vs→bP m (b.map en) us→
  (Op.eqItems d e 1 ⟨pa++vs⟩ ⟨pb++us⟩ (List.range' pa.length a.length)).run P w= .ok (a==b) w
 | [],[],pa,pb,vs,us,_,_,_,_=>rfl
 | x::a,y::b,pa,pb,vs,us,hl,hp,hv,hu=>by
  have NK:bP m ([en x]++a.map en) vs:=hv
  have Xx:bP m ([en y]++b.map en) us:=hu
  obtain ⟨v1,v2,rfl,h1,h2⟩:=AX NK
  obtain ⟨u1,u2,rfl,g1,g2⟩:=AX Xx
  obtain ⟨_,_,hh⟩:=h x y
  obtain ⟨p,q,e1,e2,e3⟩:=hh m w pa.length pa pb v2 u2 v1 u1 h1 g1 rfl hp.symm
  have ih:=FR (w:=w) h a b (pa++v1) (pb++u1) v2 u2 (by simpa using hl) (by rw [List.length_append,List.length_append,n6 h1,n6 g1,hp];rfl) h2 g2
  rw [List.append_assoc,List.append_assoc,List.length_append,n6 h1] at ih
  simp only [List.length_cons,List.length_nil,Nat.zero_add] at ih
  simp only [List.length_cons,List.range'_succ,Op.eqItems,Sem.run_bind,Nat.mul_one,e1,e2,e3,Result.andThen_ok]
  by_cases hx:x=y
  ·subst hx
   simp only [beq_self_eq_true,Bool.not_true,Bool.false_eq_true,if_false]
   rw [ih]
   simp
  ·have h1:(x==y)=false:=by rw [beq_eq_false_iff_ne];exact hx
   have h2:(x::a==y::b)=false:=by simp [hx]
   rw [h1,h2]
   rfl
 | [],_::_,_,_,_,_,hl,_,_,_=>by simp at hl
 | _::_,[],_,_,_,_,hl,_,_,_=>by simp at hl
def So (P:Program) (t:TypeId) (n:Nat) (e:TypeId):Bool:=match P.underlying t with
 | some (.array n' e')=>n==n'&&e==e'&&(match P.info? e with | some _=>P.cellsOf e==1 | none=>false)
 | _=>false
theorem Qu.arr {α:Type} [BEq α] [LawfulBEq α] {en:α→D} {e t:TypeId} {d n:Nat} (ht:So P t n e=true) (h:∀ x y,Mt P d e 1 [en x] [en y] (x==y)) (a b:aD n α):Qu P (d+1) t (a.1.map en) (b.1.map en) (a.1==b.1):=by
 intro m w vs us hv hu
 unfold So at ht
 split at ht
 ·rename_i n' e' Xx
  simp only [Bool.and_eq_true,beq_iff_eq] at ht
  obtain ⟨⟨rfl,rfl⟩,ht⟩:=ht
  split at ht
  ·rename_i i hi
   have hc:P.cellsOf e=1:=by simpa using ht
   rw [run_equalIn_array w d _ _ Xx hi,hc,List.range_eq_range']
   have:=FR (P:=P) (m:=m) (w:=w) h a.1 b.1 [] [] vs us (by rw [a.2,b.2]) rfl hv hu
   rw [a.2] at this
   exact this
  ·cases ht
 ·cases ht
end Go.Proofs.YtlfjfoknbjcncaaGreat.K
namespace Go.Proofs.YtlfjfoknbjcncaaGreat.K
open Go Go.RowKit
set_option linter.unusedVariables false
set_option linter.unusedSimpArgs false
set_option linter.unusedSectionVars false
variable {P:Program}
section
variable {n:Nat} {α:Type} {en:α→D}
theorem sy {a:aD n α} {i:Int} {x:α} (h:0≤i∧i<(n:Int)):m4 ((a.1.map en).map PV.d) (i.toNat*1) [PV.d (en x)]=((a.put i x).1.map en).map PV.d:=by
 have:=s7 (en:=en) (a:=a) (x:=x) h
 rwa [Nat.zero_add] at this
theorem xY {l:List PV} {i:Int} {m tot:Nat} (h:0≤i∧i<(n:Int)) (hl:l.length=tot) (hm:m+n≤tot):m+i.toNat*1+1≤l.length:=by omega
end
end Go.Proofs.YtlfjfoknbjcncaaGreat.K
namespace Go.Proofs.YtlfjfoknbjcncaaGreat.K
open Go Go.RowKit
set_option linter.unusedVariables false
set_option linter.unusedSimpArgs false
set_option linter.unusedSectionVars false
variable {P:Program}
end Go.Proofs.YtlfjfoknbjcncaaGreat.K
namespace Go.Proofs.YtlfjfoknbjcncaaGreat.K
open Go Go.RowKit
set_option linter.unusedVariables false
set_option linter.unusedSimpArgs false
set_option linter.unusedSectionVars false
variable {P:Program}
section
variable {o:Oper} {S:Nat→PV} {H:HM} {nx:Nat} {df:List (Nat×List PV)} {eR:List Nat} {k:PV→HM→Nat→List Nat→List Nat→Prop}
theorem AY {l0:List D} {t u e:TypeId} {x y:Operand} {z:Bool} {l:List D} (ht:P.underlying t=some (.pointer e)) (hk:k (.d (.val (.bool z))) H nx [] []) (ho:o.op= .binOp .eql t x y u:=by exact rfl) (hx:aH S x= .d (.m5 z l):=by exact rfl) (hy:aH S y= .d (.m5 true l0):=by exact rfl):aU P eR o ⟨S,H,nx,df⟩ k:=by
 unfold aU;rw [ho]
 simp only [isEq,CE,hx,hy,Bool.and_false,Bool.false_eq_true,if_false,xO,Ak,ht];exact ⟨trivial,hk⟩
theorem HG {l0:List D} {t u e:TypeId} {x y:Operand} {z:Bool} {l:List D} (ht:P.underlying t=some (.pointer e)) (hk:k (.d (.val (.bool (!z)))) H nx [] []) (ho:o.op= .binOp .neq t x y u:=by exact rfl) (hx:aH S x= .d (.m5 z l):=by exact rfl) (hy:aH S y= .d (.m5 true l0):=by exact rfl):aU P eR o ⟨S,H,nx,df⟩ k:=by
 unfold aU;rw [ho]
 simp only [isEq,CE,hx,hy,Bool.and_false,Bool.false_eq_true,if_false,xO,Ak,ht];exact ⟨trivial,hk⟩
theorem Sp {n:Nat} {a:aD n UInt8} {p q:Int} (h:0≤p∧p≤q∧q≤(n:Int)):(((a.1.map aa).map PV.d).drop (0+p.toNat)).take (q-p).toNat=((sub a.1 p q).map aa).map .d:=by
 unfold sub
 rw [Nat.zero_add, ← List.map_drop, ← List.map_drop, ← List.map_take, ← List.map_take]
theorem Qv {n:Nat} {a:aD n UInt8} {p q:Int} (h:0≤p∧p≤q∧q≤(n:Int)):(sub a.1 p q).length=(q-p).toNat:=by
 unfold sub
 rw [List.length_take,List.length_drop,a.2];omega
end
end Go.Proofs.YtlfjfoknbjcncaaGreat.K
namespace Go.Proofs.YtlfjfoknbjcncaaGreat.K
open Go Go.RowKit
set_option linter.unusedVariables false
set_option linter.unusedSimpArgs false
set_option linter.unusedSectionVars false
variable {P:Program}
theorem AZ {n:Nat} {α:Type} {en:α→D} {a:aD n α} {i:Int} {p:PV} (h:0≤i∧i<(n:Int)):i.toNat*1+[p].length≤((a.1.map en).map PV.d).length:=by simp only [List.length_map,a.2,List.length_singleton];omega
section
variable {N:Nat} {ops:Array Oper} {o:Oper} {r:List Oper} {S:Nat→PV} {H:HM} {nx:Nat} {df:List (Nat×List PV)}
theorem XK.nt {Q:PX→St→Prop} {t e u:TypeId} {x:Operand} {α:Type} {en:α→D} {l:List α} (d:Option Nat) (hd:o.dst=d) (hg:o.guard=none) (ho:o.op= .binOp .eql t x (.const (.slice none 0 0)) u) (hu:P.underlying t=some (.slice e)) (hx:aH S x= .d (.slice (l.map en)))
  (h0:l=[]→XK P ops r ⟨eK S d (.d (.val (.bool true))),H,nx,df⟩ Q) (h1:XK P ops r ⟨eK S d (.d (.val (.bool false))),H,nx,df⟩ Q):XK P ops (o::r) ⟨S,H,nx,df⟩ Q:=by
 subst hd
 refine XK.R3 (s:=⟨S,H,nx,df⟩) hg ho (.inl rfl) hu hx fun b hb=>?_
 cases b with
 | true=>exact h0 (by cases l with | nil=>rfl | cons y ys=>simp at hb)
 | false=>exact h1
end
end Go.Proofs.YtlfjfoknbjcncaaGreat.K
namespace Go.Proofs.YtlfjfoknbjcncaaGreat.K
open Go Go.RowKit
set_option linter.unusedVariables false
theorem UM {l:List D} (h:lI .str l):∃ s:List UInt8,s.length≤maxLen∧l=[.val (sV s)]:=by
 simp only [lI] at h
 obtain ⟨⟨⟨s⟩⟩,rfl,hs⟩:=h
 exact ⟨s,hs,rfl⟩
theorem Px {α:Type} {e:Ty} {f:α→D} (one:∀ c,lI e c→∃ a,c=[f a]) {n:Nat} {l:List D} (h:lI (.arr n e) l):∃ a:aD n α,l=a.1.map f:=by
 simp only [lI] at h
 obtain ⟨ls,h1,rfl,h2⟩:=h
 have:∀ ls:List (List D),(∀ c∈ls,lI e c)→∃ U:List α,U.length=ls.length∧ls.flatten=U.map f:=by
  intro ls
  induction ls with
  | nil=>intro _;exact ⟨[],rfl,rfl⟩
  | cons c r ih=>
   intro h
   obtain ⟨a,e1⟩:=one c (h c (List.mem_cons_self ..))
   obtain ⟨U,e2,e3⟩:=ih fun x hx=>h x (List.mem_cons_of_mem _ hx)
   exact ⟨a::U,by simp [e2],by simp [e1,e3]⟩
 obtain ⟨U,e1,e2⟩:=this ls h2
 exact ⟨⟨U,by omega⟩,e2⟩
theorem aab {α:Type} {e:Ty} {f:α→D} (he:e.isAgg=false) (one:∀ c,lI e c→∃ a,c=[f a]) {l:List D} (h:lI (.slice e) l):∃ xs:List α,xs.length≤maxLen∧l=[.slice (xs.map f)]:=by
 simp only [lI] at h
 obtain ⟨xs,rfl,h1,h2⟩:=h
 obtain ⟨U,h3,rfl⟩:=Hj (e:=e) (f:=f) (fun x hx ha=>by
  obtain ⟨a,e1⟩:=one _ hx
  rw [he] at ha
  exact ⟨a,Ma e1 ha⟩) (xs:=xs) h2
 exact ⟨U,by omega,rfl⟩
theorem UN {α:Type} {e:Ty} {c:α→List D} {f:α→D} (he:e.isAgg=true) (hf:∀ a,f a= .agg (c a)) (one:∀ l,lI e l→∃ a,l=c a) {l:List D} (h:lI (.slice e) l):∃ xs:List α,xs.length≤maxLen∧l=[.slice (xs.map f)]:=by
 simp only [lI] at h
 obtain ⟨xs,rfl,h1,h2⟩:=h
 obtain ⟨U,h3,rfl⟩:=Hj (e:=e) (f:=f) (fun x hx ha=>by
  obtain ⟨a,e1⟩:=one _ hx
  have:∃ c,x= .agg c:=ha▸he
  obtain ⟨c',rfl⟩:=this
  exact ⟨a,by rw [hf];simp only [D.cells] at e1;rw [e1]⟩) (xs:=xs) h2
 exact ⟨U,by omega,rfl⟩
end Go.Proofs.YtlfjfoknbjcncaaGreat.K
namespace Go.Proofs.YtlfjfoknbjcncaaGreat.K
open Go Go.RowKit
set_option linter.unusedVariables false
set_option linter.unusedSimpArgs false
set_option linter.unusedSectionVars false
variable {P:Program}
def dK (l:List D):List PV:=(l.flatMap D.cells).map PV.d
theorem JV (a b:List D):dK (a++b)=dK a++dK b:=by simp [dK]
section
variable {α:Type} {en:α→D} {c:α→List D} {sz:Nat}
theorem wB (hl:uk en c sz):∀ l:List α,(dK (l.map en)).length=l.length*sz
 | []=>by simp [dK]
 | x::r=>by
  have:=wB hl r
  have e:dK ((x::r).map en)=(c x).map PV.d++dK (r.map en):=by simp [dK,hl.cells]
  rw [e,List.length_append,List.length_map,hl.len,this,List.length_cons,Nat.succ_mul,Nat.add_comm]
theorem A0 [Inhabited α] (hl:uk en c sz) (l:List α) {i:Nat} (h:i<l.length):dK (l.map en)=dK ((l.take i).map en)++((c (idx l (i:Int))).map PV.d++dK ((l.drop (i+1)).map en)):=by
 have e:l=l.take i++(l[i]::l.drop (i+1)):=by rw [← List.drop_eq_getElem_cons h,List.take_append_drop]
 have e2:idx l (i:Int)=l[i]:=by simp [idx,List.getD_eq_getElem?_getD,List.getElem?_eq_getElem h]
 conv=>lhs;rw [e]
 rw [e2,List.map_append,JV,List.map_cons]
 congr 1
 simp [dK,hl.cells]
theorem Qw [Inhabited α] (hl:uk en (fun x=>[en x]) 1) {l:List α} {i:Int} (h:0≤i∧i<(l.length:Int)):D4 false 1 (0+i.toNat*1) (dK (l.map en)) (.d (en (idx l i))):=by
 obtain ⟨n,rfl⟩:∃ n:Nat,i=(n:Int):=⟨i.toNat,by omega⟩
 have hn:n<l.length:=by omega
 rw [A0 hl l hn,Nat.zero_add,Int.toNat_natCast]
 have h1:(dK ((l.take n).map en)).length=n*1:=by rw [wB hl,List.length_take,Nat.min_eq_left (by omega)]
 have:=UI (n*1) 0 h1 (BZ (R:=dK ((l.drop (n+1)).map en)) (show D4 false 1 0 ([en (idx l (n:Int))].map PV.d) (.d (en (idx l (n:Int)))) from ⟨⟨by simp,by simp⟩,rfl⟩))
 simpa using this
theorem Sq [Inhabited α] (hl:uk en c sz) {l:List α} {i:Int} {x:α} (h:0≤i∧i<(l.length:Int)):m4 (dK (l.map en)) (0+i.toNat*sz) ((c x).map .d)=dK ((l.set i.toNat x).map en):=by
 obtain ⟨n,rfl⟩:∃ n:Nat,i=(n:Int):=⟨i.toNat,by omega⟩
 have hn:n<l.length:=by omega
 have hn2:n<(l.set n x).length:=by rw [List.length_set];exact hn
 rw [Int.toNat_natCast,A0 hl l hn,A0 hl (l.set n x) hn2,Nat.zero_add]
 have e1:(l.set n x).take n=l.take n:=by rw [List.take_set_of_le (Nat.le_refl _)]
 have e2:(l.set n x).drop (n+1)=l.drop (n+1):=by rw [List.drop_set_of_lt (by omega)]
 have e3:idx (l.set n x) (n:Int)=x:=by simp [idx,List.getD_eq_getElem?_getD,hn]
 rw [e1,e2,e3]
 have h1:(dK ((l.take n).map en)).length=n*sz:=by rw [wB hl,List.length_take,Nat.min_eq_left (by omega)]
 have:=qt (n*sz) 0 h1 (HF (A:=(c (idx l (n:Int))).map PV.d) (R:=dK ((l.drop (n+1)).map en)) (c:=(c x).map PV.d) (m:=sz) (by rw [List.length_map,hl.len]) (by rw [List.length_map,hl.len]))
 simpa using this
theorem UO (hl:uk en c sz) {l:List α} {i:Int} (h:0≤i∧i<(l.length:Int)):0+i.toNat*sz+sz≤(dK (l.map en)).length:=by
 rw [wB hl,Nat.zero_add, ← Nat.succ_mul]
 exact Nat.mul_le_mul_right _ (by omega)
theorem Mu (hl:uk en c sz) (l:List α) (n:Nat) (h:n≤l.length):(dK (l.map en)).take (0+n*sz)=dK ((l.take n).map en):=by
 have h1:(dK ((l.take n).map en)).length=0+n*sz:=by rw [wB hl,List.length_take,Nat.min_eq_left h,Nat.zero_add]
 conv=>lhs;rw [← List.take_append_drop n l]
 rw [List.map_append,JV,List.take_left' h1]
end
section
variable {o:Oper} {S:Nat→PV} {H:HM} {nx:Nat} {df:List (Nat×List PV)} {k:PV→HM→Nat→List Nat→List Nat→Prop}
theorem Sr {t e:TypeId} {x:Operand} {id off n:Nat} (ht:P.underlying t=some (.slice e)) (hk:k (.d (.val (.int .i64 (n:Int)))) H nx [] []) (ho:o.op= .call {callee:= .builtin .len,args:= #[x],argTypes:= #[t]}:=by exact rfl) (hx:aH S x= .iG id off n:=by exact rfl):wM P o ⟨S,H,nx,df⟩ k:=by
 refine Eb (v:= .d (.val (.int .i64 (n:Int)))) ?_ fX.refl hk
 refine bp.still fun m ρ a w hm hx'=>?_
 have e1:=hx' x (by simp [ho,Op.operands,Call.operands])
 obtain ⟨dst,op',type,pos,after,guard⟩:=o
 simp only at ho
 subst ho
 rw [hx] at e1
 simp only [aO] at e1
 refine ⟨.int .i64 n,?_,by simp [aO,bk]⟩
 rcases e1 with ⟨b,c,kk,_,ev,_⟩ | ⟨h0,ad,kk,ev⟩
 ·simp [execOp,resolve,invoke,builtin,Builtin.len_,run_underlying ht,ev,goInt]
 ·subst h0
  simp [execOp,resolve,invoke,builtin,Builtin.len_,run_underlying ht,ev,goInt]
theorem Py {t:TypeId} {x:Operand} {lo hi:Option Operand} {id off n sz jq:Nat} {ag:Bool} (p q:Int) (hs:qG P t=some (sz,jq,ag)) (h:0≤p∧p≤q∧q≤(n:Int)) (hk:k (.iG id (off+p.toNat*sz) (q-p).toNat) H nx [] []) (ho:o.op= .slice t x lo hi none:=by exact rfl) (hx:aH S x= .iG id off n:=by exact rfl) (hl:pV 0 (lo.map (aH S))=some p:=by exact rfl) (hh:pV n (hi.map (aH S))=some q:=by exact rfl):wM P o ⟨S,H,nx,df⟩ k:=by
 refine Eb (v:= .iG id (off+p.toNat*sz) (q-p).toNat) ?_ fX.refl hk
 obtain ⟨h0,h1,h2⟩:=h
 refine bp.still fun m ρ a w hm hx'=>?_
 have e1:=hx' x (by simp [ho,Op.operands])
 have e2:∀ y,lo=some y→aO m ρ (aH S y) (a.eval y):=fun y hy=>hx' y (by simp [ho,hy,Op.operands])
 have e3:∀ y,hi=some y→aO m ρ (aH S y) (a.eval y):=fun y hy=>hx' y (by simp [ho,hy,Op.operands])
 obtain ⟨dst,op',type,pos,after,guard⟩:=o
 simp only at ho
 subst ho
 rw [hx] at e1
 simp only [aO] at e1
 obtain ⟨et,inf,hu,ht,hi',_,_⟩:=wH hs
 have hsz:=(iE ht w).2
 have e:(q-p).toNat=q.toNat-p.toNat:=by omega
 rw [e]
 have gen:∀ (ad:Option Addr) (kk:Nat),a.eval x= .slice ad n kk→n≤kk→(execOp a.eval ⟨dst, .slice t x lo hi none,type,pos,after,guard⟩).run P w= .ok (.value (.slice (if kk=p.toNat then ad else ad.map (·.add (p.toNat*sz))) (q.toNat-p.toNat) (kk-p.toNat))) w:=by
  intro ad kk ev hk
  have hb:=uP (P:=P) (w:=w) (Ju:=true) (cap:=kk) hl hh e2 e3 h0 h1 h2 hk
  simp [execOp,Instr.sliceAt,run_underlying hu,Instr.slice,ev,hb,hsz]
 rcases e1 with ⟨b,c,kk,hr,ev,hkk⟩ | ⟨hn0,ad,kk,ev⟩
 ·refine ⟨_,gen _ _ ev hkk,?_⟩
  simp only [aO]
  by_cases e:kk=p.toNat
  ·exact .inr ⟨by omega,_,_,by rw [show q.toNat-p.toNat=0 by omega]⟩
  ·exact .inl ⟨b,c,kk-p.toNat,hr,by simp [e,jh],by omega⟩
 ·subst hn0
  refine ⟨_,gen ad kk ev (Nat.zero_le _),?_⟩
  simp only [aO]
  exact .inr ⟨by omega,_,_,by rw [show q.toNat-p.toNat=0 by omega]⟩
def WS (P:Program) (t:TypeId):Bool:=match P.underlying t with
 | some (.slice e)=>(match m7 P e with | some l=>l.all Value.oneCell' | none=>false)
 | _=>false
theorem Qx {t:TypeId} {x:Operand} {id off n sz jq:Nat} {l:List PV} (l':List PV) (ht:qH P t=some (sz,jq)) (hf:off+n*sz≤l.length) (hl':l.take off=l') (hk:k .dJ (cG H id (some (.var l'))) nx [id] [id]) (ho:o.op= .call {callee:= .builtin .clear,args:= #[x],argTypes:= #[t]}:=by exact rfl) (NQ:WS P t=true:=by kernel_rfl) (hx:aH S x= .iG id off n:=by exact rfl) (hH:H id=some (.var l):=by exact rfl):wM P o ⟨S,H,nx,df⟩ k:=by
 intro iq
 subst hl'
 have hid:id<nx:=Sm (s:=⟨S,H,nx,df⟩) iq hH
 refine ⟨_,_,_,_,_,⟨Nat.le_refl _,fun i hi _=>by simp at hi;simp [cG,hi],fun i hi=>by
  have:i≠id:=by have:nx≤i:=hi;omega
  simp [cG,this];exact iq i hi,by simp,by simpa using hid,?_⟩,hk⟩
 intro m ρ a w K Q V hf' hxs hK
 have h1:=hxs x (by simp [ho,Op.operands,Call.operands])
 rw [show aH ({S:=S,H:=H,nx:=nx,df:=df}:St).S x=_ from hx] at h1
 simp only [aO] at h1
 obtain ⟨e,i,z,AP,hi,hz,hzs,h0,hsz,hby⟩:=ug ht
 have hE:=V.entry id _ (by simp) hH
 have De:∀ (base:Option Addr) (kk:Nat) (w':World),a.eval x= .slice base n kk→(match base with | some ad=>(if n=0 then w'=w else (storeCells ad (Builtin.zeroCells z.cells n).toList 0).run P w= .ok () w') | none=>w'=w)→
   (execOp a.eval o).run P w= .ok (.value (.tuple #[])) w':=by
  intro base kk w' ev hst
  have hc:(Builtin.clear_ #[t] o.type #[a.eval x]).run P w= .ok (.tuple #[]) w':=by
   rw [ev]
   cases base with
   | none=>subst hst;simp [Builtin.clear_,run_underlying AP]
   | some ad=>
    simp only at hst
    cases n with
    | zero=>simp only [if_true] at hst;subst hst;simp [Builtin.clear_,run_underlying AP]
    | succ n=>
     simp only [Nat.succ_ne_zero,if_false] at hst
     simp [Builtin.clear_,run_underlying AP,zeroValue,typeInfo,hi,hz,hst]
  obtain ⟨dst,op',type,pos,after,guard⟩:=o
  simp only at ho hc
  subst ho
  simp [execOp,resolve,invoke,builtin,hc]
 have same:(execOp a.eval o).run P w= .ok (.value (.tuple #[])) w→o.wp P a w K Q:=by
  intro hrun
  unfold Oper.wp
  rw [hrun,Oper.upon_value]
  refine hK _ m ρ w ⟨Ext.refl _ _ _,dA.le_refl _,fun i=> .inl rfl,⟨V.mem,?_,?_⟩,?_⟩ (by simp [aO])
  ·intro j ob hj zx
   have hj':j=id:=by simpa using hj.elim (fun h=>h) (by omega)
   subst hj'
   simp only [cG,if_true,Option.some.injEq] at zx
   subst zx
   rcases hE with ⟨e0,e1⟩ | ⟨b',c',vs,tail,tb,hr',hb,hrl,hone,hno⟩
   ·exact .inl ⟨by rw [e0];simp,e1⟩
   ·refine .inr ⟨b',c',vs.take off,vs.drop off++tail,tb,hr',by rw [← List.append_assoc,List.take_append_drop];exact hb,pX _ hrl,fun u hu=>hone u (List.mem_of_mem_take hu),hno⟩
  ·intro j j' b1 I5 Xa hj hj' _ _ _ _
   have e1:j=id:=by simpa using hj.elim (fun h=>h) (by omega)
   have e2:j'=id:=by simpa using hj'.elim (fun h=>h) (by omega)
   rw [e1,e2]
  ·rintro b1 ⟨j,I5,hj,_,gi⟩
   have hj':j=id:=by simpa using hj.elim (fun h=>h) (by omega)
   subst hj'
   exact .inl ⟨j,I5,by simp,by rw [show ({S:=S,H:=H,nx:=nx,df:=df}:St).H j=_ from hH];simp,gi⟩
 rcases h1 with ⟨b,c,kk,hr,ev,_⟩ | ⟨Qa,ad,kk,ev⟩
 ·by_cases hn0:n=0
  ·exact same (De _ _ w ev (by simp [hn0]))
  ·rcases hE with ⟨_,hr'⟩ | ⟨b',c',vs,tail,tb,hr',hb,hrl,hone,hno⟩
   ·rw [hr] at hr';cases hr'
   rw [hr] at hr';cases hr'
   have hvl:=o9 hrl
   have hzl:(Builtin.zeroCells z.cells n).toList.length=n*sz:=by rw [Array.length_toList,size_zeroCells,hzs]
   have hz1:∀ v∈(Builtin.zeroCells z.cells n).toList,v.oneCell'=true:=by
    unfold WS at NQ
    simp only [AP,m7,hi,hz,Option.bind_some,Option.map_some,List.all_eq_true] at NQ
    intro v hv
    simp only [Builtin.zeroCells,Array.toList_map,List.mem_map] at hv
    obtain ⟨j,_,rfl⟩:=hv
    have hlt:j%z.cells.size<z.cells.size:=Nat.mod_lt _ (by omega)
    rw [getElem!_pos z.cells _ hlt]
    exact NQ _ (Array.getElem_mem_toList hlt)
   have hst:=run_storeCells_at P b off tb (Builtin.zeroCells z.cells n).toList 0 ⟨vs++tail⟩ w hb (by simp only [List.size_toArray,List.length_append,Nat.add_zero];rw [hzl];omega) hz1
   simp only [Nat.add_zero] at hst
   let w':=w.setRow b ((vs++tail).take off++(Builtin.zeroCells z.cells n).toList++(vs++tail).drop (off+(Builtin.zeroCells z.cells n).toList.length)).toArray
   unfold Oper.wp
   rw [De _ _ w' ev (by simp only [hn0,if_false];exact hst),Oper.upon_value]
   have xL:∀ k,k≠b→w'.heap[k]? =w.heap[k]? :=fun k hk=>setRow_other w b k _ hk
   have FG:w'.heap[b]? =some (.cells ⟨vs.take off++((Builtin.zeroCells z.cells n).toList++(vs++tail).drop (off+(Builtin.zeroCells z.cells n).toList.length))⟩ tb (0,0)):=by
    have:=setRow_heap w b ⟨vs++tail⟩ ((vs++tail).take off++(Builtin.zeroCells z.cells n).toList++(vs++tail).drop (off+(Builtin.zeroCells z.cells n).toList.length)).toArray tb (0,0) hb
    have e1:(vs++tail).take off=vs.take off:=List.take_append_of_le_length (by omega)
    simp only [w']
    rw [e1] at this ⊢
    simpa [List.append_assoc] using this
   have hsize':w'.heap.size=w.heap.size:=by simp [w',World.setRow]
   have hmem:gr m w':=V.mem.step fun k ⟨o',v,e⟩=>xL k (fun hk=>by subst hk;rw [hno o'] at e;cases e)
   refine hK _ m ρ w' ⟨⟨Mem.le_refl _,by omega,fun k hk hnb=>xL k (fun e=>hnb (by subst e;exact ⟨id,c,by simp,by rw [show ({S:=S,H:=H,nx:=nx,df:=df}:St).H id=_ from hH];simp,hr⟩)),rfl,rfl,rfl,fun _ _ _ e=> .inl e⟩,dA.le_refl _,fun i=> .inl rfl,⟨hmem,?_,?_⟩,?_⟩ (by simp [aO])
   ·intro j ob hj zx
    have hj':j=id:=by simpa using hj.elim (fun h=>h) (by omega)
    subst hj'
    simp only [cG,if_true,Option.some.injEq] at zx
    subst zx
    exact .inr ⟨b,c,vs.take off,_,tb,hr,FG,pX _ hrl,fun u hu=>hone u (List.mem_of_mem_take hu),hno⟩
   ·intro j j' b1 I5 Xa hj hj' _ _ _ _
    have e1:j=id:=by simpa using hj.elim (fun h=>h) (by omega)
    have e2:j'=id:=by simpa using hj'.elim (fun h=>h) (by omega)
    rw [e1,e2]
   ·rintro b1 ⟨j,I5,hj,_,gi⟩
    have hj':j=id:=by simpa using hj.elim (fun h=>h) (by omega)
    subst hj'
    exact .inl ⟨j,I5,by simp,by rw [show ({S:=S,H:=H,nx:=nx,df:=df}:St).H j=_ from hH];simp,gi⟩
 ·subst Qa
  exact same (De ad kk w ev (by cases ad<;>simp))
theorem Ss {c:Call} {f:Nat} {x:Operand} {rest:List Operand} {id n:Nat} (l:List D) {ds:List D} {v:Value} (hF:cD P f (.slice l::ds) (.val v)) (hk:k (.d (.val v)) H nx [id] []) (ho:o.op= .call c:=by exact rfl) (hc:c.callee= .value (.func f):=by exact rfl) (hargs:c.args.toList=x::rest:=by exact rfl) (he:e8 P f=true:=by kernel_rfl) (hx:aH S x= .iG id 0 n:=by exact rfl) (hH:H id=some (.var (dK l)):=by exact rfl) (hn:n=l.length:=by simp) (hd:PV.dW (rest.map (aH S))=some ds:=by exact rfl):wM P o ⟨S,H,nx,df⟩ k:=by
 intro iq
 refine ⟨_,_,_,_,_,⟨Nat.le_refl _,fun _ _ _=>rfl,iq,by simp,by simpa using Sm iq hH,?_⟩,hk⟩
 intro m ρ a w K Q V hf hxs hK
 have h1:∀ y∈c.args.toList,aO m ρ (aH S y) (a.eval y):=fun y hy=>hxs y (by simp only [ho,Op.operands,Call.operands];simp only [Array.mem_append];exact .inr (by simpa using hy))
 have Xy:=h1 x (by rw [hargs];simp)
 rw [hx] at Xy
 simp only [aO] at Xy
 have hE:=V.entry id _ (by simp) hH
 have Le:∀ y∈rest,aO m ρ (aH S y) (a.eval y):=fun y hy=>h1 y (by rw [hargs];simp [hy])
 have UP:c.args.toList.map a.eval=a.eval x::rest.map a.eval:=by rw [hargs];rfl
 have e0:(⟨c.args.toList.map a.eval⟩:Array Value)=c.args.map a.eval:=by apply Array.ext';simp
 have go:∀ m1:Mem,m.le m1→gr m1 w→(∀ b o' v',m1 b o'=some v'→m b o'=some v'∨b<w.heap.size)→bk m1 (.slice l) (a.eval x)→o.wp P a w K Q:=by
  intro m1 hle yP _ tQ
  have hr:bP m1 (.slice l::ds) (c.args.toList.map a.eval):=by
   rw [UP]
   simp only [bP]
   exact ⟨_,_,rfl,tQ,bP.mono hle _ _ (xM Le hd)⟩
  unfold Oper.wp
  rw [sZ ho hc he,Oper.upon_enter]
  have:=hF m1 w _ yP hr
  rw [e0] at this
  refine this.mono ?_
  rintro e w' ⟨u,m',rfl,hv,hm',Su⟩
  simp only [bk] at hv
  subst hv
  have hsame:∀ b,b<w.heap.size→w'.heap[b]? =w.heap[b]? :=fun b hb=>Su.block b hb (fun h=>h)
  refine hK u m ρ w' ⟨⟨Mem.le_refl _,Su.size,fun b hb _=>hsame b hb,Su.os,Su.tape,Su.output,fun _ _ _ e=> .inl e⟩,dA.le_refl _,fun i=> .inl rfl,⟨?_,?_,?_⟩,?_⟩ (by simp [aO,bk])
  ·intro b o' v' e'
   have h2:=V.mem b o' v' e'
   refine ⟨?_,h2.2⟩
   have hb:=V.mem.lt e'
   have h3:=h2.1
   unfold World.cell? at h3 ⊢
   rw [hsame b hb];exact h3
  ·intro i ob hi Cq
   have hi':i=id:=by simpa using hi.elim (fun h=>h) (by omega)
   subst hi'
   have Y0:=V.entry i ob (by simp) Cq
   exact Y0.move (Mem.le_refl _) (dA.le_refl _) rfl (fun b c hr=>hsame b (Y0.pU hr)) (fun _ _ _ _ _ h=>h)
  ·intro i j b c1 c2 hi hj _ _ _ _
   have e1:i=id:=by simpa using hi.elim (fun h=>h) (by omega)
   have e2:j=id:=by simpa using hj.elim (fun h=>h) (by omega)
   rw [e1,e2]
  ·rintro b ⟨i,c1,hi,hl,gi⟩
   have hi':i=id:=by simpa using hi.elim (fun h=>h) (by omega)
   subst hi'
   exact .inl ⟨i,c1,by simp,hl,gi⟩
 rcases Xy with ⟨b,cc,kk,hr,ev,hkk⟩ | ⟨h0,ad,kk,ev⟩
 ·rcases hE with ⟨_,hr'⟩ | ⟨b',c',vs,tail,tb,hr',hb,hrl,hone,hno⟩
  ·rw [hr] at hr';cases hr'
  rw [hr] at hr';cases hr'
  have hl:=bC.dW _ _ _ (xR _) hrl
  have hle:m.le (m.with b vs):=Mem.uQ hno
  have yP:gr (m.with b vs) w:=by
   refine V.mem.with (fun _ _=>rfl) (fun o' v' h=>?_) hone
   rw [iH hb,List.getElem?_append_left (List.getElem?_eq_some_iff.1 h).1];exact h
  refine go (m.with b vs) hle yP (fun b' o' v' h=>?_) ?_
  ·unfold Mem.with at h
   split at h
   ·rename_i e;right;rw [e];exact (Array.getElem?_eq_some_iff.1 hb).1
   ·exact .inl h
  ·simp only [bk]
   exact ⟨_,kk,by rw [ev,hn],by omega, .inr ⟨b,0,rfl,kR (hl.mono hle) (fun j u hj=>by simp [Mem.with,hj])⟩⟩
 ·subst h0
  have:l=[]:=List.eq_nil_of_length_eq_zero hn.symm
  subst this
  refine go m (Mem.le_refl _) V.mem (fun _ _ _ h=> .inl h) ?_
  simp only [bk]
  exact ⟨ad,kk,by rw [ev];rfl,Nat.zero_le _, .inl trivial⟩
end
variable {N b:Nat}
theorem View.Og {s:St} {l:List D} {n:Nat} {R:List PV} (id t:Nat) (hH:s.H id=some (.var (dK l++R))) (ht:s.S t= .iG id 0 n) (hn:n=l.length) (Mi:b≤s.nx):View N b s ⟨eK s.S (some t) (.d (.slice l)),cG s.H id none,s.nx,s.df⟩:=by
 intro m ρ a w hI
 have rV:=hI.slots t
 rw [ht] at rV
 simp only [aO] at rV
 have hE:=hI.valid.entry id _ trivial hH
 have fin:∀ m1:Mem,m.le m1→gr m1 w→(∀ x y v,m1 x y=some v→m x y=some v∨∃ c,ρ id=some (x,c))→bk m1 (.slice l) (a.tmps.getD t undef)→∃ m' ρ',Inv N ⟨eK s.S (some t) (.d (.slice l)),cG s.H id none,s.nx,s.df⟩ m' ρ' a w∧Al b m ρ w s.H s.nx m' ρ' w (cG s.H id none):=by
  intro m1 yP hmem hnew iY
  have nh:Inv N ⟨eK s.S (some t) (.d (.slice l)),cG s.H id none,s.nx,s.df⟩ m1 ρ a w:=by
   refine ⟨hI.size,hI.defers.mono yP (dA.le_refl _),fun i=>?_,⟨hmem,fun i o _ vo=>?_,fun i j b1 c1 c2 _ _ hi hj gi kn=>?_⟩,fun i hi=>?_,hI.oX⟩
   ·show aO _ _ (eK s.S (some t) (.d (.slice l)) i) _
    rw [p4]
    split
    ·rename_i e
     subst e
     simpa only [aO] using iY
    ·exact (hI.slots i).mono yP (dA.le_refl _)
   ·by_cases e:i=id
    ·subst e;simp [cG] at vo
    ·simp only [cG,e,if_false] at vo
     have hE:=hI.valid.entry i o trivial vo
     refine hE.move yP (dA.le_refl _) rfl (fun _ _ _=>rfl) (fun b' c' hr o' v e'=>?_)
     rcases hnew b' o' v e' with h1 | ⟨c,h1⟩
     ·exact h1
     ·exact absurd (hI.valid.apart i id b' c' c trivial trivial (by rw [vo];simp) (by rw [hH];simp) hr h1) e
   ·refine hI.valid.apart i j b1 c1 c2 trivial trivial ?_ ?_ gi kn
    ·intro e;apply hi;simp only [cG];split
     ·rfl
     ·exact e
    ·intro e;apply hj;simp only [cG];split
     ·rfl
     ·exact e
   ·simp only [cG]
    split
    ·rfl
    ·exact hI.iq i hi
  have Xk:∀ x,yg ρ (cG s.H id none) (fun _=>True) x→yg ρ s.H (fun _=>True) x:=by
   rintro x ⟨i,c,_,hl,gi⟩
   refine ⟨i,c,trivial,?_,gi⟩
   intro e
   apply hl
   simp only [cG]
   split
   ·rfl
   ·exact e
  refine ⟨m1,ρ,nh,⟨⟨yP,Nat.le_refl _,fun _ _ _=>rfl,rfl,rfl,rfl,fun x y v e=>?_⟩,fun c hc=> .inl (Xk c hc),Mi,fun _ _=>rfl⟩⟩
  rcases hnew x y v e with h2 | ⟨c,h2⟩
  ·exact .inl h2
  ·exact .inr (.inl ⟨id,c,trivial,by rw [hH];simp,h2⟩)
 rcases rV with ⟨b0,cc,kk,hr,ev,hkk⟩ | ⟨h0,ad,kk,ev⟩
 ·rcases hE with ⟨_,hr'⟩ | ⟨b',c',vs,tail,tb,hr',hb,hrl,hone,hno⟩
  ·rw [hr] at hr';cases hr'
  rw [hr] at hr';cases hr'
  have hle:m.le (m.with b0 vs):=Mem.uQ hno
  have yP:gr (m.with b0 vs) w:=by
   refine hI.valid.mem.with (fun _ _=>rfl) (fun o' v' h=>?_) hone
   rw [iH hb,List.getElem?_append_left (List.getElem?_eq_some_iff.1 h).1];exact h
  refine fin (m.with b0 vs) hle yP (fun x y v e=>?_) ?_
  ·unfold Mem.with at e
   split at e
   ·rename_i hx;right;exact ⟨cc,by rw [hx];exact hr⟩
   ·exact .inl e
  ·have UG:bC m ρ (dK l) (vs.take (dK l).length):=by
    have:=pX (dK l).length hrl
    rwa [List.take_left' rfl] at this
   have hl:=bC.dW _ _ _ (xR _) UG
   simp only [bk]
   refine ⟨_,kk,by rw [ev,hn],by omega, .inr ⟨b0,0,rfl,kR (hl.mono hle) (fun j u hj=>?_)⟩⟩
   rw [List.getElem?_take] at hj
   split at hj
   ·simp [Mem.with,hj]
   ·cases hj
 ·subst h0
  have:l=[]:=List.eq_nil_of_length_eq_zero hn.symm
  subst this
  refine fin m (Mem.le_refl _) hI.valid.mem (fun _ _ _ e=> .inl e) ?_
  simp only [bk]
  exact ⟨ad,kk,ev,Nat.zero_le _, .inl trivial⟩
theorem Xz {s:St} {ps:List PV} {m:Mem} {ρ:dA} {w:World} {vs rest:List Value} (T:Nat→Prop) (V:eu T m ρ w s.H) (hf:∀ i,s.nx≤i→i<s.nx+1→ρ i=none)
  (hv:bC m ρ ps vs) (h1:∀ u∈vs,u.oneCell'=true) (t:TypeId):
  Ah T s.nx (s.nx+1) m ρ w s.H m (fun i=>if i=s.nx then some (w.heap.size,0) else ρ i) (w.drew.alloc (.cells ⟨vs++rest⟩ t)) (fun i=>if i=s.nx then some (.var ps) else s.H i):=by
 have hle:ρ.le (fun i=>if i=s.nx then some (w.heap.size,0) else ρ i):=by
  intro i x e
  have:i≠s.nx:=by intro h;subst h;rw [hf _ (Nat.le_refl _) (by omega)] at e;cases e
  simp [this,e]
 have hold:∀ k,k<w.heap.size→(w.drew.alloc (.cells ⟨vs++rest⟩ t)).heap[k]? =w.heap[k]? :=fun k hk=>heap_alloc_old w.drew _ hk
 have hnew:(w.drew.alloc (.cells ⟨vs++rest⟩ t)).heap[w.heap.size]? =some (.cells ⟨vs++rest⟩ t (0,0)):=heap_alloc_new w.drew _
 have hmem:gr m (w.drew.alloc (.cells ⟨vs++rest⟩ t)):=V.mem.step fun k ⟨o',v,e⟩=>hold k (V.mem.lt e)
 refine ⟨⟨Mem.le_refl _,by simp,fun b hb _=>hold b hb,rfl,rfl,rfl,fun b o v h=> .inl h⟩,hle,fun i=>?_,⟨hmem,?_,?_⟩,?_⟩
 ·by_cases h:i=s.nx
  ·exact .inr ⟨by omega,by omega⟩
  ·simp [h]
 ·intro i o hi hH
  by_cases h:i=s.nx
  ·subst h
   simp only [if_true,Option.some.injEq] at hH
   subst hH
   exact .inr ⟨w.heap.size,0,vs,rest,t,by simp,hnew,hv.mono (Mem.le_refl _) hle,h1,uR V.mem⟩
  ·simp only [h,if_false] at hH
   have hE:=V.entry i o (hi.elim id (by omega)) hH
   refine hE.move (Mem.le_refl _) hle (by simp [h]) (fun b c hr=>hold b (hE.pU hr)) (fun _ _ _ _ _ e=>e)
 ·intro i j b c c' hi hj Cq zx gi kn
  have old:∀ k,(T k∨(s.nx≤k∧k<s.nx+1))→k≠s.nx→(if k=s.nx then some (HO.var ps) else s.H k)≠none→∀ b c,(if k=s.nx then some (w.heap.size,0) else ρ k)=some (b,c)→T k∧s.H k≠none∧ρ k=some (b,c)∧b<w.heap.size:=by
   intro k hk hne hl b c hr
   simp only [hne,if_false] at hl hr
   have G6:T k:=hk.elim id (by omega)
   refine ⟨G6,hl,hr,?_⟩
   cases e:s.H k with
   | none=>exact absurd e hl
   | some o=>exact (V.entry k o G6 e).pU hr
  by_cases h:i=s.nx<;>by_cases h':j=s.nx
  ·rw [h,h']
  ·subst h
   have:=old j hj h' zx b c' kn
   simp at gi
   omega
  ·subst h'
   have:=old i hi h Cq b c gi
   simp at kn
   omega
  ·have e1:=old i hi h Cq b c gi
   have e2:=old j hj h' zx b c' kn
   exact V.apart i j b c c' e1.1 e2.1 e1.2.1 e2.2.1 e1.2.2.1 e2.2.2.1
 ·rintro b ⟨i,c,hi,hl,hr⟩
  by_cases h:i=s.nx
  ·subst h
   simp at hr
   exact .inr (by omega)
  ·simp only [h,if_false] at hl hr
   exact .inl ⟨i,c,hi.elim id (by omega),hl,hr⟩
section
variable {o:Oper} {S:Nat→PV} {H:HM} {nx:Nat} {df:List (Nat×List PV)} {k:PV→HM→Nat→List Nat→List Nat→Prop}
theorem Sv {t u:TypeId} {d:TypeDesc} {x y:Operand} {sz jq:Nat} {l2:List D} (ho:o.op= .call {callee:= .builtin .append,args:= #[x,y],argTypes:= #[t,u]}) (ht:qH P t=some (sz,jq)) (hu:P.underlying u=some d) (hd:ni d=true)
  (hx:aH S x= .full []) (hy:(aH S y).more=some l2) (c2:∀ z∈l2,z.cells.length=sz) (hb:l2.length*jq≤140737488355328) (hb0:0<jq) (hk:k (.iG nx 0 l2.length) (cG H nx (some (.var (dK l2)))) (nx+1) [] []):wM P o ⟨S,H,nx,df⟩ k:=by
 intro hn
 refine ⟨_,_,_,_,_,⟨Nat.le_succ _,fun i _ hi=>?_,fun i hi=>?_,by simp,by simp,?_⟩,hk⟩
 ·have:i≠nx:=Nat.ne_of_lt hi
  simp [cG,this]
 ·have hi:nx+1≤i:=hi
  have:i≠nx:=by omega
  simp only [cG,this,if_false];exact hn i (show nx≤i by omega)
 intro m ρ a w K Q V hf hxs hK
 have h1:=hxs x (by simp [ho,Op.operands,Call.operands])
 have h2:=hxs y (by simp [ho,Op.operands,Call.operands])
 rw [show aH ({S:=S,H:=H,nx:=nx,df:=df}:St).S x=_ from hx] at h1
 obtain ⟨e,i,z,AP,hi,hz,hzs,h0,hsz,hby⟩:=ug ht
 obtain ⟨g1,news,g2,g3,g4,g5⟩:=yL (P:=P) V.mem hy h2 c2
 simp only [aO,List.length_nil] at h1
 obtain ⟨ad,ev,iY⟩:=h1
 subst hsz
 subst hby
 have P8:l2.length*1≤l2.length*i.bytes:=Nat.mul_le_mul_left _ hb0
 unfold Oper.wp
 by_cases hkk:l2=[]
 ·subst hkk
  have hrun:=uh (P:=P) w t u o.type e d i AP hu hd hi ad (a.eval y) (by simpa using g1) (by
   have:=g5 w rfl
   have KY:news=[]:=List.eq_nil_of_length_eq_zero (by simpa using g2)
   subst KY
   simpa using this)
  rw [iQ ho (by rw [ev];exact hrun),Oper.upon_value]
  refine hK _ m ρ w ⟨Ext.refl _ _ _,dA.le_refl _,fun i=> .inl rfl,⟨V.mem,?_,?_⟩,?_⟩ ?_
  ·intro k ob hk' hH
   have uS:k=nx:=by have:=hk'.elim (fun h=>by cases h) (fun h=>h);have h2:nx≤k∧k<nx+1:=this;omega
   subst uS
   simp only [cG,if_true,Option.some.injEq] at hH
   subst hH
   exact .inl ⟨rfl,hf _ (Nat.le_refl _) (Nat.lt_succ_self _)⟩
  ·intro k j b c c' hk' _ _ _ hr _
   have uS:k=nx:=by have:=hk'.elim (fun h=>by cases h) (fun h=>h);have h2:nx≤k∧k<nx+1:=this;omega
   subst uS
   rw [hf _ (Nat.le_refl _) (Nat.lt_succ_self _)] at hr;cases hr
  ·rintro b ⟨k,c,hk',_,hr⟩
   have uS:k=nx:=by have:=hk'.elim (fun h=>by cases h) (fun h=>h);have h2:nx≤k∧k<nx+1:=this;omega
   subst uS
   rw [hf _ (Nat.le_refl _) (Nat.lt_succ_self _)] at hr;cases hr
  ·simp only [aO]
   exact .inr ⟨rfl,ad,0,rfl⟩
 ·have hpos:0<l2.length:=List.length_pos_iff.2 hkk
  have hrun:=pM (P:=P) w t u o.type e d i z AP hu hd hi hz ad 0 0 l2.length (a.eval y) [] news g1 (by
   cases ad with
   | none=>simp [Builtin.firstCells]
   | some ad=>simp [Builtin.firstCells,loadCells,loadCellsFrom]) (g5 w.drew rfl) (by omega) (by omega) (by rw [Nat.zero_add];exact growslice_fits hpos hb)
  rw [iQ ho (by rw [ev];exact hrun),Oper.upon_value]
  have hge:=grownCap_ge w (0+l2.length) 0 e
  have hRn:bC m ρ (dK l2) news:=K2 g3
  have hD:=Xz (s:=⟨S,H,nx,df⟩) (w:=w) (· ∈([]:List Nat)) V hf hRn g4 (rest:=(Builtin.zeroCells z.cells (grownCap w (0+l2.length) 0 e-(0+l2.length))).toList) e
  simp only [List.nil_append]
  refine hK _ _ _ _ hD ?_
  simp only [aO]
  refine .inl ⟨w.heap.size,0,grownCap w (0+l2.length) 0 e,by simp,by simp,by omega⟩
end
section
variable {o:Oper} {S:Nat→PV} {H:HM} {nx:Nat} {df:List (Nat×List PV)} {k:PV→HM→Nat→List Nat→List Nat→Prop} {α:Type} {en:α→D} {c:α→List D} {sz:Nat}
theorem Sw {t u:TypeId} {d:TypeDesc} {x y:Operand} {jq:Nat} (l2:List α) (ht:qH P t=some (sz,jq)) (hu:P.underlying u=some d) (hl:uk en c sz) (hb:l2.length*jq≤140737488355328) (hk:k (.iG nx 0 l2.length) (cG H nx (some (.var (dK (l2.map en))))) (nx+1) [] []) (ho:o.op= .call {callee:= .builtin .append,args:= #[x,y],argTypes:= #[t,u]}:=by exact rfl) (hd:ni d=true:=by exact rfl) (hx:aH S x= .full []:=by exact rfl) (hy:(aH S y).more=some (l2.map en):=by exact rfl) (hb0:0<jq:=by decide):wM P o ⟨S,H,nx,df⟩ k:=
 Sv ho ht hu hd hx hy (hl.all l2) (by rw [List.length_map];exact hb) hb0 (by rw [List.length_map];exact hk)
theorem UQ (hl:uk en c sz) {l:List α} {A:Int} {n:Nat} (h:0≤A∧A≤(n:Int)∧(n:Int)≤(n:Int)) (hn:n=l.length):0+A.toNat*sz+((n:Int)-A).toNat*sz≤(dK (l.map en)).length:=by
 rw [wB hl,Nat.zero_add, ← Nat.add_mul]
 exact Nat.mul_le_mul_right _ (by omega)
theorem Qy (hl:uk en c sz) {l:List α} {A:Int} {n:Nat} (h:0≤A∧A≤(n:Int)∧(n:Int)≤(n:Int)) (hn:n=l.length):(dK (l.map en)).take (0+A.toNat*sz)=dK ((l.take A.toNat).map en):=Mu hl l A.toNat (by omega)
end
theorem View.JW {s:St} {α:Type} {en:α→D} {l:List α} {n:Nat} (id t:Nat) (hH:s.H id=some (.var (dK (l.map en)))) (ht:s.S t= .iG id 0 n) (hn:n=l.length) (Mi:b≤s.nx):View N b s ⟨eK s.S (some t) (.d (.slice (l.map en))),cG s.H id none,s.nx,s.df⟩:=
 View.Og (R:=[]) id t (by rw [List.append_nil];exact hH) ht (by rw [List.length_map];exact hn) Mi
theorem View.Y1 {s:St} (t:Nat) (hs:s.S t= .full []) (hb:b≤s.nx):View N b s ⟨eK s.S (some t) (.iG s.nx 0 0),cG s.H s.nx (some (.var [])),s.nx+1,s.df⟩:=by
 refine View.of (Nat.le_trans hb (Nat.le_succ _)) fun m ρ a w hI=>?_
 have rV:=hI.slots t
 rw [hs] at rV
 simp only [aO] at rV
 obtain ⟨ad,ev,_⟩:=rV
 have nn:∀ k,(∃ b c,ρ k=some (b,c))→k≠s.nx:=by
  rintro k ⟨b,c,h⟩ e
  subst e
  rw [hI.oX _ (Nat.le_refl _)] at h;cases h
 have nh:Inv N ⟨eK s.S (some t) (.iG s.nx 0 0),cG s.H s.nx (some (.var [])),s.nx+1,s.df⟩ m ρ a w:=by
  refine ⟨hI.size,hI.defers,fun i=>?_,⟨hI.valid.mem,fun i o _ hH=>?_,fun i j b c c' _ _ hi hj gi kn=>?_⟩,fun i hi=>?_,fun i hi=>hI.oX i (by have:s.nx+1≤i:=hi;omega)⟩
  ·simp only [p4]
   by_cases e:i=t
   ·subst e
    simp only [if_true,aO]
    exact .inr ⟨trivial,ad,0,ev⟩
   ·simp only [e,if_false];exact hI.slots i
  ·simp only [p5] at hH
   by_cases e:i=s.nx
   ·subst e
    simp only [if_true,Option.some.injEq] at hH
    subst hH
    exact .inl ⟨rfl,hI.oX _ (Nat.le_refl _)⟩
   ·simp only [e,if_false] at hH;exact hI.valid.entry i o trivial hH
  ·have e1:=nn i ⟨b,c,gi⟩
   have e2:=nn j ⟨b,c',kn⟩
   simp only [p5,e1,if_false] at hi
   simp only [p5,e2,if_false] at hj
   exact hI.valid.apart i j b c c' trivial trivial hi hj gi kn
  ·have h1:s.nx+1≤i:=hi
   have:i≠s.nx:=by omega
   simp only [p5,this,if_false]
   exact hI.iq i (by omega)
 refine ⟨ρ,nh,?_,fun _ _=>rfl⟩
 rintro b' ⟨i,c,_,hl,gi⟩
 have:=nn i ⟨b',c,gi⟩
 simp only [p5,this,if_false] at hl
 exact ⟨i,c,trivial,hl,gi⟩
end Go.Proofs.YtlfjfoknbjcncaaGreat.K
namespace Go.Proofs.YtlfjfoknbjcncaaGreat.K
open Go Go.RowKit
set_option linter.unusedVariables false
set_option linter.unusedSectionVars false
set_option linter.unusedSimpArgs false
theorem zL {n:Nat}:0≤n:=Nat.zero_le n
theorem g3 {α β γ δ:Type} {a:α} {b:β} {c:γ} {d:δ} {p:PV}:(a=a∧b=b∧c=c)∧d=d∧fX p p:=⟨⟨rfl,rfl,rfl⟩,rfl,fX.refl⟩
theorem Jb {g:Prop} {p:Nat→Prop}:g→∀ i∈([]:List Nat),p i:=fun _ _ hi=>nomatch hi
theorem qZ {a b:Bool} (h:(a&&b)=true):a=true:=(Bool.and_eq_true_iff.mp h).1
theorem sQ {a b c:Bool} (h:((a&&b)&&c)=true):a=true:=qZ (qZ h)
theorem QW.rT {P:Program} {N id:Nat} {ops:Array Oper} {s:St} {Q:PX→St→Prop} (hok:rK ops N=true) (h:XK P ops ops.toList s Q):QW P N 0 (.region id ops false) s Q:=QW.region (Nat.zero_le _) (PW.WM hok h)
theorem QW.sT {P:Program} {N id:Nat} {ops:Array Oper} {y:Code} {s:St} {Q:PX→St→Prop} (hok:rK ops N=true) (h:XK P ops ops.toList s (PX.then (fun s'=>QW P N 0 y s' Q) Q)):QW P N 0 (.seq (.region id ops false) y) s Q:=QW.seq (QW.rT hok h)
theorem XK.nz {P:Program} {ops:Array Oper} {s:St} {next:St→Prop} {Q:PX→St→Prop} (h:next s):XK P ops [] s (PX.then next Q):=XK.nil (cn h)
abbrev pI (n:Int):PV:= .d (.val (.int .i64 n))
abbrev pS (l:List UInt8):PV:= .d (.val (sV l))
abbrev pB (b:Bool):PV:= .d (.val (.bool b))
theorem iC {p:PV} {A:Prop} (h:A):fX p p∧A:=⟨fX.refl,h⟩
theorem xs {P:Program} {ops:Array Oper} {o:Oper} {r:List Oper} {S:Nat→PV} {H:HM} {nx:Nat} {df:List (Nat×List PV)} {Q:PX→St→Prop} (d:Nat) (h0:(o.dst,o.guard)=(some d,none)) (h:aU P [] o ⟨S,H,nx,df⟩ fun v H' cw _ _=>XK P ops r ⟨eK S (some d) v,H',cw,df⟩ Q):XK P ops (o::r) ⟨S,H,nx,df⟩ Q:=XK.st (some d) (congrArg Prod.fst h0) (congrArg Prod.snd h0) h
theorem bL {a b:Nat} (h:Nat.ble a b=true:=by exact rfl):a≤b:=Nat.le_of_ble_eq_true h
section
variable {P:Program} {N id:Nat} {ops:Array Oper} {o:Oper} {r:List Oper} {x:Operand} {y:Code} {S:Nat→PV} {H:HM} {nx b:Nat} {df:List (Nat×List PV)} {s:St} {next:St→Prop} {Q:PX→St→Prop}
theorem rG (h:XK P ops ops.toList s Q) (hok:rK ops N=true:=by kernel_rfl):QW P N 0 (.region id ops false) s Q:=QW.rT hok h
theorem sR (h:XK P ops ops.toList s (PX.then (fun s'=>QW P N 0 y s' Q) Q)) (hok:rK ops N=true:=by kernel_rfl):QW P N 0 (.seq (.region id ops false) y) s Q:=QW.sT hok h
theorem Gk (h:XK P ops ops.toList s Q) (hb:b≤s.nx:=by exact Nat.le_of_ble_eq_true rfl) (hok:rK ops N=true:=by kernel_rfl):QW P N b (.region id ops false) s Q:=QW.region hb (PW.WM hok h)
theorem mK (h:XK P ops ops.toList s (PX.then (fun s'=>QW P N b y s' Q) Q)) (hb:b≤s.nx:=by exact Nat.le_of_ble_eq_true rfl) (hok:rK ops N=true:=by kernel_rfl):QW P N b (.seq (.region id ops false) y) s Q:=QW.seq (Gk h hb hok)
theorem xm (d:Nat) (v:PV) (k:XK P ops r ⟨eK S (some d) v,H,nx,df⟩ Q) (h0:(o.dst,o.guard)=(some d,none):=by exact rfl) (ho:o.op= .move x:=by exact rfl) (hx:aH S x=v:=by exact rfl):XK P ops (o::r) ⟨S,H,nx,df⟩ Q:=xs d h0 (ax _ k (ho:=ho) (hx:=hx))
theorem xa (d:Nat) (v:PV) (k:XK P ops r ⟨eK S (some d) v,H,nx,df⟩ Q) (h0:(o.dst,o.guard)=(some d,none):=by exact rfl) (ho:o.op= .assign x:=by exact rfl) (hx:aH S x=v:=by exact rfl):XK P ops (o::r) ⟨S,H,nx,df⟩ Q:=xs d h0 (cj _ k (ho:=ho) (hx:=hx))
theorem xz (d:Nat) (v:PV) (k:next ⟨eK S (some d) v,H,nx,df⟩) (h0:(o.dst,o.guard)=(some d,none):=by exact rfl) (ho:o.op= .assign x:=by exact rfl) (hx:aH S x=v:=by exact rfl):XK P ops [o] ⟨S,H,nx,df⟩ (PX.then next Q):=xs d h0 (cj _ (XK.nz k) (ho:=ho) (hx:=hx))
theorem xg {g:Bool} (d:Nat) (v:PV) (hd:o.dst=some d) (hg:rJ ops o S=some g) (h:g=true→aU P [] o ⟨AS S,H,nx,df⟩ fun v' H' cw T' W=>(W=[]∧cw=nx∧T'=[])∧H'=H∧fX v' v)
  (k:XK P ops r ⟨eK S (some d) (.cond g v),H,nx,df⟩ Q) (hc:s4 g S o.op.operands.toList:=by repeat (first | exact trivial | refine ⟨fun q=>by first | rfl | exact q | exact qZ q | exact sQ q,?_⟩)):XK P ops (o::r) ⟨S,H,nx,df⟩ Q:=XK.gd (T:=[]) (some d) hd hg hc h Jb k
end
end Go.Proofs.YtlfjfoknbjcncaaGreat.K
namespace Go.Proofs.YtlfjfoknbjcncaaGreat.K
open Go Go.RowKit
set_option linter.unusedVariables false
set_option linter.unusedSimpArgs false
set_option linter.unusedSectionVars false
variable {P:Program}
def ic (x:BitVec 32):D:= .val (.int .u32 (x.toNat:Int))
def fO (x:BitVec 64):D:= .val (.int .u64 (x.toNat:Int))
theorem fI:uk fO (fun x=>[.val (.int .u64 (x.toNat:Int))]) 1:=⟨fun _=>rfl,fun _=>rfl⟩
end Go.Proofs.YtlfjfoknbjcncaaGreat.K
namespace Go.Proofs.YtlfjfoknbjcncaaGreat.K
open Go Go.RowKit
set_option linter.unusedVariables false
set_option linter.unusedSimpArgs false
set_option linter.unusedSectionVars false
variable {P:Program}
end Go.Proofs.YtlfjfoknbjcncaaGreat.K
namespace Go.Proofs.YtlfjfoknbjcncaaGreat.K
open Go Go.RowKit
theorem fX.m5 {l l':List D} {z:Bool} (h:l=l') (hz:z=false):fX (.d (.cF l)) (.d (.m5 z l')):=fun m ρ v e=>by
 subst h hz
 simp only [aO,bk] at e ⊢
 exact .inr ⟨by trivial,e⟩
theorem Qz {α β:Type} {n:Nat} (f:α→β) (z:α) (a:aD n α):List.ofFn (fun i:Fin n=>f (a.1.getD i.1 z))=a.1.map f:=by
 apply List.ext_getElem
 ·simp [a.2]
 ·intro i h1 h2
  have hi:i<a.1.length:=by simpa using h2
  rw [List.getElem_ofFn,List.getElem_map,List.getD_eq_getElem?_getD,List.getElem?_eq_getElem hi]
  rfl
section
variable {P:Program} {ops:Array Oper} {o:Oper} {r:List Oper} {S:Nat→PV} {H:HM} {nx:Nat} {df:List (Nat×List PV)}
theorem XK.fx {Q:PX→St→Prop} (d:Option Nat) (hd:o.dst=d) (hg:o.guard=none) (h:aU P d.toList o ⟨S,H,nx,df⟩ fun v H' cw _ _=>∃ v',fX v v'∧XK P ops r ⟨eK S d v',H',cw,df⟩ Q):XK P ops (o::r) ⟨S,H,nx,df⟩ Q:=by
 intro hn
 subst hd
 obtain ⟨v,H',cw,T,W,h1,v',h2,h3⟩:=kT hn h
 exact .step (.run hg (h1.imp h2)) (h3 h1.nil)
end
theorem View.HH {N b:Nat} {s:St} {l:List PV} {ds ds':List D} {z:Bool} (id t:Nat) (hH:s.H id=some (.var l)) (hl:ds.map PV.d=l) (he:ds=ds') (hz:z=false) (ht:s.S t= .aR id 0) (Mi:b≤s.nx):View N b s ⟨eK s.S (some t) (.d (.m5 z ds')),cG s.H id none,s.nx,s.df⟩:=by
 subst hl he hz
 refine View.trans (View.freeze (l:=ds) id t hH ht Mi) (View.of Mi fun m ρ a w hI=>⟨ρ,⟨hI.size,hI.defers,fun i=>?_,hI.valid,hI.iq,hI.oX⟩,fun _ h=>h,fun _ _=>rfl⟩)
 have:=hI.slots i
 simp only [eK] at this ⊢
 split
 ·rename_i h
  rw [if_pos h] at this
  exact fX.m5 rfl rfl _ _ _ this
 ·rename_i h
  rw [if_neg h] at this
  exact this
variable {P:Program}
theorem cD.yS {f:Nat} {fn:Func} {c:Code} {args:List D} {fd:Nat} {res:D} (hf:P.funcs[f]? =some fn) (hb:fn.body=some c) (hN:args.length≤fn.ntmps) (hfd:e8 P fd=true)
  (h:QW P fn.ntmps 0 c ⟨zA args,fun _=>none,0,[]⟩ (fun px s=>wL P fn.results.toList fd res px s∨Ends P fn.results.toList (fun p=>p.cN=some res) px s)):cD P f args res:=by
 intro m w vs hm hr
 refine calls_of_wp_defers hf hb (wp_mono (h.2 m _ _ w (Jz hm hr hN)) ?_)
 rintro e a w' ⟨px,s,m',ρ',⟨id,p0,hdf,hH,x,p1,hL,rU,Lc,hx,hres,hD⟩ | ⟨hpx,hdf,hres,hp⟩,tQ,hI,hA⟩
 rotate_left
 ·obtain ⟨v,hv,iY⟩:=oI (P:=P) hI hres
  have hd:=hI.defers
  rw [hdf] at hd
  have hd:a.defers=[]:=hd
  have hE:Ext (fun _=>False) m w m' w':=hA.ext.mono (by rintro b ⟨i,c,_,h,_⟩;exact absurd rfl h)
  have key:Leaves P fn a.tmps (fun e w'=>∃ v m',e= .returned v∧bk m' res v∧gr m' w'∧Ext (fun _=>False) m w m' w') a.defers .returning w':=by
   rw [hd];exact ⟨v,hv,v,m',rfl,aO.cN _ _ _ hp iY,hI.valid.mem,hE⟩
  rcases hpx with rfl | rfl<;>simp only [RX] at tQ<;>subst tQ<;>exact key
 have I2:=hI.defers
 rw [hdf] at I2
 obtain ⟨d,l',Mv,QA,Y2,Y3⟩:=I2
 simp only [xJ] at Y3
 subst Y3
 obtain ⟨tgt,dargs⟩:=d
 simp only at QA Y2
 subst QA
 have hlen:∀ (u:FrameMode),u≠ .run→D9 m' x u→Leaves P fn a.tmps (fun e w'=>∃ v m',e= .returned v∧bk m' res v∧gr m' w'∧Ext (fun _=>False) m w m' w') a.defers u w':=by
  intro u hu XA
  rw [Mv]
  refine leaves_cons (f:=fd) (args:=dargs) hu ?_ ?_
  ·simp only [invoke,Array.append_empty]
   exact yl hfd _ _
  ·have abN:id<s.nx:=by
    rcases Nat.lt_or_ge id s.nx with h1 | h1
    ·exact h1
    ·rw [hI.iq _ h1] at hH;cases hH
   have hfr:=Si (P:=P) (nx:=s.nx) (H:=s.H) [id] hL rfl (by simp) ⟨by show s.H id=some (.var (PV.res _ [p0]));rw [hH];simp only [PV.res];rw [rU],trivial⟩ (Nat.le_refl _)
    m' ρ' w' dargs.toList u hI.valid hI.iq hI.oX (by simpa [PV.res,PV.re,ld] using Y2) XA
   refine CallsD.mono hfr ?_
   rintro e u' w2 ⟨v,m2,lH,rfl,CA,V2,hn2,hr2,EX⟩
   have eH:iR (l5 [id] [HO.var [p0]].length s.nx) [HO.var [p1]] 0 s.H=cG s.H id (some (.var [p1])):=by
    show cG s.H (l5 [id] 1 s.nx 0) (some (.var (PV.res (l5 [id] 1 s.nx) [p1])))=_
    simp only [PV.res]
    rw [Lc];rfl
   rw [eH] at V2 hn2 EX
   have AD:Inv fn.ntmps ⟨s.S,cG s.H id (some (.var [p1])),s.nx,[]⟩ m2 lH {a with defers:=[]} w2:=
    ⟨hI.size,rfl,fun t=>(hI.slots t).mono EX.ext.mem EX.pU,V2,hn2,hr2⟩
   obtain ⟨vv,Sh,iY⟩:=oI (P:=P) AD hres
   have hE:Ext (fun _=>False) m w m2 w2:=(hA.ext.trans EX.ext hA.place).mono (by rintro b ⟨i,c,_,h,_⟩;exact absurd rfl h)
   show Leaves P fn a.tmps _ [] (settle u') w2
   rw [CA]
   exact ⟨vv,Sh,vv,m2,rfl,aO.cN _ _ _ hD iY,V2.mem,hE⟩
 cases px with
 | normal=>simp only [RX] at tQ;subst tQ;subst hx;exact hlen .returning (by simp) rfl
 | ret=>simp only [RX] at tQ;subst tQ;subst hx;exact hlen .returning (by simp) rfl
 | exit i=>exact hx.elim
 | panic p=>
  obtain ⟨v,rfl,hv⟩:=tQ
  obtain ⟨d,rfl,rfl⟩:=hx
  simp only [aO] at hv
  exact hlen (.panicking _) (by simp) ⟨v,hv,rfl⟩
theorem yQ.QB {fd:Nat} {fn:Func} {id t:Nat} {o0:Oper} {rest:Code} {c0:Call} {args:List PV} {M M':List HO} {r:PV} (x:Option D) (hf:P.funcs[fd]? =some fn) (hb:fn.body=some (.seq (.region id #[o0] false) rest))
  (h0:o0.op= .call c0) (hc0:c0.callee= .builtin .recover) (g0:o0.guard=none) (d0:o0.dst=some t) (ht:t<fn.ntmps) (hN:args.length≤fn.ntmps)
  (h:QW P fn.ntmps M.length rest ⟨eK (nJ args) (some t) (Am x),aK M,M.length,[]⟩ (Dd P fn.results.toList fn.ntmps M.length (mJ (.ret r) (aK M') M'.length))):yQ P fd args M x M':=by
 intro m ρ w vs u V iq hρ hr hu
 refine callsD_of_wpS hf hb ?_
 intro c₀ cs hm
 have De:∀ a:Act,(execOp a.eval o0).run P w= .ok .recover w:=by
  intro a
  obtain ⟨dst,op',type,pos,after,guard⟩:=o0
  simp only at h0
  subst h0
  obtain ⟨callee,Xp,argTypes⟩:=c0
  simp only at hc0
  subst hc0
  simp [execOp,resolve,invoke,builtin]
 have w0:∀ tm,Region.wanted o0 tm=true:=fun tm=>by unfold Region.wanted;simp only [g0]
 obtain ⟨v,u',Sf,hv,CA⟩:∃ v u',(match recoverD (c₀::cs) with | some x=>x | none=>(.nilIface,c₀::cs))=(v,{c₀ with mode:=u'}::cs)∧aO m ρ (Am x) v∧settle u'= .returning:=by
  cases x with
  | none=>
   simp only [D9] at hu
   subst hu
   refine ⟨.nilIface, .returning,?_,by simp [Am,aO,bk],rfl⟩
   have hc:({c₀ with mode:=FrameMode.returning}:Frame)=c₀:=by rw [← hm]
   simp only [recoverD,hm,hc]
  | some d=>
   obtain ⟨v,hv,rfl⟩:=hu
   refine ⟨v, .panicking [{v:=v,recovered:=true}],?_,by simpa [Am,aO] using hv,rfl⟩
   simp only [recoverD,hm]
 refine wpS_seq (wpS_region ?_)
 show wpOpsS P #[o0] _ [0] _ _ _
 refine FQ (o:=o0) rfl (w0 _) (De _) Sf ?_
 have hI:=Db V iq hρ hr hN
 have hsz:({tmps:=(⟨vs⟩:Array Value)++Array.replicate (fn.ntmps-(⟨vs⟩:Array Value).size) undef,defers:=[]}:Act).tmps.size=fn.ntmps:=hI.size
 generalize ({tmps:=(⟨vs⟩:Array Value)++Array.replicate (fn.ntmps-(⟨vs⟩:Array Value).size) undef,defers:=[]}:Act)=a0 at hI hsz
 rw [d0]
 have AD:Inv fn.ntmps ⟨eK (nJ args) (some t) (Am x),aK M,M.length,[]⟩ m ρ (a0.put (some t) v) w:=by
  refine ⟨by simp [Act.put,hsz],by simpa [Act.put] using hI.defers,?_,hI.valid,hI.iq,hI.oX⟩
  exact ud hsz hI.slots (some t) (fun d hd=>by cases hd;exact ht) hv
 show Code.wpS P rest _ _ _ _
 refine wpS_of_wp (wp_mono (h.2 m ρ _ w AD) ?_)
 rintro e a' w' ⟨px,s,m',ρ',⟨s',Ob,hx,YZ⟩,tQ,nh,hA⟩
 obtain ⟨m2,lH,Lb,Xr⟩:=Ob m' ρ' a' w' nh
 have Xs:=(hA.trans Xr).N8 hρ
 obtain ⟨hdf,hpost⟩:=hx
 have hd:=Lb.defers
 rw [hdf] at hd
 have fin:(pZ P fn.results.toList s').2∧(∃ H',(∀ i,H' i=none∨H' i=s'.H i)∧mJ (.ret r) (aK M') M'.length (.ret (pZ P fn.results.toList s').1) H' s'.nx)→
   a'.defers=[]∧∃ Sg,({c₀ with mode:=u'}::cs:List Frame)={c₀ with mode:=Sg}::cs∧∃ v,(results fn a'.tmps).run P w'= .ok v w'∧
    ∃ v_1 m' ρ',Ending.returned v= .returned v_1∧settle Sg= .returning∧eu (fun _=>True) m' ρ' w' (aK M')∧(∀ i,M'.length≤i→ρ' i=none)∧oG M.length m ρ w (aK M) M'.length m' ρ' w' (aK M'):=by
  rintro ⟨hres,H',hs,Lc,Mq,AW⟩
  obtain ⟨vv,Sh,iY⟩:=oI (P:=P) Lb hres
  refine ⟨hd,u',rfl,vv,Sh,vv,m2,lH,rfl,CA,?_,?_,?_⟩
  ·rw [← Mq];exact Lb.valid.sub hs
  ·rw [← AW];exact Lb.oX
  ·rw [← Mq, ← AW];exact Xs.sub hs
 cases px with
 | normal=>simp only [RX] at tQ;subst tQ;exact fin hpost
 | ret=>simp only [RX] at tQ;subst tQ;exact fin hpost
 | exit i=>exact hpost.elim
 | panic p=>
  obtain ⟨H',_,hp,_⟩:=hpost
  cases hp
end Go.Proofs.YtlfjfoknbjcncaaGreat.K
namespace Go.Proofs.YtlfjfoknbjcncaaGreat.K
open Go Go.RowKit
set_option linter.unusedVariables false
set_option linter.unusedSectionVars false
set_option linter.unusedSimpArgs false
section
variable {P:Program} {N id:Nat} {ops:Array Oper} {o:Oper} {r:List Oper} {x:Operand} {y z:Code} {S:Nat→PV} {H:HM} {nx b:Nat} {df:List (Nat×List PV)} {s:St} {next:St→Prop} {Q:PX→St→Prop}
theorem xS (d:Nat) (h:aU P [] o ⟨S,H,nx,df⟩ fun v H' cw _ _=>XK P ops r ⟨eK S (some d) v,H',cw,df⟩ Q) (h0:(o.dst,o.guard)=(some d,none):=by exact rfl):XK P ops (o::r) ⟨S,H,nx,df⟩ Q:=xs d h0 h
theorem xT (d:Nat) (h:aU P [] o ⟨S,H,nx,df⟩ fun v H' cw _ _=>next ⟨eK S (some d) v,H',cw,df⟩) (h0:(o.dst,o.guard)=(some d,none):=by exact rfl):XK P ops [o] ⟨S,H,nx,df⟩ (PX.then next Q):=by
 refine XK.so (some d) (congrArg Prod.fst h0) (congrArg Prod.snd h0) fun hn=>?_
 obtain ⟨v,H',cw,T,W,h1,h2⟩:=kT hn h
 exact ⟨v,H',cw,T,W,h1,XK.nz h2⟩
theorem qS {Q:St→Prop} (d:Nat) (h:aU P [] o ⟨S,H,nx,df⟩ fun v H' cw _ W=>(W=[]∧cw=nx)∧RQ P ops r ⟨eK S (some d) v,H',cw,df⟩ Q) (h0:(o.dst,o.guard)=(some d,none):=by exact rfl):RQ P ops (o::r) ⟨S,H,nx,df⟩ Q:=RQ.st (some d) (congrArg Prod.fst h0) (congrArg Prod.snd h0) h
theorem q2 {A:Prop} (h:A):(([]:List Nat)=[]∧nx=nx)∧A:=⟨⟨rfl,rfl⟩,h⟩
theorem kS {acc:List Rec} {K:St→List Rec→Prop} (d:Nat) (h:aU P [] o ⟨S,H,nx,df⟩ fun v H' cw T W=>RK P ops r ⟨eK S (some d) v,H',cw,df⟩ (⟨T,W,nx,cw⟩::acc) K) (h0:(o.dst,o.guard)=(some d,none):=by exact rfl):RK P ops (o::r) ⟨S,H,nx,df⟩ acc K:=RK.st (some d) (congrArg Prod.fst h0) (congrArg Prod.snd h0) h
theorem xN (h:aU P [] o ⟨S,H,nx,df⟩ fun v H' cw _ _=>XK P ops r ⟨eK S none v,H',cw,df⟩ Q) (h0:(o.dst,o.guard)=(none,none):=by exact rfl):XK P ops (o::r) ⟨S,H,nx,df⟩ Q:=XK.st none (congrArg Prod.fst h0) (congrArg Prod.snd h0) h
theorem xA (d:Nat) (h:aU P [] o ⟨S,H,nx,df⟩ fun v H' cw _ _=>∃ v',fX v v'∧XK P ops r ⟨eK S (some d) v',H',cw,df⟩ Q) (h0:(o.dst,o.guard)=(some d,none):=by exact rfl):XK P ops (o::r) ⟨S,H,nx,df⟩ Q:=XK.U (some d) (congrArg Prod.fst h0) (congrArg Prod.snd h0) h
theorem qg {Q:St→Prop} {g:Bool} (d:Nat) (v:PV) (hg:rJ ops o S=some g) (h:g=true→aU P [] o ⟨AS S,H,nx,df⟩ fun v' H' cw T' W=>(W=[]∧cw=nx∧T'=[])∧H'=H∧fX v' v)
  (k:RQ P ops r ⟨eK S (some d) (.cond g v),H,nx,df⟩ Q) (hd:o.dst=some d:=by exact rfl) (hc:s4 g S o.op.operands.toList:=by repeat (first | exact trivial | refine ⟨fun q=>by first | rfl | exact q | exact qZ q | exact sQ q,?_⟩)):RQ P ops (o::r) ⟨S,H,nx,df⟩ Q:=RQ.gd (T:=[]) (some d) hd hg hc h Jb k
theorem sk (h:next s):QW P N 0 .skip s (PX.then next Q):=QW.skip zL (cn h)
theorem cT {c:Operand} (t:Bool) (h1:t=true→QW P N 0 y s Q) (h2:t=false→QW P N 0 z s Q) (hc:aH s.S c= .d (.val (.bool t)):=by exact rfl):QW P N 0 (.cond c y z) s Q:=QW.cond hc zL h1 h2
theorem eO {i:Nat} {p:PV} {x y:D} (hd:s.df=[]:=by exact rfl) (h:aN P s (.tmp i) p:=by exact aN.tmp rfl) (ht:p.cN=some x:=by exact rfl) (e:x=y:=by exact rfl):Ends P [.tmp i] (fun p=>p.cN=some y) .ret s:=Ends.one (.inr rfl) hd h ht e
theorem vM (n:Nat) (F:List Nat) {L:List (Nat×PV)} {M:List HO} {df:List (Nat×List PV)} (hn:M.length=n:=by exact rfl) (hF:F.length=M.length:=by exact rfl) (hd:F.Nodup:=by decide)
  (hS:AtR (ld F s.nx) s.S L:=by repeat (first | exact trivial | refine iC ?_ | refine And.intro (fX.cN rfl) ?_)) (hH:Pq (ld F s.nx) s.H M 0:=by repeat (first | exact trivial | refine And.intro (by first | rfl | exact trivial | (simp only [R5,dK,PV.Ho];rfl) | (simp only [R5,HE,PV.Ho];rfl)) ?_))
  (hdf:s.df=Pp (ld F s.nx) df:=by exact rfl) (hb:b≤M.length:=by first | exact zL | exact bL) (hx:F.take b=List.range b:=by exact rfl):View N b s ⟨bW L,aK M,n,df⟩:=View.mk n F L M df hn hF hd hS hH hdf hb hx
theorem lp {c:Code} {s0:St} (I:Nat→St→Prop) (k:Nat) (h0:I k s0) (hv:View N b s s0) (h:∀ k s,I k s→QW P N b c s (PX.then (fun s'=>∃ j,j<k∧∃ s'',View N b s' s''∧I j s'') Q)) (hb:b≤s.nx:=by first | exact zL | exact bL):QW P N b (.loop c) s Q:=QW.loop I k hb ⟨s0,hv,h0⟩ h
theorem lb {I:Nat→St→Prop} {k:Nat} {s':St} (j:Nat) (h:I j s') (hv:View N b s s') (hj:j<k:=by omega):∃ j,j<k∧∃ s'',View N b s s''∧I j s'':=⟨j,hj,s',hv,h⟩
theorem jb {I:St→Prop} {s':St} (h:I s') (hv:View N b s s'):∃ s'',View N b s s''∧I s'':=⟨s',hv,h⟩
theorem fQ {f n:Nat} {fn:Func} {c:Code} {args:List D} {res:D} {rs:List ResultVar} (hf:P.funcs[f]? =some fn) (hn:fn.ntmps=n) (hr:fn.results.toList=rs) (h:QW P n 0 c ⟨bW (D5 args 0),aK [],0,[]⟩ (Ends P rs fun p=>p.cN=some res)) (hb:fn.body=some c:=by exact rfl) (hN:Nat.ble args.length n=true:=by exact rfl):cD P f args res:=by
 subst hn hr
 exact cD.Qh hf hb (Nat.le_of_ble_eq_true hN) (QW.view (View.init rfl) zL h)
end
end Go.Proofs.YtlfjfoknbjcncaaGreat.K
namespace Go.Proofs.YtlfjfoknbjcncaaGreat.K
open Go Go.RowKit
set_option linter.unusedSimpArgs false
set_option linter.unusedVariables false
set_option maxRecDepth 20000
set_option maxHeartbeats 4000000
namespace TT
theorem HI:nR Tryz.prog 28=some (32,1,false):=by kernel_rfl
theorem QC:sv Tryz.prog 145=some ([Value.int IntKind.i64 0], .inl [(0,1)]):=by kernel_rfl
theorem q6:sv Tryz.prog 82=some ([Value.bool false,Value.string ⟨#[]⟩,Value.slice none 0 0], .inl [(0,1),(1,1),(2,1)]):=by kernel_rfl
theorem xZ:e8 Tryz.prog 110=true:=by kernel_rfl
theorem FT:e8 Tryz.prog 117=true:=by kernel_rfl
theorem Mw:e8 Tryz.prog 118=true:=by kernel_rfl
theorem HJ:e8 Tryz.prog 81=true:=by kernel_rfl
theorem zF:e8 Tryz.prog 82=true:=by kernel_rfl
theorem Oh:e8 Tryz.prog 96=true:=by kernel_rfl
theorem zG:e8 Tryz.prog 98=true:=by kernel_rfl
theorem fK:e8 Tryz.prog 99=true:=by kernel_rfl
theorem A2:n5 Tryz.prog 125 0=some (0,1,false):=by kernel_rfl
theorem Mx:n5 Tryz.prog 145 0=some (0,1,false):=by kernel_rfl
theorem p8:n5 Tryz.prog 82 0=some (0,1,false):=by kernel_rfl
theorem iI:n5 Tryz.prog 82 1=some (1,1,false):=by kernel_rfl
theorem fY:n5 Tryz.prog 82 2=some (2,1,false):=by kernel_rfl
theorem Lf:yM Tryz.prog 145=true:=by kernel_rfl
theorem Sx:Tryz.f100.results.toList=[.tmp 4]:=rfl
theorem Sy:Tryz.f101.results.toList=[.cell 2 82, .tmp 3, .cell 4 34]:=rfl
theorem Sz:Tryz.f109.results.toList=[.tmp 4]:=rfl
theorem SA:Tryz.f110.results.toList=[.cell 6 82, .tmp 7]:=rfl
theorem SB:Tryz.f114.results.toList=[.tmp 2, .tmp 3, .tmp 4]:=rfl
theorem SC:Tryz.f117.results.toList=[.tmp 4, .tmp 5]:=rfl
theorem SD:Tryz.f118.results.toList=[]:=rfl
theorem UR:Tryz.f27.results.toList=[.tmp 2]:=rfl
theorem US:Tryz.f43.results.toList=[.tmp 2]:=rfl
theorem UT:Tryz.f47.results.toList=[.tmp 4]:=rfl
theorem UU:Tryz.f51.results.toList=[.tmp 4, .tmp 5]:=rfl
theorem UW:Tryz.f52.results.toList=[.tmp 2, .cell 3 34]:=rfl
theorem UX:Tryz.f53.results.toList=[.cell 2 82]:=rfl
theorem UY:Tryz.f54.results.toList=[.cell 2 82]:=rfl
theorem UZ:Tryz.f74.results.toList=[.tmp 2]:=rfl
theorem U0:Tryz.f79.results.toList=[.tmp 2]:=rfl
theorem U1:Tryz.f80.results.toList=[.tmp 2]:=rfl
theorem Pz:Tryz.f81.results.toList=[]:=rfl
theorem U2:Tryz.f82.results.toList=[.tmp 6]:=rfl
theorem U3:Tryz.f83.results.toList=[.cell 2 82, .tmp 3]:=rfl
theorem U4:Tryz.f95.results.toList=[.tmp 4]:=rfl
theorem U5:Tryz.f96.results.toList=[.tmp 2]:=rfl
theorem U6:Tryz.f98.results.toList=[]:=rfl
theorem U7:Tryz.f99.results.toList=[]:=rfl
theorem B4:qH Tryz.prog 143=some (1,24):=by kernel_rfl
theorem eV:qH Tryz.prog 49=some (1,1):=by kernel_rfl
theorem p9:qH Tryz.prog 80=some (3,48):=by kernel_rfl
theorem QD:qG Tryz.prog 143=some (1,24,false):=by kernel_rfl
theorem fy:qG Tryz.prog 49=some (1,1,false):=by kernel_rfl
theorem qa:qG Tryz.prog 80=some (3,48,true):=by kernel_rfl
theorem SE:jU Tryz.prog 145=some (true,1):=by kernel_rfl
theorem qu:jU Tryz.prog 28=some (true,32):=by kernel_rfl
theorem jl:jU Tryz.prog 3=some (false,1):=by kernel_rfl
theorem kX:jU Tryz.prog 34=some (false,1):=by kernel_rfl
theorem A4:jU Tryz.prog 4=some (false,1):=by kernel_rfl
theorem fJ:jU Tryz.prog 49=some (false,1):=by kernel_rfl
theorem l6:jU Tryz.prog 5=some (false,1):=by kernel_rfl
theorem kY:jU Tryz.prog 80=some (false,1):=by kernel_rfl
theorem bB:jU Tryz.prog 82=some (true,3):=by kernel_rfl
theorem eG:jU Tryz.prog 9=some (false,1):=by kernel_rfl
theorem Oi:Program.underlying Tryz.prog 143=some (.slice 49):=by kernel_rfl
theorem E4:Program.underlying Tryz.prog 20=some (.interface #[]):=by kernel_rfl
theorem kD:Program.underlying Tryz.prog 3=some (.int .i64):=by kernel_rfl
theorem bt:Program.underlying Tryz.prog 49=some (.slice 5):=by kernel_rfl
theorem dw:Program.underlying Tryz.prog 5=some (.int .u8):=by kernel_rfl
theorem m9:Program.underlying Tryz.prog 80=some (.slice 82):=by kernel_rfl
theorem bh:Program.underlying Tryz.prog 9=some (.string):=by kernel_rfl
theorem HK:m7 Tryz.prog 125=some [Value.int IntKind.i64 0]:=by kernel_rfl
theorem Oj:m7 Tryz.prog 145=some [Value.int IntKind.i64 0]:=by kernel_rfl
theorem yT:m7 Tryz.prog 34=some [Value.int IntKind.i64 0]:=by kernel_rfl
theorem QE:m7 Tryz.prog 49=some [Value.slice none 0 0]:=by kernel_rfl
theorem jL:m7 Tryz.prog 82=some [Value.bool false,Value.string ⟨#[]⟩,Value.slice none 0 0]:=by kernel_rfl
end TT
theorem dG:Tryz.prog.follows .mixedOrders=true:=by kernel_rfl
inductive af where
 | nil
 | node (HL:Int) (HN:(List UInt8)) (Ec:(List UInt8)) (E5:Fin 16→af) (My:(List UInt8))
instance:Inhabited af:=⟨.nil⟩
def af.isNil:af→Bool
 | .nil=>true
 | .node .. =>false
def yU:af→List D
 | .nil=>[]
 | .node HL HN Ec E5 My=>(([.val (.int .i64 HL), .slice (HN.map aa), .val (sV Ec)])++((List.ofFn fun i=>D.m5 (E5 i).isNil (yU (E5 i)))++([.val (sV My)])))
def ai (x:af):D:= .m5 x.isNil (yU x)
structure part where
 aX:Int
 bA:(List UInt8)
 dU:(List UInt8)
 cg:(aD 16 af)
 wO:(List UInt8)
 deriving Inhabited
def gU (x:part):List D:=[.val (.int .i64 (x.aX)), .slice ((x.bA).map aa), .val (sV (x.dU))]++((x.cg).1.map ai++([.val (sV (x.wO))]))
def XB (x:part):D:= .agg (gU x)
theorem JX:uk XB gU 20:=⟨fun _=>rfl,fun x=>by simp [gU,x.cg.2]⟩
theorem jM (x:part):sP false 1 ((gU x).drop 0) (.val (.int .i64 (x.aX))):=sP.one
theorem iZ (x:part):sP false 1 ((gU x).drop 1) (.slice ((x.bA).map aa)):=sP.one
theorem x3 (x:part):sP false 1 ((gU x).drop 2) (.val (sV (x.dU))):=sP.one
theorem A5 (x:part):sP true 16 ((gU x).drop 3) (.agg ((x.cg).1.map ai)):=yR 3 0 rfl (HC (show ((x.cg).1.map ai).length=16 by rw [List.length_map,x.cg.2]))
theorem oz (x:part):Pre ((gU x).drop 3) ai x.cg:=JQ 3 0 rfl Oc
theorem Mz (x:part):sP false 1 ((gU x).drop 19) (.val (sV (x.wO))):=yR 3 16 rfl (yR 16 0 (show ((x.cg).1.map ai).length=16 by rw [List.length_map,x.cg.2]) (sP.one))
def af.of (x:part):af:= .node x.aX x.bA x.dU (fun i=>x.cg.1.getD i.1 .nil) x.wO
def af.at:af→part
 | .nil=>default
 | .node HL HN Ec E5 My=>⟨HL,HN,Ec,⟨List.ofFn E5,by simp⟩,My⟩
theorem sA (x:part):gU x=yU (.of x):=by
 have XC:List.ofFn (fun i:Fin 16=>ai (x.cg.1.getD i.1 .nil))=x.cg.1.map ai:=Qz ai .nil x.cg
 simp only [gU,af.of,yU]
 rw [← XC]
 rfl
theorem MA {p:af} (h:p.isNil=false):yU p=gU p.at:=by
 cases p with
 | nil=>cases h
 | node HL HN Ec E5 My=>
  simp only [gU,af.at,yU,List.map_ofFn]
  rfl
theorem dh {p:af} (h:p.isNil=false):PV.d (ai p)= .d (.m5 false (gU p.at)):=by
 rw [← MA h, ← h];rfl
structure Tree where
 fp:af
 deriving Inhabited
def dQ (x:Tree):List D:=[ai (x.fp)]
def gI (x:Tree):D:= .agg (dQ x)
theorem QF (x:Tree):gI x= .agg (dQ x):=rfl
theorem yV:uk gI dQ 1:=⟨fun _=>rfl,fun _=>rfl⟩
structure b8 where
 fG:(aD 32 UInt8)
 aq:(List UInt8)
 deriving Inhabited
def g9 (x:b8):List D:=((x.fG).1.map aa)++[.val (sV (x.aq))]
def iD (x:b8):D:= .agg (g9 x)
theorem B5 (x:b8):iD x= .agg (g9 x):=rfl
theorem dD:uk iD g9 33:=⟨fun _=>rfl,fun x=>by simp [g9,x.fG.2]⟩
theorem A6 (x:b8):sP true 32 ((g9 x).drop 0) (.agg ((x.fG).1.map aa)):=HC (show ((x.fG).1.map aa).length=32 by rw [List.length_map,x.fG.2])
theorem MB (x:b8) (v:(aD 32 UInt8)):m4 ((g9 x).map PV.d) 0 ((v.1.map aa).map PV.d)=(g9 {x with fG:=v}).map PV.d:=Od (show ((x.fG).1.map aa).length=32 by rw [List.length_map,x.fG.2]) (show (v.1.map aa).length=32 by rw [List.length_map,v.2])
theorem x4 (x:b8):sP false 1 ((g9 x).drop 32) (.val (sV (x.aq))):=yR 32 0 (show ((x.fG).1.map aa).length=32 by rw [List.length_map,x.fG.2]) (sP.one)
theorem MC (x:b8) (v:(List UInt8)):m4 ((g9 x).map PV.d) 32 [PV.d (.val (sV v))]=(g9 {x with aq:=v}).map PV.d:=Qp 32 0 (show ((x.fG).1.map aa).length=32 by rw [List.length_map,x.fG.2]) rfl
structure Node where
 aG:Int
 av:(List UInt8)
 aq:(List UInt8)
 aC:(aD 16 (List UInt8))
 deriving Inhabited
def cNode (x:Node):List D:=([.val (.int .i64 (x.aG)), .slice ((x.av).map aa), .val (sV (x.aq))])++((x.aC).1.map eS)
def XD (x:Node):D:= .agg (cNode x)
theorem ki:uk XD cNode 19:=⟨fun _=>rfl,fun x=>by simp [cNode,x.aC.2]⟩
theorem jN (x:Node):sP false 1 ((cNode x).drop 0) (.val (.int .i64 (x.aG))):=sP.one
theorem ja (x:Node):sP false 1 ((cNode x).drop 1) (.slice ((x.av).map aa)):=sP.one
theorem jO (x:Node):sP false 1 ((cNode x).drop 2) (.val (sV (x.aq))):=sP.one
theorem x5 (x:Node):sP true 16 ((cNode x).drop 3) (.agg ((x.aC).1.map eS)):=yR 3 0 rfl (s9 (show ((x.aC).1.map eS).length=16 by rw [List.length_map,x.aC.2]))
theorem nu (x:Node):Pre ((cNode x).drop 3) eS x.aC:=JQ 3 0 rfl (Pre.all _)
theorem HP (x:Node):∀ d∈cNode x,d.flat=true:=(Qq (Df rfl (Df rfl (Df rfl Qr))) (JN _ (fun _=>rfl)))
structure fail where
 fe:Int
 deriving Inhabited
def Ok (x:fail):List D:=[.val (.int .i64 (x.fe))]
structure counter where
 fn:Int
 deriving Inhabited
structure Item where
 bQ:Bool
 fS:(List UInt8)
 fL:(List Item)
instance:Inhabited Item:=⟨⟨default,default,[]⟩⟩
mutual
def aM:Item→D
 | ⟨x0,x1,x2⟩=> .agg [.val (.bool x0), .val (sV x1), .slice (Ed x2)]
def Ed:List Item→List D
 | []=>[]
 | x::r=>aM x::Ed r
end
theorem FU:∀ l:List Item,Ed l=l.map aM
 | []=>by simp [Ed]
 | x::r=>by simp [Ed,FU r]
def ct (x:Item):List D:=([.val (.bool (x.bQ)), .val (sV (x.fS)), .slice ((x.fL).map aM)])
theorem uo (x:Item):aM x= .agg (ct x):=by
 cases x;simp [aM,ct,FU]
theorem gR:uk aM ct 3:=⟨fun x=>by rw [uo];rfl,fun _=>rfl⟩
structure In where
 av:(List UInt8)
 aq:(List UInt8)
 deriving Inhabited
structure Act where
 aG:Int
 fG:(aD 32 UInt8)
 aq:(List UInt8)
 deriving Inhabited
inductive A7 where
 | S
 | L1 (v3:(List UInt8)) (v7:Int)
noncomputable def mL (k0:(aD 32 UInt8)):A7→Option (A7⊕(List UInt8))
 | .S=>
  some (.inl (.L1 ([]:(List UInt8)) (0)))
 | .L1 v3 v7=>
  (bif (decide (v7<(32:Int))) then
  gO (0≤v7∧v7<((32:Nat):Int)) (
  gO ((v3.length+([(oJ (idx k0.1 v7) (4:Int)),((idx k0.1 v7)&&& (15:UInt8))]:List UInt8).length)*1≤140737488355328) (
  gO (bf (v7+(1:Int))) (
  some (.inl (.L1 (v3++([(oJ (idx k0.1 v7) (4:Int)),((idx k0.1 v7)&&& (15:UInt8))]:List UInt8)) (v7+(1:Int)))))))
  else
  some (.inr v3))
noncomputable def sB (k0:(aD 32 UInt8)):Option (List UInt8):=gJ (mL k0) .S
theorem yo (k0:(aD 32 UInt8)) (r:(List UInt8)) (h:sB k0=some r):cD Tryz.prog 27 [.agg (k0.1.map aa)] (.slice (r.map aa)):=by
 refine fQ Tryz.func27 Tryz.ntmps27 TT.UR ?_
 obtain ⟨_,h⟩:=cP h
 obtain ⟨dm,e9,h⟩:=aQ h;rw [mL] at h
 refine sR ?_
 refine XK.fz (some 1) rfl rfl (eE (k0.1.map aa) rfl rfl rfl rfl bK ?_)
 refine xz 2 (.full (([]:(List UInt8)).map aa)) ?_
 refine sR ?_
 refine xz 3 (.full (([]:(List UInt8)).map aa)) ?_
 refine QW.seq ?_
 refine sR ?_
 refine xS 6 (aA (.agg (k0.1.map aa)) TT.qu ?_ (h:=by exact s9 (by rw [List.length_map,k0.2])))
 refine xm 7 (pI (0)) ?_
 refine XK.nz ?_
 refine QW.block ?_
 refine lp (fun k σ=>∃ v3:(List UInt8),∃ v7:Int,k≤dm∧run (mL k0) k (.L1 v3 v7)=some r∧σ=⟨bW [(3, .own 0 (v3.map aa)),(6, .d (.agg (k0.1.map aa))),(7,pI v7)],aK [.spare 1 v3.length],1,[]⟩) dm ⟨([]:(List UInt8)),0,Nat.le_refl _,jG h,rfl⟩ (View.trans (View.buf 3 1 rfl zL) (vM 1 [0])) ?_
 rintro wP _ ⟨v3,v7,wQ,h,rfl⟩
 obtain ⟨k_1,e9,h⟩:=aQ h;rw [mL] at h
 refine sR ?_
 refine xT 8 (cM v7 (32:Int) ?_)
 refine QW.seq ?_
 refine cT (decide (v7<(32:Int))) (fun cQ=>?_) (fun cQ=>?_)
 ·replace h:=ej h cQ
  refine sk ?_
  refine QW.seq ?_
  refine QW.block ?_
  refine sR ?_
  obtain ⟨eD,h⟩:=gG h
  refine xS 9 (wA k0 v7 TT.HI eD ?_)
  refine xz 5 (.d (.val (.int .u8 ((idx k0.1 v7).toNat:Int)))) ?_
  refine rG ?_
  refine xm 10 (.own 0 (v3.map aa)) ?_
  refine xm 11 (.d (.val (.int .u8 ((idx k0.1 v7).toNat:Int)))) ?_
  refine xS 12 (JM (idx k0.1 v7) (4:Int) ?_)
  refine xm 13 (.d (.val (.int .u8 ((idx k0.1 v7).toNat:Int)))) ?_
  refine xS 14 (JK (idx k0.1 v7) (15:UInt8) ?_)
  refine xS 15 (eA aa ([(oJ (idx k0.1 v7) (4:Int)),((idx k0.1 v7)&&& (15:UInt8))]:List UInt8) TT.eV ?_)
  obtain ⟨rW,h⟩:=gG h
  refine xS 16 (kA aa v3 ([(oJ (idx k0.1 v7) (4:Int)),((idx k0.1 v7)&&& (15:UInt8))]:List UInt8) TT.eV TT.bt rW ?_)
  refine xa 3 (.own 1 ((v3++([(oJ (idx k0.1 v7) (4:Int)),((idx k0.1 v7)&&& (15:UInt8))]:List UInt8)).map aa)) ?_
  refine XK.nil (iS (cn ?_))
  refine rG ?_
  obtain ⟨nM,h⟩:=gG h
  refine xS 17 (bE v7 (1:Int) nM ?_)
  refine xm 7 (pI (v7+(1:Int))) ?_
  refine XK.nz ?_
  exact lb k_1 ⟨(v3++([(oJ (idx k0.1 v7) (4:Int)),((idx k0.1 v7)&&& (15:UInt8))]:List UInt8)),(v7+(1:Int)),by omega,jG h,rfl⟩ (vM 1 [1])
 ·replace h:=ek h cQ
  refine QW.exit zL (eP (eP (kW (cn ?_))))
  refine sR ?_
  refine xm 18 (.own 0 (v3.map aa)) ?_
  refine xz 2 (.own 0 (v3.map aa)) ?_
  refine QW.ret zL ?_
  obtain rfl:=sG h
  exact eO
noncomputable def cA (v0:(List UInt8)):Option (List UInt8):=
  gO ((([]:List UInt8).length+v0.length)*1≤140737488355328) (
  some (([]:List UInt8)++v0))
theorem gb (v0:(List UInt8)) (r:(List UInt8)) (h:cA v0=some r):cD Tryz.prog 43 [.slice (v0.map aa)] (.slice (r.map aa)):=by
 refine fQ Tryz.func43 Tryz.ntmps43 TT.US ?_
 unfold cA at h
 refine sR ?_
 refine xz 2 (.full (([]:(List UInt8)).map aa)) ?_
 refine QW.seq ?_
 refine sR ?_
 refine xm 3 (.d (.slice (v0.map aa))) ?_
 refine XK.nt (l:=v0) (some 4) rfl rfl rfl TT.bt rfl (fun e0=>?_) ?_
 ·refine XK.nz ?_
  refine QW.Hl rfl ?_
  refine sR ?_
  refine xz 2 (.full (([]:(List UInt8)).map aa)) ?_
  refine QW.ret zL (dc ?_)
  subst e0;obtain ⟨_,h⟩:=bq h;obtain rfl:=sO h
  exact eO
 ·refine XK.nz ?_
  refine QW.N7 rfl ?_
  refine sk ?_
  refine sR ?_
  refine xS 5 (eA aa ([]:List UInt8) TT.eV ?_)
  refine xm 6 (.d (.slice (v0.map aa))) ?_
  obtain ⟨oK,h⟩:=bq h
  refine xS 7 (D6 aa ([]:List UInt8) v0 TT.eV TT.bt fl ?_ (h:=by exact ⟨oK,fun _=>rfl⟩))
  refine xz 2 (.own 0 ((([]:List UInt8)++v0).map aa)) ?_
  refine QW.ret zL ?_
  obtain rfl:=sO h
  exact eO
inductive CH where
 | S
 | L1 (v5:Int)
noncomputable def ig (a0:(List UInt8)) (b1:(List UInt8)):CH→Option (CH⊕Int)
 | .S=>
  some (.inl (.L1 (0)))
 | .L1 v5=>
  gO ((decide (v5<(gl (a0.length:Int) (b1.length:Int))))=true→0≤v5∧v5<(a0.length:Int)) (
  gO ((decide (v5<(gl (a0.length:Int) (b1.length:Int))))=true→0≤v5∧v5<(b1.length:Int)) (
  (bif ((decide (v5<(gl (a0.length:Int) (b1.length:Int))))&&(decide (((idx a0 v5).toNat:Int)=((idx b1 v5).toNat:Int)))) then
  gO (bf (v5+(1:Int))) (
  some (.inl (.L1 (v5+(1:Int)))))
  else
  some (.inr v5))))
noncomputable def uJ (a0:(List UInt8)) (b1:(List UInt8)):Option Int:=gJ (ig a0 b1) .S
theorem An (a0:(List UInt8)) (b1:(List UInt8)) (r:Int) (h:uJ a0 b1=some r):cD Tryz.prog 47 [.slice (a0.map aa), .slice (b1.map aa)] (.val (.int .i64 r)):=by
 refine fQ Tryz.func47 Tryz.ntmps47 TT.UT ?_
 obtain ⟨_,h⟩:=cP h
 obtain ⟨dm,e9,h⟩:=aQ h;rw [ig] at h
 refine sR ?_
 refine xz 4 (pI (0)) ?_
 refine sR ?_
 refine xz 5 (pI (0)) ?_
 refine QW.seq ?_
 refine QW.block ?_
 refine lp (fun k σ=>∃ v5:Int,k≤dm∧run (ig a0 b1) k (.L1 v5)=some r∧σ=⟨bW [(0, .d (.slice (a0.map aa))),(1, .d (.slice (b1.map aa))),(5,pI v5)],aK [],0,[]⟩) dm ⟨0,Nat.le_refl _,jG h,rfl⟩ (vM 0 []) ?_
 rintro wP _ ⟨v5,wQ,h,rfl⟩
 obtain ⟨k_1,e9,h⟩:=aQ h;rw [ig] at h
 refine QW.seq ?_
 refine QW.seq ?_
 refine QW.region zL (PW.nj (id:=2) dG (M:=_) rfl (by kernel_rfl) ?_)
 refine qS 6 (ax (pI v5) (q2 ?_))
 refine qS 7 (ax (.d (.slice (a0.map aa))) (q2 ?_))
 refine qS 8 (cX aa a0 TT.bt (q2 ?_))
 refine qS 9 (ax (.d (.slice (b1.map aa))) (q2 ?_))
 refine qS 10 (cX aa b1 TT.bt (q2 ?_))
 refine qS 11 (GC (a0.length:Int) (b1.length:Int) (q2 ?_))
 refine qS 12 (cM v5 (gl (a0.length:Int) (b1.length:Int)) (q2 ?_))
 refine qS 13 (ax (pB (decide (v5<(gl (a0.length:Int) (b1.length:Int))))) (q2 ?_))
 refine qg 14 (.d (.slice (a0.map aa))) rfl (fun hg=>ax (.d (.slice (a0.map aa))) g3) ?_
 refine qg 15 (pI v5) rfl (fun hg=>ax (pI v5) g3) ?_
 obtain ⟨yp,h⟩:=gG h
 refine qg 16 (.d (.cF ([.val (.int .u8 ((idx a0 v5).toNat:Int))]))) rfl (fun hg=>bX a0 v5 TT.fy fl (yp (Hu hg)) g3) ?_
 refine qg 17 (.d (.val (.int .u8 ((idx a0 v5).toNat:Int)))) rfl (fun hg=>aA (.val (.int .u8 ((idx a0 v5).toNat:Int))) TT.l6 g3) ?_
 refine qg 18 (.d (.slice (b1.map aa))) rfl (fun hg=>ax (.d (.slice (b1.map aa))) g3) ?_
 refine qg 19 (pI v5) rfl (fun hg=>ax (pI v5) g3) ?_
 obtain ⟨eD,h⟩:=gG h
 refine qg 20 (.d (.cF ([.val (.int .u8 ((idx b1 v5).toNat:Int))]))) rfl (fun hg=>bX b1 v5 TT.fy fl (eD (Hu hg)) g3) ?_
 refine qg 21 (.d (.val (.int .u8 ((idx b1 v5).toNat:Int)))) rfl (fun hg=>aA (.val (.int .u8 ((idx b1 v5).toNat:Int))) TT.l6 g3) ?_
 refine qg 22 (pB (decide (((idx a0 v5).toNat:Int)=((idx b1 v5).toNat:Int)))) rfl (fun hg=>dj ((idx a0 v5).toNat:Int) ((idx b1 v5).toNat:Int) g3) ?_
 refine qS 23 (cO (q2 ?_))
 refine RQ.nil (cn ?_)
 refine cT ((decide (v5<(gl (a0.length:Int) (b1.length:Int))))&&(decide (((idx a0 v5).toNat:Int)=((idx b1 v5).toNat:Int)))) (fun fA=>?_) (fun fA=>?_)
 ·replace h:=ej h fA
  refine sk ?_
  refine QW.block ?_
  refine rG ?_
  refine xm 24 (pI v5) ?_
  obtain ⟨nM,h⟩:=gG h
  refine xS 25 (bE v5 (1:Int) nM ?_)
  refine xa 5 (pI (v5+(1:Int))) ?_
  refine XK.nil (iS (cn ?_))
  exact lb k_1 ⟨(v5+(1:Int)),by omega,jG h,rfl⟩ (vM 0 [])
 ·replace h:=ek h fA
  refine QW.exit zL (eP (eP (kW (cn ?_))))
  refine sR ?_
  refine xm 26 (pI v5) ?_
  refine xz 4 (pI v5) ?_
  refine QW.ret zL ?_
  obtain rfl:=sG h
  exact eO
inductive FV where
 | S
 | L1 (v3:(List UInt8)) (v8:Int)
noncomputable def mM (jZ:(List (List UInt8))):FV→Option (FV⊕(List UInt8))
 | .S=>
  some (.inl (.L1 ([]:(List UInt8)) (0)))
 | .L1 v3 v8=>
  (bif (decide (v8<(jZ.length:Int))) then
  gO (0≤v8∧v8<(jZ.length:Int)) (
  gO ((v3.length+(idx jZ v8).length)*1≤140737488355328) (
  gO (bf (v8+(1:Int))) (
  some (.inl (.L1 (v3++(idx jZ v8)) (v8+(1:Int)))))))
  else
  some (.inr v3))
noncomputable def sC (jZ:(List (List UInt8))):Option (List UInt8):=gJ (mM jZ) .S
theorem uK (jZ:(List (List UInt8))) (r:(List UInt8)) (h:sC jZ=some r):cD Tryz.prog 79 [.slice (jZ.map (eL aa))] (.slice (r.map aa)):=by
 refine fQ Tryz.func79 Tryz.ntmps79 TT.U0 ?_
 obtain ⟨_,h⟩:=cP h
 obtain ⟨dm,e9,h⟩:=aQ h;rw [mM] at h
 refine sR ?_
 refine xz 2 (.full (([]:(List UInt8)).map aa)) ?_
 refine sR ?_
 refine xz 3 (.full (([]:(List UInt8)).map aa)) ?_
 refine QW.seq ?_
 refine sR ?_
 refine xm 6 (.d (.slice (jZ.map (eL aa)))) ?_
 refine xS 7 (cX (eL aa) jZ TT.Oi ?_)
 refine xm 8 (pI (0)) ?_
 refine XK.nz ?_
 refine QW.block ?_
 refine lp (fun k σ=>∃ v3:(List UInt8),∃ v8:Int,k≤dm∧run (mM jZ) k (.L1 v3 v8)=some r∧σ=⟨bW [(3, .own 0 (v3.map aa)),(6, .d (.slice (jZ.map (eL aa)))),(7,pI (jZ.length:Int)),(8,pI v8)],aK [.spare 1 v3.length],1,[]⟩) dm ⟨([]:(List UInt8)),0,Nat.le_refl _,jG h,rfl⟩ (View.trans (View.buf 3 1 rfl zL) (vM 1 [0])) ?_
 rintro wP _ ⟨v3,v8,wQ,h,rfl⟩
 obtain ⟨k_1,e9,h⟩:=aQ h;rw [mM] at h
 refine sR ?_
 refine xT 9 (cM v8 (jZ.length:Int) ?_)
 refine QW.seq ?_
 refine cT (decide (v8<(jZ.length:Int))) (fun cQ=>?_) (fun cQ=>?_)
 ·replace h:=ej h cQ
  refine sk ?_
  refine QW.seq ?_
  refine QW.block ?_
  refine sR ?_
  obtain ⟨eD,h⟩:=gG h
  refine xS 10 (bX jZ v8 TT.QD Hr eD ?_)
  refine xS 11 (aA (.slice ((idx jZ v8).map aa)) TT.fJ ?_)
  refine xz 5 (.d (.slice ((idx jZ v8).map aa))) ?_
  refine rG ?_
  refine xm 12 (.own 0 (v3.map aa)) ?_
  refine xm 13 (.d (.slice ((idx jZ v8).map aa))) ?_
  obtain ⟨rW,h⟩:=gG h
  refine xS 14 (kA aa v3 (idx jZ v8) TT.eV TT.bt rW ?_)
  refine xa 3 (.own 1 ((v3++(idx jZ v8)).map aa)) ?_
  refine XK.nil (iS (cn ?_))
  refine rG ?_
  obtain ⟨nM,h⟩:=gG h
  refine xS 15 (bE v8 (1:Int) nM ?_)
  refine xm 8 (pI (v8+(1:Int))) ?_
  refine XK.nz ?_
  exact lb k_1 ⟨(v3++(idx jZ v8)),(v8+(1:Int)),by omega,jG h,rfl⟩ (vM 1 [1])
 ·replace h:=ek h cQ
  refine QW.exit zL (eP (eP (kW (cn ?_))))
  refine sR ?_
  refine xm 16 (.own 0 (v3.map aa)) ?_
  refine xz 2 (.own 0 (v3.map aa)) ?_
  refine QW.ret zL ?_
  obtain rfl:=sG h
  exact eO
set_option maxRecDepth 20000 in
theorem sD (e0:Int):yQ Tryz.prog 81 [.aR 0 0] [.var [pI e0]] none [.var [pI e0]]:=by
 refine yQ.Mp (r:= .tuple []) none Tryz.func81 rfl rfl rfl rfl rfl rfl rfl rfl (by simp [Tryz.ntmps81]) (by simp [Tryz.ntmps81]) (by simp [Tryz.ntmps81]) ?_
 rw [Tryz.ntmps81,TT.Pz]
 refine QW.view (s':=⟨bW [(0, .aR 0 0),(2, .d (.val .nilIface)),(5, .d (.val .nilIface))],aK [.var [pI e0]],1,[]⟩) (vM 1 [0]) bL ?_
 refine QW.seq ?_
 refine mK ?_
 refine xm 6 (.d (.val .nilIface)) ?_
 refine XK.pr (v:=pB true) (some 7) rfl rfl (HD rfl TT.E4 rfl) ?_
 refine XK.nz ?_
 refine QW.Hl rfl ?_
 refine QW.ret bL (dc ?_)
 exact Dd.none (s':=⟨bW [],aK [.var [pI e0]],1,[]⟩) (.inr rfl) (vM 1 [0]) rfl rfl rfl
set_option maxRecDepth 20000 in
theorem sE (e0 e:Int):yQ Tryz.prog 81 [.aR 0 0] [.var [pI e0]] (some (.iface 145 (.agg [.val (.int .i64 e)]))) [.var [pI e]]:=by
 refine yQ.Mp (r:= .tuple []) (some (.iface 145 (.agg [.val (.int .i64 e)]))) Tryz.func81 rfl rfl rfl rfl rfl rfl rfl rfl (by simp [Tryz.ntmps81]) (by simp [Tryz.ntmps81]) (by simp [Tryz.ntmps81]) ?_
 rw [Tryz.ntmps81,TT.Pz]
 refine QW.view (s':=⟨bW [(0, .aR 0 0),(2, .d (.iface 145 (.agg [.val (.int .i64 e)]))),(5, .d (.iface 145 (.agg [.val (.int .i64 e)])))],aK [.var [pI e0]],1,[]⟩) (vM 1 [0]) bL ?_
 refine QW.seq ?_
 refine mK ?_
 refine xm 6 (.d (.iface 145 (.agg [.val (.int .i64 e)]))) ?_
 refine xT 7 (Qs TT.E4 ?_)
 refine QW.N7 rfl ?_
 refine QW.skip bL (cn ?_)
 refine mK ?_
 refine xm 9 (.d (.iface 145 (.agg [.val (.int .i64 e)]))) ?_
 refine XK.pr (v:= .d (.tuple [.agg (Ok (⟨e⟩:fail)), .val (.bool true)])) (some 10) rfl rfl (Mr TT.Lf rfl rfl) ?_
 refine xm 8 (.d (.tuple [.agg (Ok (⟨e⟩:fail)), .val (.bool true)])) ?_
 refine xS 11 (aY (d:= .agg (Ok (⟨e⟩:fail))) ?_)
 refine xS 12 (aY (d:= .val (.bool true)) ?_)
 refine xS 3 (bl [pI (0)] TT.Oj ?_)
 refine xN (aV [pI e] TT.SE ?_)
 refine xz 4 (pB true) ?_
 refine mK ?_
 refine xm 13 (.aR 0 0) ?_
 refine xS 14 (lY (.aR 0 0) ?_)
 refine xN (aV [pI (2)] TT.kX ?_)
 refine XK.nz ?_
 refine mK ?_
 refine xm 15 (pB true) ?_
 refine XK.nz ?_
 refine QW.Hl rfl ?_
 refine Gk ?_
 refine xm 16 (.aR 0 0) ?_
 refine xS 17 (dF TT.Mx ?_)
 refine xS 18 (aW (pI e) TT.kX ?_)
 refine xS 19 (lY (.aR 0 0) ?_)
 refine xN (aV [pI e] TT.kX ?_)
 refine XK.nil ?_
 exact Dd.none (s':=⟨bW [],aK [.var [pI e]],1,[]⟩) (.inl rfl) (vM 1 [0]) rfl rfl rfl
noncomputable def gK (Ol:Bool) (e1:Int):Option (Unit⊕Int):=
  (bif (!Ol) then
  some (.inr e1)
  else
  some (.inl ()))
theorem dH (Ol:Bool) (e1:Int) (r:(Unit⊕Int)) (h:gK Ol e1=some r):Spec Tryz.prog 99 [pB Ol,pI e1] (aK []) 0 (mJ (match r with | .inl x=>Out.ret (.tuple []) | .inr e=>Out.nV (.d (.iface 145 (.agg [.val (.int .i64 e)])))) (aK []) 0):=by
 refine Spec.sw Tryz.func99 rfl (by simp [Tryz.ntmps99]) bL ?_
 rw [Tryz.ntmps99,TT.U7]
 refine QW.view (s':=⟨bW [(0,pB Ol),(1,pI e1)],aK [],0,[]⟩) (View.nJ zL (by rfl)) zL ?_
 unfold gK at h
 refine sR ?_
 refine xm 4 (pB Ol) ?_
 refine xT 5 (kV ?_)
 refine cT (!Ol) (fun c8=>?_) (fun c8=>?_)
 ·replace h:=bT h c8
  refine rG ?_
  refine xm 6 (pI e1) ?_
  refine xS 7 (dX (.agg [pI e1]) rfl TT.QC (cI rfl (bY (cells':=[pI e1]) rfl rfl rfl bL rfl cH)) ?_)
  refine xS 8 (BY (.agg [.val (.int .i64 e1)]) ?_)
  refine XK.panic rfl rfl rfl ?_
  obtain rfl:=sO h
  exact gu.nV (s':=⟨bW [],aK [],0,[]⟩) (vM 0 []) rfl bL (fun i hi=>ec [] [] i hi) rfl (by simp [HO.bw,HO.bH,PV.bw,PV.bH,cz,dK])
 ·replace h:=bF h c8
  refine QW.skip zL ?_
  obtain rfl:=sO h
  exact gu.none (s':=⟨bW [],aK [],0,[]⟩) (.inl rfl) (vM 0 []) rfl bL (fun i hi=>ec [] [] i hi) rfl (by simp [HO.bw,HO.bH,PV.bw,PV.bH,cz,dK])
noncomputable def fZ (gm:Int) (c0:counter):Option ((Unit⊕Int)×counter):=
  gO (bf ((c0.fn)+(1:Int))) (
  ((gK (decide (gm≤(64:Int))) (17)).bind fun xx=>match xx with
  | .inl nW=>
    ((gK (decide (((c0.fn)+(1:Int))≤(4096:Int))) (4)).bind fun xx=>match xx with
    | .inl MD=>
      some ((.inl ()),(⟨((c0.fn)+(1:Int))⟩:counter))
    | .inr A8=>
      some (.inr A8,(⟨((c0.fn)+(1:Int))⟩:counter)))
  | .inr e_5=>
    some (.inr e_5,(⟨((c0.fn)+(1:Int))⟩:counter))))
theorem nv (gm:Int) (c0:counter) (r:((Unit⊕Int)×counter)) (h:fZ gm c0=some r):Spec Tryz.prog 98 [.aR 0 0,pI gm] (aK [.var [pI (c0.fn)]]) 1 (mJ (match r.1 with | .inl x=>Out.ret (.tuple []) | .inr e=>Out.nV (.d (.iface 145 (.agg [.val (.int .i64 e)])))) (aK [.var [pI ((r.2).fn)]]) 1):=by
 refine Spec.sw Tryz.func98 rfl (by simp [Tryz.ntmps98]) bL ?_
 rw [Tryz.ntmps98,TT.U6]
 refine QW.view (s':=⟨bW [(0, .aR 0 0),(1,pI gm)],aK [.var [pI (c0.fn)]],1,[]⟩) (View.nJ bL (by rfl)) bL ?_
 unfold fZ at h
 refine mK ?_
 refine xm 4 (.aR 0 0) ?_
 refine xS 5 (lY (.aR 0 0) ?_)
 refine xS 6 (dF TT.A2 ?_)
 refine xS 7 (aW (pI (c0.fn)) TT.jl ?_)
 obtain ⟨oK,h⟩:=bq h
 refine xS 8 (bE (c0.fn) (1:Int) oK ?_)
 refine xS 9 (lY (.aR 0 0) ?_)
 refine xS 10 (dF TT.A2 ?_)
 refine xN (aV [pI ((c0.fn)+(1:Int))] TT.jl ?_)
 refine XK.nz ?_
 refine mK ?_
 refine xm 11 (pI gm) ?_
 refine xS 12 (uI gm (64:Int) ?_)
 obtain ⟨nW | e_5,nS,h⟩:=bO h
 ·refine XK.fr (p:= .tuple []) (H2:=_) (nr:=1) (some 13) rfl rfl (bR [] rfl rfl TT.fK (dH (decide (gm≤(64:Int))) (17) _ nS) rfl rfl (by decide) trivial bL) rfl rfl rfl ?_
  refine XK.nz ?_
  refine Gk ?_
  refine xm 14 (.aR 0 0) ?_
  refine xS 15 (lY (.aR 0 0) ?_)
  refine xS 16 (dF TT.A2 ?_)
  refine xS 17 (aW (pI ((c0.fn)+(1:Int))) TT.jl ?_)
  refine xS 18 (uI ((c0.fn)+(1:Int)) (4096:Int) ?_)
  obtain ⟨MD | A8,oA,h⟩:=bO h
  ·refine XK.fr (p:= .tuple []) (H2:=_) (nr:=1) (some 19) rfl rfl (bR [] rfl rfl TT.fK (dH (decide (((c0.fn)+(1:Int))≤(4096:Int))) (4) _ oA) rfl rfl (by decide) trivial bL) rfl rfl rfl ?_
   refine XK.nil ?_
   obtain rfl:=sO h
   exact gu.none (s':=⟨bW [],aK [.var [pI ((c0.fn)+(1:Int))]],1,[]⟩) (.inl rfl) (vM 1 [0]) rfl bL (fun i hi=>ec [.var [pI ((c0.fn)+(1:Int))]] [] i hi) rfl (by simp [HO.bw,HO.bH,PV.bw,PV.bH,cz,dK])
  ·refine XK.fp (p:= .d (.iface 145 (.agg [.val (.int .i64 A8)]))) (H2:=_) (nr:=1) rfl (bR [] rfl rfl TT.fK (dH (decide (((c0.fn)+(1:Int))≤(4096:Int))) (4) _ oA) rfl rfl (by decide) trivial bL) rfl rfl rfl ?_
   obtain rfl:=sO h
   exact gu.nV (s':=⟨bW [],aK [.var [pI ((c0.fn)+(1:Int))]],1,[]⟩) (vM 1 [0]) rfl bL (fun i hi=>ec [.var [pI ((c0.fn)+(1:Int))]] [] i hi) rfl (by simp [HO.bw,HO.bH,PV.bw,PV.bH,cz,dK])
 ·refine XK.fp (p:= .d (.iface 145 (.agg [.val (.int .i64 e_5)]))) (H2:=_) (nr:=1) rfl (bR [] rfl rfl TT.fK (dH (decide (gm≤(64:Int))) (17) _ nS) rfl rfl (by decide) trivial bL) rfl rfl rfl (tR ?_)
  obtain rfl:=sO h
  exact gu.nV (s':=⟨bW [],aK [.var [pI ((c0.fn)+(1:Int))]],1,[]⟩) (vM 1 [0]) rfl bL (fun i hi=>ec [.var [pI ((c0.fn)+(1:Int))]] [] i hi) rfl (by simp [HO.bw,HO.bH,PV.bw,PV.bH,cz,dK])
noncomputable def gL (s0:(List UInt8)):Option Item:=
  some (⟨false,s0,([]:(List Item))⟩:Item)
theorem nN (s0:(List UInt8)) (r:Item) (h:gL s0=some r):cD Tryz.prog 54 [.val (sV s0)] (.agg (ct r)):=by
 refine fQ Tryz.func54 Tryz.ntmps54 TT.UY ?_
 unfold gL at h
 refine sR ?_
 refine xT 2 (bl [pB false,pS ([]:List UInt8), .full (([]:(List Item)).map aM)] TT.jL ?_)
 refine sR ?_
 refine xm 3 (pS s0) ?_
 refine xS 4 (dX (.agg [pB false,pS s0, .full (([]:(List Item)).map aM)]) rfl TT.q6 (cI rfl (bY (cells':=[pB false,pS s0, .full (([]:(List Item)).map aM)]) rfl rfl rfl bL rfl cH)) ?_)
 refine xN (aV [pB false,pS s0, .full (([]:(List Item)).map aM)] TT.bB ?_)
 refine XK.nz ?_
 refine QW.ret zL ?_
 obtain rfl:=sO h
 exact Ends.one (.inr rfl) rfl (aN.cell rfl rfl TT.bB ⟨⟨by simp,by simp⟩,rfl⟩) rfl rfl
inductive CI where
 | S
 | L1 (v6:Int) (uW:Int)
noncomputable def dL (s0:(List UInt8)) (eN:Int):CI→Option (CI⊕((Int×Int)⊕Int))
 | .S=>
  gO (0≤(0:Int)∧(0:Int)<(s0.length:Int)) (
  gO (bf (((idx s0 (0:Int)).toNat:Int)-eN)) (
  (bif (decide ((((idx s0 (0:Int)).toNat:Int)-eN)≤(55:Int))) then
  some (.inr (.inl ((((idx s0 (0:Int)).toNat:Int)-eN),1)))
  else
  gO (bf ((((idx s0 (0:Int)).toNat:Int)-eN)-(55:Int))) (
  ((gK (decide (((((idx s0 (0:Int)).toNat:Int)-eN)-(55:Int))<(s0.length:Int))) (5)).bind fun xx=>match xx with
  | .inl v_9=>
    gO (0≤(1:Int)∧(1:Int)<(s0.length:Int)) (
    ((gK (!decide (((idx s0 (1:Int)).toNat:Int)=(0:Int))) (6)).bind fun xx=>match xx with
    | .inl Y4=>
      some (.inl (.L1 (0) (0)))
    | .inr SF=>
      some (.inr (.inr SF))))
  | .inr e_8=>
    some (.inr (.inr e_8)))))))
 | .L1 v6 uW=>
  (bif (decide (uW<((((idx s0 (0:Int)).toNat:Int)-eN)-(55:Int)))) then
  ((gK (decide (v6<(4294967296:Int))) (5)).bind fun xx=>match xx with
  | .inl Y5=>
    gO (0≤(8:Int)∧bf (wK v6 (8:Int))) (
    gO (bf ((1:Int)+uW)) (
    gO (0≤((1:Int)+uW)∧((1:Int)+uW)<(s0.length:Int)) (
    gO (bf (uW+(1:Int))) (
    some (.inl (.L1 (Qi (wK v6 (8:Int)) ((idx s0 ((1:Int)+uW)).toNat:Int)) (uW+(1:Int))))))))
  | .inr SG=>
    some (.inr (.inr SG)))
  else
  ((gK (decide ((55:Int)<v6)) (6)).bind fun xx=>match xx with
  | .inl Y6=>
    gO (bf ((1:Int)+((((idx s0 (0:Int)).toNat:Int)-eN)-(55:Int)))) (
    some (.inr (.inl (v6,((1:Int)+((((idx s0 (0:Int)).toNat:Int)-eN)-(55:Int)))))))
  | .inr SH=>
    some (.inr (.inr SH))))
noncomputable def pq (s0:(List UInt8)) (eN:Int):Option ((Int×Int)⊕Int):=gJ (dL s0 eN) .S
theorem Ao (s0:(List UInt8)) (eN:Int) (r:((Int×Int)⊕Int)) (h:pq s0 eN=some r):Spec Tryz.prog 117 [pS s0,pI eN] (aK []) 0 (mJ (match r with | .inl x=>Out.ret (.tuple [pI (x.1),pI (x.2)]) | .inr e=>Out.nV (.d (.iface 145 (.agg [.val (.int .i64 e)])))) (aK []) 0):=by
 refine Spec.sw Tryz.func117 rfl (by simp [Tryz.ntmps117]) bL ?_
 rw [Tryz.ntmps117,TT.SC]
 refine QW.view (s':=⟨bW [(0,pS s0),(1,pI eN)],aK [],0,[]⟩) (View.nJ zL (by rfl)) zL ?_
 obtain ⟨_,h⟩:=cP h
 obtain ⟨dm,e9,h⟩:=aQ h;rw [dL] at h
 refine sR ?_
 refine xa 4 (pI (0)) ?_
 refine xz 5 (pI (0)) ?_
 refine sR ?_
 refine xm 9 (pS s0) ?_
 obtain ⟨oK,h⟩:=gG h
 refine xS 10 (g8 s0 (0:Int) TT.bh oK ?_)
 refine xS 11 (zE ((idx s0 (0:Int)).toNat:Int) TT.dw TT.kD ?_)
 refine xm 12 (pI eN) ?_
 obtain ⟨yp,h⟩:=gG h
 refine xS 13 (mZ ((idx s0 (0:Int)).toNat:Int) eN yp ?_)
 refine xz 6 (pI (((idx s0 (0:Int)).toNat:Int)-eN)) ?_
 refine QW.seq ?_
 refine sR ?_
 refine xm 14 (pI (((idx s0 (0:Int)).toNat:Int)-eN)) ?_
 refine xT 15 (uI (((idx s0 (0:Int)).toNat:Int)-eN) (55:Int) ?_)
 refine cT (decide ((((idx s0 (0:Int)).toNat:Int)-eN)≤(55:Int))) (fun dY=>?_) (fun dY=>?_)
 ·replace h:=ej h dY
  refine sR ?_
  refine xm 16 (pI (((idx s0 (0:Int)).toNat:Int)-eN)) ?_
  refine xa 4 (pI (((idx s0 (0:Int)).toNat:Int)-eN)) ?_
  refine xz 5 (pI (1)) ?_
  refine QW.ret zL (dc ?_)
  obtain rfl:=sG h
  exact gu.more (s':=⟨bW [(4,pI (((idx s0 (0:Int)).toNat:Int)-eN)),(5,pI (1))],aK [],0,[]⟩) (ps:=[pI (((idx s0 (0:Int)).toNat:Int)-eN),pI (1)]) (.inr rfl) (vM 0 []) rfl bL (fun i hi=>ec [] [] i hi) rfl (by simp [HO.bw,HO.bH,PV.bw,PV.bH,cz,dK]) (And.intro (aN.tmp rfl) (And.intro (aN.tmp rfl) trivial)) (by simp [PV.bw,PV.bH,cz])
 ·replace h:=ek h dY
  refine sk ?_
  refine sR ?_
  refine xm 17 (pI (((idx s0 (0:Int)).toNat:Int)-eN)) ?_
  obtain ⟨rW,h⟩:=gG h
  refine xS 18 (mZ (((idx s0 (0:Int)).toNat:Int)-eN) (55:Int) rW ?_)
  refine xz 7 (pI ((((idx s0 (0:Int)).toNat:Int)-eN)-(55:Int))) ?_
  refine sR ?_
  refine xm 19 (pS s0) ?_
  refine xS 20 (eU s0 TT.bh ?_)
  refine xm 21 (pI ((((idx s0 (0:Int)).toNat:Int)-eN)-(55:Int))) ?_
  refine xS 22 (kU (s0.length:Int) ((((idx s0 (0:Int)).toNat:Int)-eN)-(55:Int)) ?_)
  obtain ⟨v_9 | e_8,vH,h⟩:=bG h
  ·refine XK.fr (p:= .tuple []) (H2:=_) (nr:=0) (some 23) rfl rfl (bR [] rfl rfl TT.fK (dH (decide (((((idx s0 (0:Int)).toNat:Int)-eN)-(55:Int))<(s0.length:Int))) (5) _ vH) rfl rfl (by decide) trivial bL) rfl rfl rfl ?_
   refine XK.nz ?_
   refine sR ?_
   refine xm 24 (pS s0) ?_
   obtain ⟨nT,h⟩:=gG h
   refine xS 25 (g8 s0 (1:Int) TT.bh nT ?_)
   refine xS 26 (mI ((idx s0 (1:Int)).toNat:Int) (0:Int) ?_)
   obtain ⟨Y4 | SF,ta,h⟩:=bG h
   ·refine XK.fr (p:= .tuple []) (H2:=_) (nr:=0) (some 27) rfl rfl (bR [] rfl rfl TT.fK (dH (!decide (((idx s0 (1:Int)).toNat:Int)=(0:Int))) (6) _ ta) rfl rfl (by decide) trivial bL) rfl rfl rfl ?_
    refine XK.nz ?_
    refine sR ?_
    refine xz 6 (pI (0)) ?_
    refine QW.seq ?_
    refine sR ?_
    refine xm 28 (pI ((((idx s0 (0:Int)).toNat:Int)-eN)-(55:Int))) ?_
    refine xm 29 (pI (0)) ?_
    refine XK.nz ?_
    refine QW.block ?_
    refine lp (fun k σ=>∃ v6:Int,∃ uW:Int,k≤dm∧run (dL s0 eN) k (.L1 v6 uW)=some r∧σ=⟨bW [(0,pS s0),(6,pI v6),(7,pI ((((idx s0 (0:Int)).toNat:Int)-eN)-(55:Int))),(28,pI ((((idx s0 (0:Int)).toNat:Int)-eN)-(55:Int))),(29,pI uW)],aK [],0,[]⟩) dm ⟨0,0,Nat.le_refl _,jG h,rfl⟩ (vM 0 []) ?_
    rintro aaR _ ⟨v6,uW,aaS,h,rfl⟩
    obtain ⟨Y7,e9,h⟩:=aQ h;rw [dL] at h
    refine sR ?_
    refine xT 30 (cM uW ((((idx s0 (0:Int)).toNat:Int)-eN)-(55:Int)) ?_)
    refine QW.seq ?_
    refine cT (decide (uW<((((idx s0 (0:Int)).toNat:Int)-eN)-(55:Int)))) (fun wR=>?_) (fun wR=>?_)
    ·replace h:=ej h wR
     refine sk ?_
     refine QW.seq ?_
     refine QW.block ?_
     refine sR ?_
     refine xm 31 (pI uW) ?_
     refine xz 8 (pI uW) ?_
     refine sR ?_
     refine xm 32 (pI v6) ?_
     refine xS 33 (cM v6 (4294967296:Int) ?_)
     obtain ⟨Y5 | SG,vt,h⟩:=bG h
     ·refine XK.fr (p:= .tuple []) (H2:=_) (nr:=0) (some 34) rfl rfl (bR [] rfl rfl TT.fK (dH (decide (v6<(4294967296:Int))) (5) _ vt) rfl rfl (by decide) trivial bL) rfl rfl rfl ?_
      refine XK.nz ?_
      refine rG ?_
      refine xm 35 (pI v6) ?_
      obtain ⟨HQ,h⟩:=gG h
      refine xS 36 (Uy v6 (8:Int) HQ ?_)
      refine xm 37 (pS s0) ?_
      refine xm 38 (pI uW) ?_
      obtain ⟨vI,h⟩:=gG h
      refine xS 39 (bE (1:Int) uW vI ?_)
      obtain ⟨HR,h⟩:=gG h
      refine xS 40 (g8 s0 ((1:Int)+uW) TT.bh HR ?_)
      refine xS 41 (zE ((idx s0 ((1:Int)+uW)).toNat:Int) TT.dw TT.kD ?_)
      refine xS 42 (Xj (wK v6 (8:Int)) ((idx s0 ((1:Int)+uW)).toNat:Int) ?_)
      refine xa 6 (pI (Qi (wK v6 (8:Int)) ((idx s0 ((1:Int)+uW)).toNat:Int))) ?_
      refine XK.nil (iS (cn ?_))
      refine rG ?_
      obtain ⟨Ee,h⟩:=gG h
      refine xS 43 (bE uW (1:Int) Ee ?_)
      refine xm 29 (pI (uW+(1:Int))) ?_
      refine XK.nz ?_
      exact lb Y7 ⟨(Qi (wK v6 (8:Int)) ((idx s0 ((1:Int)+uW)).toNat:Int)),(uW+(1:Int)),by omega,jG h,rfl⟩ (vM 0 [])
     ·refine XK.fp (p:= .d (.iface 145 (.agg [.val (.int .i64 SG)]))) (H2:=_) (nr:=0) rfl (bR [] rfl rfl TT.fK (dH (decide (v6<(4294967296:Int))) (5) _ vt) rfl rfl (by decide) trivial bL) rfl rfl rfl (tR (K8 (tR (tR (K8 (tR ?_))))))
      obtain rfl:=sG h
      exact gu.nV (s':=⟨bW [],aK [],0,[]⟩) (vM 0 []) rfl bL (fun i hi=>ec [] [] i hi) rfl (by simp [HO.bw,HO.bH,PV.bw,PV.bH,cz,dK])
    ·replace h:=ek h wR
     refine QW.exit zL (eP (eP (kW (cn ?_))))
     refine sR ?_
     refine xm 44 (pI v6) ?_
     refine xS 45 (kU v6 (55:Int) ?_)
     obtain ⟨Y6 | SH,zH,h⟩:=bG h
     ·refine XK.fr (p:= .tuple []) (H2:=_) (nr:=0) (some 46) rfl rfl (bR [] rfl rfl TT.fK (dH (decide ((55:Int)<v6)) (6) _ zH) rfl rfl (by decide) trivial bL) rfl rfl rfl ?_
      refine XK.nz ?_
      refine sR ?_
      refine xm 47 (pI v6) ?_
      refine xm 48 (pI ((((idx s0 (0:Int)).toNat:Int)-eN)-(55:Int))) ?_
      obtain ⟨SI,h⟩:=gG h
      refine xS 49 (bE (1:Int) ((((idx s0 (0:Int)).toNat:Int)-eN)-(55:Int)) SI ?_)
      refine xa 4 (pI v6) ?_
      refine xz 5 (pI ((1:Int)+((((idx s0 (0:Int)).toNat:Int)-eN)-(55:Int)))) ?_
      refine QW.ret zL ?_
      obtain rfl:=sG h
      exact gu.more (s':=⟨bW [(4,pI v6),(5,pI ((1:Int)+((((idx s0 (0:Int)).toNat:Int)-eN)-(55:Int))))],aK [],0,[]⟩) (ps:=[pI v6,pI ((1:Int)+((((idx s0 (0:Int)).toNat:Int)-eN)-(55:Int)))]) (.inr rfl) (vM 0 []) rfl bL (fun i hi=>ec [] [] i hi) rfl (by simp [HO.bw,HO.bH,PV.bw,PV.bH,cz,dK]) (And.intro (aN.tmp rfl) (And.intro (aN.tmp rfl) trivial)) (by simp [PV.bw,PV.bH,cz])
     ·refine XK.fp (p:= .d (.iface 145 (.agg [.val (.int .i64 SH)]))) (H2:=_) (nr:=0) rfl (bR [] rfl rfl TT.fK (dH (decide ((55:Int)<v6)) (6) _ zH) rfl rfl (by decide) trivial bL) rfl rfl rfl (tR ?_)
      obtain rfl:=sG h
      exact gu.nV (s':=⟨bW [],aK [],0,[]⟩) (vM 0 []) rfl bL (fun i hi=>ec [] [] i hi) rfl (by simp [HO.bw,HO.bH,PV.bw,PV.bH,cz,dK])
   ·refine XK.fp (p:= .d (.iface 145 (.agg [.val (.int .i64 SF)]))) (H2:=_) (nr:=0) rfl (bR [] rfl rfl TT.fK (dH (!decide (((idx s0 (1:Int)).toNat:Int)=(0:Int))) (6) _ ta) rfl rfl (by decide) trivial bL) rfl rfl rfl (tR ?_)
    obtain rfl:=sG h
    exact gu.nV (s':=⟨bW [],aK [],0,[]⟩) (vM 0 []) rfl bL (fun i hi=>ec [] [] i hi) rfl (by simp [HO.bw,HO.bH,PV.bw,PV.bH,cz,dK])
  ·refine XK.fp (p:= .d (.iface 145 (.agg [.val (.int .i64 e_8)]))) (H2:=_) (nr:=0) rfl (bR [] rfl rfl TT.fK (dH (decide (((((idx s0 (0:Int)).toNat:Int)-eN)-(55:Int))<(s0.length:Int))) (5) _ vH) rfl rfl (by decide) trivial bL) rfl rfl rfl (tR ?_)
   obtain rfl:=sG h
   exact gu.nV (s':=⟨bW [],aK [],0,[]⟩) (vM 0 []) rfl bL (fun i hi=>ec [] [] i hi) rfl (by simp [HO.bw,HO.bH,PV.bw,PV.bH,cz,dK])
inductive wS where
 | S
 | L2 (rX:Int) (rY:Int) (lu:(List UInt8)) (j0:Int) (oa:(List Item))
noncomputable def bu (self:(List UInt8)→Int→counter→Option (((Item×Int)⊕Int)×counter)) (s1:(List UInt8)) (eW:Int) (c0:counter):wS→Option (wS⊕(((Item×Int)⊕Int)×counter))
 | .S=>
  ((fZ eW c0).bind fun xx=>match xx with
  | (.inl nW,eD)=>
    ((gK (!(s1==([]:List UInt8))) (5)).bind fun xx=>match xx with
    | .inl MD=>
      gO (0≤(0:Int)∧(0:Int)<(s1.length:Int)) (
      (bif (decide (((idx s1 (0:Int)).toNat:Int)<(128:Int))) then
      gO (0≤(0:Int)∧(0:Int)≤(1:Int)∧(1:Int)≤(s1.length:Int)) (
      ((gL (sub s1 (0:Int) (1:Int))).bind fun (x_15:Item)=>
      some (.inr ((.inl (x_15,1)),eD))))
      else
      gO (0≤(0:Int)∧(0:Int)<(s1.length:Int)) (
      (((bif (decide ((192:Int)≤((idx s1 (0:Int)).toNat:Int))) then
      some (192)
      else
      some (128)):Option Int).bind fun (v9:Int)=>
      ((pq s1 v9).bind fun xx=>match xx with
      | .inl cv=>
        gO (bf ((s1.length:Int)-(cv.2))) (
        ((gK (decide ((cv.1)≤((s1.length:Int)-(cv.2)))) (5)).bind fun xx=>match xx with
        | .inl Y8=>
          gO (bf ((cv.2)+(cv.1))) (
          gO (0≤(cv.2)∧(cv.2)≤((cv.2)+(cv.1))∧((cv.2)+(cv.1))≤(s1.length:Int)) (
          (bif (!(decide ((192:Int)≤((idx s1 (0:Int)).toNat:Int)))) then
          gO ((!decide ((cv.1)=(1:Int)))=false→0≤(0:Int)∧(0:Int)<((sub s1 (cv.2) ((cv.2)+(cv.1))).length:Int)) (
          ((gK ((!decide ((cv.1)=(1:Int)))||(decide ((128:Int)≤((idx (sub s1 (cv.2) ((cv.2)+(cv.1))) (0:Int)).toNat:Int)))) (6)).bind fun xx=>match xx with
          | .inl Y9=>
            ((gL (sub s1 (cv.2) ((cv.2)+(cv.1)))).bind fun (x6:Item)=>
            gO (bf ((cv.2)+(cv.1))) (
            some (.inr ((.inl (x6,((cv.2)+(cv.1)))),eD))))
          | .inr SJ=>
            some (.inr (.inr SJ,eD))))
          else
          some (.inl (.L2 (cv.1) (cv.2) (sub s1 (cv.2) ((cv.2)+(cv.1))) (eD.fn) ([]:(List Item)))))))
        | .inr SK=>
          some (.inr (.inr SK,eD))))
      | .inr SL=>
        some (.inr (.inr SL,eD)))))))
    | .inr A8=>
      some (.inr (.inr A8,eD)))
  | (.inr e_5,eD)=>
    some (.inr (.inr e_5,eD)))
 | .L2 rX rY lu j0 oa=>
  (bif (!(lu==([]:List UInt8))) then
  gO (bf (eW+(1:Int))) (
  ((self lu (eW+(1:Int)) (⟨j0⟩:counter)).bind fun xx=>match xx with
  | (.inl lU,Ap)=>
    gO ((oa.length+([lU.1]:List Item).length)*48≤140737488355328) (
    gO (0≤(lU.2)∧(lU.2)≤(lu.length:Int)∧(lu.length:Int)≤(lu.length:Int)) (
    some (.inl (.L2 rX rY (sub lu (lU.2) (lu.length:Int)) (Ap.fn) (oa++([lU.1]:List Item))))))
  | (.inr SM,Ap)=>
    some (.inr (.inr SM,Ap))))
  else
  gO (bf (rY+rX)) (
  some (.inr ((.inl ((⟨true,([]:List UInt8),oa⟩:Item),(rY+rX))),(⟨j0⟩:counter)))))
noncomputable def vJ (self:(List UInt8)→Int→counter→Option (((Item×Int)⊕Int)×counter)) (s1:(List UInt8)) (eW:Int) (c0:counter):Option (((Item×Int)⊕Int)×counter):=gJ (bu self s1 eW c0) .S
theorem AE (self:(List UInt8)→Int→counter→Option (((Item×Int)⊕Int)×counter)) (dZ:∀ (y0:(List UInt8)) (y1:Int) (y2:counter) (rr:(((Item×Int)⊕Int)×counter)),self y0 y1 y2=some rr→Spec Tryz.prog 110 [.aR 0 0,pS y0,pI y1] (aK [.var [pI (y2.fn)]]) 1 (mJ (match rr.1 with | .inl x=>Out.ret (.tuple [.agg [pB ((x.1).bQ),pS ((x.1).fS), .d (.slice (((x.1).fL).map aM))],pI (x.2)]) | .inr e=>Out.nV (.d (.iface 145 (.agg [.val (.int .i64 e)])))) (aK [.var [pI ((rr.2).fn)]]) 1)) (s1:(List UInt8)) (eW:Int) (c0:counter) (r:(((Item×Int)⊕Int)×counter)) (h:vJ self s1 eW c0=some r):Spec Tryz.prog 110 [.aR 0 0,pS s1,pI eW] (aK [.var [pI (c0.fn)]]) 1 (mJ (match r.1 with | .inl x=>Out.ret (.tuple [.agg [pB ((x.1).bQ),pS ((x.1).fS), .d (.slice (((x.1).fL).map aM))],pI (x.2)]) | .inr e=>Out.nV (.d (.iface 145 (.agg [.val (.int .i64 e)])))) (aK [.var [pI ((r.2).fn)]]) 1):=by
 refine Spec.sw Tryz.func110 rfl (by simp [Tryz.ntmps110]) bL ?_
 rw [Tryz.ntmps110,TT.SA]
 refine QW.view (s':=⟨bW [(0, .aR 0 0),(1,pS s1),(2,pI eW)],aK [.var [pI (c0.fn)]],1,[]⟩) (View.nJ bL (by rfl)) bL ?_
 obtain ⟨_,h⟩:=cP h
 obtain ⟨dm,e9,h⟩:=aQ h;rw [bu] at h
 refine mK ?_
 refine xS 6 (bl [pB false,pS ([]:List UInt8), .full (([]:(List Item)).map aM)] TT.jL ?_)
 refine xz 7 (pI (0)) ?_
 refine mK ?_
 refine xm 16 (.aR 0 0) ?_
 refine xm 17 (pI eW) ?_
 obtain ⟨⟨nW | e_5,eD⟩,fk,h⟩:=bG h
 ·refine XK.fr (p:= .tuple []) (H2:=cG _ 0 (some (.var [pI (eD.fn)]))) (nr:=2) (some 18) rfl rfl (bR [0] rfl rfl TT.zG (nv eW c0 _ fk) rfl rfl (by decide) (And.intro rfl trivial) bL) rfl rfl rfl ?_
  refine XK.nz ?_
  refine mK ?_
  refine xm 19 (pS s1) ?_
  refine xS 20 (qq s1 ([]:List UInt8) ?_)
  obtain ⟨MD | A8,oA,h⟩:=bG h
  ·refine XK.fr (p:= .tuple []) (H2:=_) (nr:=2) (some 21) rfl rfl (bR [] rfl rfl TT.fK (dH (!(s1==([]:List UInt8))) (5) _ oA) rfl rfl (by decide) trivial bL) rfl rfl rfl ?_
   refine XK.nz ?_
   refine QW.seq ?_
   refine mK ?_
   refine xm 22 (pS s1) ?_
   obtain ⟨kP,h⟩:=gG h
   refine xS 23 (g8 s1 (0:Int) TT.bh kP ?_)
   refine xT 24 (cM ((idx s1 (0:Int)).toNat:Int) (128:Int) ?_)
   refine QW.cond (t:=(decide (((idx s1 (0:Int)).toNat:Int)<(128:Int)))) rfl bL (fun Dg=>?_) (fun Dg=>?_)
   ·replace h:=ej h Dg
    refine mK ?_
    refine xm 25 (pS s1) ?_
    obtain ⟨tc,h⟩:=gG h
    refine xS 26 (p6 s1 (0:Int) (1:Int) TT.bh tc ?_)
    obtain ⟨x_15,r4,h⟩:=bG h
    refine xS 27 (az (nN (sub s1 (0:Int) (1:Int)) _ r4) ?_)
    refine xN (aV [pB (x_15.bQ),pS (x_15.fS), .d (.slice ((x_15.fL).map aM))] TT.bB ?_)
    refine xz 7 (pI (1)) ?_
    refine QW.ret bL (dc ?_)
    obtain rfl:=sG h
    exact gu.more (s':=⟨bW [(6, .aR 1 0),(7,pI (1))],aK [.var [pI (eD.fn)], .var [pB (x_15.bQ),pS (x_15.fS), .d (.slice ((x_15.fL).map aM))]],2,[]⟩) (ps:=[.agg [pB (x_15.bQ),pS (x_15.fS), .d (.slice ((x_15.fL).map aM))],pI (1)]) (.inr rfl) (vM 2 [0,1]) rfl bL (fun i hi=>ec [.var [pI (eD.fn)]] [.var [pB (x_15.bQ),pS (x_15.fS), .d (.slice ((x_15.fL).map aM))]] i hi) rfl (by simp [HO.bw,HO.bH,PV.bw,PV.bH,cz,dK]) (And.intro (aN.cell rfl rfl TT.bB ⟨⟨by simp,by simp⟩,rfl⟩) (And.intro (aN.tmp rfl) trivial)) (by simp [PV.bw,PV.bH,cz])
   ·replace h:=ek h Dg
    refine QW.skip bL (cn ?_)
    refine mK ?_
    refine xm 28 (pS s1) ?_
    obtain ⟨oB,h⟩:=gG h
    refine xS 29 (g8 s1 (0:Int) TT.bh oB ?_)
    refine xS 30 (pO ((idx s1 (0:Int)).toNat:Int) (192:Int) ?_)
    refine xz 8 (pB (decide ((192:Int)≤((idx s1 (0:Int)).toNat:Int)))) ?_
    refine mK ?_
    refine xz 9 (pI (128)) ?_
    obtain ⟨v9,hq,h⟩:=bG h
    refine QW.s6 (fun s'=>s'=⟨bW [(0, .aR 0 0),(1,pS s1),(2,pI eW),(6, .aR 1 0),(8,pB (decide ((192:Int)≤((idx s1 (0:Int)).toNat:Int)))),(9,pI v9)],aK [.var [pI (eD.fn)], .var [pB false,pS ([]:List UInt8), .full (([]:(List Item)).map aM)]],2,[]⟩) ?_ ?_
    ·replace h:=hq;clear hq
     refine mK ?_
     refine xm 31 (pB (decide ((192:Int)≤((idx s1 (0:Int)).toNat:Int)))) ?_
     refine XK.nz ?_
     refine QW.cond (t:=(decide ((192:Int)≤((idx s1 (0:Int)).toNat:Int)))) rfl bL (fun Dh=>?_) (fun Dh=>?_)
     ·replace h:=bT h Dh
      refine Gk ?_
      refine xz 9 (pI (192)) ?_
      obtain rfl:=sO h
      exact jb rfl (vM 2 [0,1])
     ·replace h:=bF h Dh
      refine QW.skip bL (cn ?_)
      obtain rfl:=sO h
      exact jb rfl (vM 2 [0,1])
    ·rintro _ rfl
     refine mK ?_
     refine xm 33 (pS s1) ?_
     refine xm 34 (pI v9) ?_
     obtain ⟨cv | SL,SN,h⟩:=bG h
     ·refine XK.fr (p:= .tuple [pI (cv.1),pI (cv.2)]) (H2:=_) (nr:=2) (some 35) rfl rfl (bR [] rfl rfl TT.FT (Ao s1 v9 _ SN) rfl rfl (by decide) trivial bL) rfl rfl rfl ?_
      refine xm 32 (.tuple [pI (cv.1),pI (cv.2)]) ?_
      refine xS 36 (qs ?_)
      refine xS 37 (qs ?_)
      refine xa 10 (pI (cv.1)) ?_
      refine xz 11 (pI (cv.2)) ?_
      refine mK ?_
      refine xm 38 (pI (cv.1)) ?_
      refine xm 39 (pS s1) ?_
      refine xS 40 (eU s1 TT.bh ?_)
      refine xm 41 (pI (cv.2)) ?_
      obtain ⟨vI,h⟩:=gG h
      refine xS 42 (mZ (s1.length:Int) (cv.2) vI ?_)
      refine xS 43 (uI (cv.1) ((s1.length:Int)-(cv.2)) ?_)
      obtain ⟨Y8 | SK,Lg,h⟩:=bG h
      ·refine XK.fr (p:= .tuple []) (H2:=_) (nr:=2) (some 44) rfl rfl (bR [] rfl rfl TT.fK (dH (decide ((cv.1)≤((s1.length:Int)-(cv.2)))) (5) _ Lg) rfl rfl (by decide) trivial bL) rfl rfl rfl ?_
       refine XK.nz ?_
       refine QW.seq ?_
       refine QW.view (s':=⟨bW [(0, .aR 0 0),(1,pS s1),(2,pI eW),(6, .aR 1 0),(8,pB (decide ((192:Int)≤((idx s1 (0:Int)).toNat:Int)))),(10,pI (cv.1)),(11,pI (cv.2))],aK [.var [pI (eD.fn)], .var [pB false,pS ([]:List UInt8), .full (([]:(List Item)).map aM)]],2,[]⟩) (vM 2 [0,1]) bL ?_
       refine Gk ?_
       refine xm 45 (pS s1) ?_
       refine xm 46 (pI (cv.2)) ?_
       refine xm 47 (pI (cv.2)) ?_
       refine xm 48 (pI (cv.1)) ?_
       obtain ⟨FW,h⟩:=gG h
       refine xS 49 (bE (cv.2) (cv.1) FW ?_)
       obtain ⟨HS,h⟩:=gG h
       refine xS 50 (p6 s1 (cv.2) ((cv.2)+(cv.1)) TT.bh HS ?_)
       refine xz 12 (pS (sub s1 (cv.2) ((cv.2)+(cv.1)))) ?_
       refine QW.seq ?_
       refine mK ?_
       refine xm 51 (pB (decide ((192:Int)≤((idx s1 (0:Int)).toNat:Int)))) ?_
       refine xT 52 (kV ?_)
       refine QW.cond (t:=(!(decide ((192:Int)≤((idx s1 (0:Int)).toNat:Int))))) rfl bL (fun Om=>?_) (fun Om=>?_)
       ·replace h:=ej h Om
        refine mK ?_
        refine xm 53 (pI (cv.1)) ?_
        refine xS 54 (mI (cv.1) (1:Int) ?_)
        refine xm 55 (pB (!decide ((cv.1)=(1:Int)))) ?_
        refine xg 56 (pS (sub s1 (cv.2) ((cv.2)+(cv.1)))) rfl rfl (fun hg=>ax (pS (sub s1 (cv.2) ((cv.2)+(cv.1)))) g3) ?_
        obtain ⟨ME,h⟩:=gG h
        refine xg 57 (.d (.val (.int .u8 ((idx (sub s1 (cv.2) ((cv.2)+(cv.1))) (0:Int)).toNat:Int)))) rfl rfl (fun hg=>g8 (sub s1 (cv.2) ((cv.2)+(cv.1))) (0:Int) TT.bh (ME (Hu hg)) g3) ?_
        refine xg 58 (pB (decide ((128:Int)≤((idx (sub s1 (cv.2) ((cv.2)+(cv.1))) (0:Int)).toNat:Int)))) rfl rfl (fun hg=>pO ((idx (sub s1 (cv.2) ((cv.2)+(cv.1))) (0:Int)).toNat:Int) (128:Int) g3) ?_
        refine xS 59 (fh ?_)
        obtain ⟨Y9 | SJ,Lh,h⟩:=bG h
        ·refine XK.fr (p:= .tuple []) (H2:=_) (nr:=2) (some 60) rfl rfl (bR [] rfl rfl TT.fK (dH ((!decide ((cv.1)=(1:Int)))||(decide ((128:Int)≤((idx (sub s1 (cv.2) ((cv.2)+(cv.1))) (0:Int)).toNat:Int)))) (6) _ Lh) rfl rfl (by decide) trivial bL) rfl rfl rfl ?_
         refine XK.nz ?_
         refine mK ?_
         refine xm 61 (pS (sub s1 (cv.2) ((cv.2)+(cv.1)))) ?_
         obtain ⟨x6,XE,h⟩:=bG h
         refine xS 62 (az (nN (sub s1 (cv.2) ((cv.2)+(cv.1))) _ XE) ?_)
         refine xm 63 (pI (cv.2)) ?_
         refine xm 64 (pI (cv.1)) ?_
         obtain ⟨SO,h⟩:=gG h
         refine xS 65 (bE (cv.2) (cv.1) SO ?_)
         refine xN (aV [pB (x6.bQ),pS (x6.fS), .d (.slice ((x6.fL).map aM))] TT.bB ?_)
         refine xz 7 (pI ((cv.2)+(cv.1))) ?_
         refine QW.ret bL (dc ?_)
         obtain rfl:=sG h
         exact gu.more (s':=⟨bW [(6, .aR 1 0),(7,pI ((cv.2)+(cv.1)))],aK [.var [pI (eD.fn)], .var [pB (x6.bQ),pS (x6.fS), .d (.slice ((x6.fL).map aM))]],2,[]⟩) (ps:=[.agg [pB (x6.bQ),pS (x6.fS), .d (.slice ((x6.fL).map aM))],pI ((cv.2)+(cv.1))]) (.inr rfl) (vM 2 [0,1]) rfl bL (fun i hi=>ec [.var [pI (eD.fn)]] [.var [pB (x6.bQ),pS (x6.fS), .d (.slice ((x6.fL).map aM))]] i hi) rfl (by simp [HO.bw,HO.bH,PV.bw,PV.bH,cz,dK]) (And.intro (aN.cell rfl rfl TT.bB ⟨⟨by simp,by simp⟩,rfl⟩) (And.intro (aN.tmp rfl) trivial)) (by simp [PV.bw,PV.bH,cz])
        ·refine XK.fp (p:= .d (.iface 145 (.agg [.val (.int .i64 SJ)]))) (H2:=_) (nr:=2) rfl (bR [] rfl rfl TT.fK (dH ((!decide ((cv.1)=(1:Int)))||(decide ((128:Int)≤((idx (sub s1 (cv.2) ((cv.2)+(cv.1))) (0:Int)).toNat:Int)))) (6) _ Lh) rfl rfl (by decide) trivial bL) rfl rfl rfl (tR (tR ?_))
         obtain rfl:=sG h
         exact gu.nV (s':=⟨bW [],aK [.var [pI (eD.fn)]],1,[]⟩) (vM 1 [0]) rfl bL (fun i hi=>ec [.var [pI (eD.fn)]] [] i hi) rfl (by simp [HO.bw,HO.bH,PV.bw,PV.bH,cz,dK])
       ·replace h:=ek h Om
        refine QW.skip bL (cn ?_)
        refine mK ?_
        refine xS 66 (dX (.agg [pB true,pS ([]:List UInt8), .full (([]:(List Item)).map aM)]) rfl TT.q6 (cI rfl (bY (cells':=[pB true,pS ([]:List UInt8), .full (([]:(List Item)).map aM)]) rfl rfl rfl bL rfl cH)) ?_)
        refine xS 13 (bl [pB false,pS ([]:List UInt8), .full (([]:(List Item)).map aM)] TT.jL ?_)
        refine xN (aV [pB true,pS ([]:List UInt8), .full (([]:(List Item)).map aM)] TT.bB ?_)
        refine XK.nz ?_
        refine QW.seq ?_
        refine QW.block ?_
        refine lp (fun k σ=>∃ rX:Int,∃ rY:Int,∃ lu:(List UInt8),∃ j0:Int,∃ oa:(List Item),k≤dm∧run (bu self s1 eW c0) k (.L2 rX rY lu j0 oa)=some r∧σ=⟨bW [(0, .aR 0 0),(2,pI eW),(6, .aR 1 0),(10,pI rX),(11,pI rY),(12,pS lu),(13, .aR 2 0)],aK [.var [pI j0], .var [pB false,pS ([]:List UInt8), .full (([]:(List Item)).map aM)], .var [pB true,pS ([]:List UInt8), .own 3 (oa.map aM)], .spare 3 oa.length],4,[]⟩) dm ⟨cv.1,cv.2,(sub s1 (cv.2) ((cv.2)+(cv.1))),eD.fn,([]:(List Item)),Nat.le_refl _,jG h,rfl⟩ (View.trans (View.R6 2 2 3 rfl rfl bL) (vM 4 [0,1,2,3])) ?_
        rintro aaT _ ⟨rX,rY,lu,j0,oa,aaU,h,rfl⟩
        obtain ⟨Za,e9,h⟩:=aQ h;rw [bu] at h
        refine QW.seq ?_
        refine mK ?_
        refine xm 67 (pS lu) ?_
        refine xT 68 (qq lu ([]:List UInt8) ?_)
        refine QW.cond (t:=(!(lu==([]:List UInt8)))) rfl bL (fun On=>?_) (fun On=>?_)
        ·replace h:=ej h On
         refine QW.skip bL (cn ?_)
         refine QW.block ?_
         refine mK ?_
         refine xm 70 (.aR 0 0) ?_
         refine xm 71 (pS lu) ?_
         refine xm 72 (pI eW) ?_
         obtain ⟨SP,h⟩:=gG h
         refine xS 73 (bE eW (1:Int) SP ?_)
         obtain ⟨⟨lU | SM,Ap⟩,SQ,h⟩:=bG h
         ·refine XK.fr (p:= .tuple [.agg [pB ((lU.1).bQ),pS ((lU.1).fS), .d (.slice (((lU.1).fL).map aM))],pI (lU.2)]) (H2:=cG _ 0 (some (.var [pI (Ap.fn)]))) (nr:=4) (some 74) rfl rfl (bR [0] rfl rfl TT.xZ (dZ lu (eW+(1:Int)) (⟨j0⟩:counter) _ SQ) rfl rfl (by decide) (And.intro rfl trivial) bL) rfl rfl rfl ?_
          refine xm 69 (.tuple [.agg [pB ((lU.1).bQ),pS ((lU.1).fS), .d (.slice (((lU.1).fL).map aM))],pI (lU.2)]) ?_
          refine xS 75 (qs ?_)
          refine xS 76 (qs ?_)
          refine xS 14 (bl [pB false,pS ([]:List UInt8), .full (([]:(List Item)).map aM)] TT.jL ?_)
          refine xN (aV [pB ((lU.1).bQ),pS ((lU.1).fS), .d (.slice (((lU.1).fL).map aM))] TT.bB ?_)
          refine xz 15 (pI (lU.2)) ?_
          refine mK ?_
          refine xS 77 (dF TT.fY ?_)
          refine xS 78 (aW (.own 3 (oa.map aM)) TT.kY ?_)
          refine xA 79 (aW (.agg [pB ((lU.1).bQ),pS ((lU.1).fS), .d (.slice (((lU.1).fL).map aM))]) TT.bB ⟨.d (.agg (ct (lU.1))),(fX.cN rfl),?_⟩)
          refine xS 80 (eA aM ([lU.1]:List Item) TT.p9 ?_ (hl:=gR) (hx:=by first | rfl | (simp only [List.map_cons,List.map_nil,uo];rfl)))
          obtain ⟨Zb,h⟩:=gG h
          refine xS 81 (kA aM oa ([lU.1]:List Item) TT.p9 TT.m9 Zb ?_ (hl:=gR))
          refine xS 82 (dF TT.fY ?_)
          refine xN (aV [pB true,pS ([]:List UInt8), .own 5 ((oa++([lU.1]:List Item)).map aM)] TT.kY ?_)
          refine XK.nz ?_
          refine QW.view (s':=⟨bW [(0, .aR 0 0),(2,pI eW),(6, .aR 1 0),(10,pI rX),(11,pI rY),(12,pS lu),(13, .aR 2 0),(15,pI (lU.2))],aK [.var [pI (Ap.fn)], .var [pB false,pS ([]:List UInt8), .full (([]:(List Item)).map aM)], .var [pB true,pS ([]:List UInt8), .own 3 ((oa++([lU.1]:List Item)).map aM)], .spare 3 (oa++([lU.1]:List Item)).length],4,[]⟩) (vM 4 [0,1,2,5]) bL ?_
          refine Gk ?_
          refine xm 83 (pS lu) ?_
          refine xm 84 (pI (lU.2)) ?_
          obtain ⟨Zc,h⟩:=gG h
          refine xS 85 (p6 lu (lU.2) (lu.length:Int) TT.bh Zc ?_)
          refine xa 12 (pS (sub lu (lU.2) (lu.length:Int))) ?_
          refine XK.nil (iS (cn ?_))
          exact lb Za ⟨rX,rY,(sub lu (lU.2) (lu.length:Int)),Ap.fn,(oa++([lU.1]:List Item)),by omega,jG h,rfl⟩ (vM 4 [0,1,2,3])
         ·refine XK.fp (p:= .d (.iface 145 (.agg [.val (.int .i64 SM)]))) (H2:=cG _ 0 (some (.var [pI (Ap.fn)]))) (nr:=4) rfl (bR [0] rfl rfl TT.xZ (dZ lu (eW+(1:Int)) (⟨j0⟩:counter) _ SQ) rfl rfl (by decide) (And.intro rfl trivial) bL) rfl rfl rfl (tR (K8 (tR (K8 (tR ?_)))))
          obtain rfl:=sG h
          exact gu.nV (s':=⟨bW [],aK [.var [pI (Ap.fn)]],1,[]⟩) (vM 1 [0]) rfl bL (fun i hi=>ec [.var [pI (Ap.fn)]] [] i hi) rfl (by simp [HO.bw,HO.bH,PV.bw,PV.bH,cz,dK])
        ·replace h:=ek h On
         refine QW.exit bL (eP (eP (kW (cn ?_))))
         refine mK ?_
         refine xS 86 (aW (.agg [pB true,pS ([]:List UInt8), .own 3 (oa.map aM)]) TT.bB ?_)
         refine xm 87 (pI rY) ?_
         refine xm 88 (pI rX) ?_
         obtain ⟨Zd,h⟩:=gG h
         refine xS 89 (bE rY rX Zd ?_)
         refine xN (aV [pB true,pS ([]:List UInt8), .own 3 (oa.map aM)] TT.bB ?_)
         refine xz 7 (pI (rY+rX)) ?_
         refine QW.ret bL ?_
         obtain rfl:=sG h
         exact gu.more (s':=⟨bW [(6, .aR 1 0),(7,pI (rY+rX))],aK [.var [pI j0], .var [pB true,pS ([]:List UInt8), .d (.slice (oa.map aM))]],2,[]⟩) (ps:=[.agg [pB true,pS ([]:List UInt8), .d (.slice (oa.map aM))],pI (rY+rX)]) (.inr rfl) (View.trans (View.Se 1 2 rfl rfl rfl bL) (vM 2 [0,1])) rfl bL (fun i hi=>ec [.var [pI j0]] [.var [pB true,pS ([]:List UInt8), .d (.slice (oa.map aM))]] i hi) rfl (by simp [HO.bw,HO.bH,PV.bw,PV.bH,cz,dK]) (And.intro (aN.cell rfl rfl TT.bB ⟨⟨by simp,by simp⟩,rfl⟩) (And.intro (aN.tmp rfl) trivial)) (by simp [PV.bw,PV.bH,cz])
      ·refine XK.fp (p:= .d (.iface 145 (.agg [.val (.int .i64 SK)]))) (H2:=_) (nr:=2) rfl (bR [] rfl rfl TT.fK (dH (decide ((cv.1)≤((s1.length:Int)-(cv.2)))) (5) _ Lg) rfl rfl (by decide) trivial bL) rfl rfl rfl (tR ?_)
       obtain rfl:=sG h
       exact gu.nV (s':=⟨bW [],aK [.var [pI (eD.fn)]],1,[]⟩) (vM 1 [0]) rfl bL (fun i hi=>ec [.var [pI (eD.fn)]] [] i hi) rfl (by simp [HO.bw,HO.bH,PV.bw,PV.bH,cz,dK])
     ·refine XK.fp (p:= .d (.iface 145 (.agg [.val (.int .i64 SL)]))) (H2:=_) (nr:=2) rfl (bR [] rfl rfl TT.FT (Ao s1 v9 _ SN) rfl rfl (by decide) trivial bL) rfl rfl rfl (tR ?_)
      obtain rfl:=sG h
      exact gu.nV (s':=⟨bW [],aK [.var [pI (eD.fn)]],1,[]⟩) (vM 1 [0]) rfl bL (fun i hi=>ec [.var [pI (eD.fn)]] [] i hi) rfl (by simp [HO.bw,HO.bH,PV.bw,PV.bH,cz,dK])
  ·refine XK.fp (p:= .d (.iface 145 (.agg [.val (.int .i64 A8)]))) (H2:=_) (nr:=2) rfl (bR [] rfl rfl TT.fK (dH (!(s1==([]:List UInt8))) (5) _ oA) rfl rfl (by decide) trivial bL) rfl rfl rfl (tR ?_)
   obtain rfl:=sG h
   exact gu.nV (s':=⟨bW [],aK [.var [pI (eD.fn)]],1,[]⟩) (vM 1 [0]) rfl bL (fun i hi=>ec [.var [pI (eD.fn)]] [] i hi) rfl (by simp [HO.bw,HO.bH,PV.bw,PV.bH,cz,dK])
 ·refine XK.fp (p:= .d (.iface 145 (.agg [.val (.int .i64 e_5)]))) (H2:=cG _ 0 (some (.var [pI (eD.fn)]))) (nr:=2) rfl (bR [0] rfl rfl TT.zG (nv eW c0 _ fk) rfl rfl (by decide) (And.intro rfl trivial) bL) rfl rfl rfl (tR ?_)
  obtain rfl:=sG h
  exact gu.nV (s':=⟨bW [],aK [.var [pI (eD.fn)]],1,[]⟩) (vM 1 [0]) rfl bL (fun i hi=>ec [.var [pI (eD.fn)]] [] i hi) rfl (by simp [HO.bw,HO.bH,PV.bw,PV.bH,cz,dK])
noncomputable def cK:Nat→(List UInt8)→Int→counter→Option (((Item×Int)⊕Int)×counter)
 | 0=>fun _ _ _=>none
 | n+1=>fun y0 y1 y2=>vJ (cK n) y0 y1 y2
theorem tW:∀ (n:Nat) (y0:(List UInt8)) (y1:Int) (y2:counter) (rr:(((Item×Int)⊕Int)×counter)),cK n y0 y1 y2=some rr→Spec Tryz.prog 110 [.aR 0 0,pS y0,pI y1] (aK [.var [pI (y2.fn)]]) 1 (mJ (match rr.1 with | .inl x=>Out.ret (.tuple [.agg [pB ((x.1).bQ),pS ((x.1).fS), .d (.slice (((x.1).fL).map aM))],pI (x.2)]) | .inr e=>Out.nV (.d (.iface 145 (.agg [.val (.int .i64 e)])))) (aK [.var [pI ((rr.2).fn)]]) 1)
 | 0,_,_,_,_,h=>by cases h
 | n+1,y0,y1,y2,rr,h=>AE (cK n) (tW n) y0 y1 y2 rr h
noncomputable def mN (y0:(List UInt8)) (y1:Int) (y2:counter):Option (((Item×Int)⊕Int)×counter):=vG (fun n=>cK n y0 y1 y2)
theorem uX (y0:(List UInt8)) (y1:Int) (y2:counter) (rr:(((Item×Int)⊕Int)×counter)) (h:mN y0 y1 y2=some rr):Spec Tryz.prog 110 [.aR 0 0,pS y0,pI y1] (aK [.var [pI (y2.fn)]]) 1 (mJ (match rr.1 with | .inl x=>Out.ret (.tuple [.agg [pB ((x.1).bQ),pS ((x.1).fS), .d (.slice (((x.1).fL).map aM))],pI (x.2)]) | .inr e=>Out.nV (.d (.iface 145 (.agg [.val (.int .i64 e)])))) (aK [.var [pI ((rr.2).fn)]]) 1):=by
 obtain ⟨n,hn⟩:=n8 h
 exact tW n y0 y1 y2 rr hn
noncomputable def oL (s0:(List UInt8)):Option (Item×Int×Int):=
  ((mN s0 (0) (⟨0⟩:counter)).bind fun xx=>match xx with
  | (.inl nW,eD)=>
    some (nW.1,nW.2,0)
  | (.inr e_5,eD)=>
    some ((⟨false,([]:List UInt8),([]:(List Item))⟩:Item),0,e_5))
theorem Li (s0:(List UInt8)) (r:(Item×Int×Int)) (h:oL s0=some r):cD Tryz.prog 101 [.val (sV s0)] (.tuple [.agg (ct (r.1)), .val (.int .i64 (r.2.1)), .val (.int .i64 (r.2.2))]):=by
 refine cD.yS Tryz.func101 rfl (by simp [Tryz.ntmps101]) TT.HJ ?_
 rw [Tryz.ntmps101,TT.Sy]
 refine QW.view (s':=⟨bW [(0,pS s0)],aK [],0,[]⟩) (View.init (by rfl)) zL ?_
 unfold oL at h
 refine sR ?_
 refine xS 2 (bl [pB false,pS ([]:List UInt8), .full (([]:(List Item)).map aM)] TT.jL ?_)
 refine xa 3 (pI (0)) ?_
 refine xT 4 (bl [pI (0)] TT.yT ?_)
 refine sR ?_
 refine XK.df (L:=[.aR 1 0]) none rfl rfl rfl rfl rfl ?_
 refine XK.nz ?_
 refine sR ?_
 refine xS 6 (bl [pI (0)] TT.HK ?_)
 refine xm 7 (pS s0) ?_
 obtain ⟨⟨nW | e_5,eD⟩,fk,h⟩:=bO h
 ·refine XK.fr (p:= .tuple [.agg [pB ((nW.1).bQ),pS ((nW.1).fS), .d (.slice (((nW.1).fL).map aM))],pI (nW.2)]) (H2:=cG _ 2 (some (.var [pI (eD.fn)]))) (nr:=3) (some 8) rfl rfl (bR [2] rfl rfl TT.xZ (uX s0 (0) (⟨0⟩:counter) _ fk) rfl rfl (by decide) (And.intro rfl trivial) bL) rfl rfl rfl ?_
  refine xm 5 (.tuple [.agg [pB ((nW.1).bQ),pS ((nW.1).fS), .d (.slice (((nW.1).fL).map aM))],pI (nW.2)]) ?_
  refine xS 9 (qs ?_)
  refine xS 10 (qs ?_)
  refine xN (aV [pB ((nW.1).bQ),pS ((nW.1).fS), .d (.slice (((nW.1).fL).map aM))] TT.bB ?_)
  refine xz 3 (pI (nW.2)) ?_
  refine sR ?_
  refine xA 11 (aW (.agg [pB ((nW.1).bQ),pS ((nW.1).fS), .d (.slice (((nW.1).fL).map aM))]) TT.bB ⟨.d (.agg (ct (nW.1))),(fX.cN rfl),?_⟩)
  refine xm 12 (pI (nW.2)) ?_
  refine xN (aV [pB ((nW.1).bQ),pS ((nW.1).fS), .d (.slice (((nW.1).fL).map aM))] TT.bB ?_)
  refine xa 3 (pI (nW.2)) ?_
  refine xN (aV [pI (0)] TT.kX ?_)
  refine XK.nz ?_
  refine QW.ret zL ?_
  obtain rfl:=sO h
  exact .inl (wL.more [.agg [pB ((nW.1).bQ),pS ((nW.1).fS), .d (.slice (((nW.1).fL).map aM))],pI (nW.2),pI (0)] 1 (pI (0)) (pI (0)) none rfl rfl (sD 0) rfl rfl rfl (And.intro (aN.cell rfl rfl TT.bB ⟨⟨by simp,by simp⟩,rfl⟩) (And.intro (aN.tmp rfl) (And.intro (aN.cell rfl rfl TT.kX ⟨⟨by simp,by simp⟩,rfl⟩) trivial))) rfl)
 ·refine XK.fp (p:= .d (.iface 145 (.agg [.val (.int .i64 e_5)]))) (H2:=cG _ 2 (some (.var [pI (eD.fn)]))) (nr:=3) rfl (bR [2] rfl rfl TT.xZ (uX s0 (0) (⟨0⟩:counter) _ fk) rfl rfl (by decide) (And.intro rfl trivial) bL) rfl rfl rfl (tR ?_)
  obtain rfl:=sO h
  exact .inl (wL.more [.agg [pB false,pS ([]:List UInt8), .full (([]:(List Item)).map aM)],pI (0),pI e_5] 1 (pI (0)) (pI e_5) (some (.iface 145 (.agg [.val (.int .i64 e_5)]))) rfl rfl (sE 0 e_5) rfl rfl (⟨_,rfl,rfl⟩) (And.intro (aN.cell rfl rfl TT.bB ⟨⟨by simp,by simp⟩,rfl⟩) (And.intro (aN.tmp rfl) (And.intro (aN.cell rfl rfl TT.kX ⟨⟨by simp,by simp⟩,rfl⟩) trivial))) rfl)
noncomputable def gV (s0:(List UInt8)):Option (Item×Int):=
  ((oL s0).bind fun (x_1:(Item×Int×Int))=>
  (bif (!decide ((x_1.2.2)=(0:Int))) then
  some ((⟨false,([]:List UInt8),([]:(List Item))⟩:Item),x_1.2.2)
  else
  (bif (!decide ((x_1.2.1)=(s0.length:Int))) then
  some ((⟨false,([]:List UInt8),([]:(List Item))⟩:Item),6)
  else
  some (x_1.1,0))))
theorem A9 (s0:(List UInt8)) (r:(Item×Int)) (h:gV s0=some r):cD Tryz.prog 83 [.val (sV s0)] (.tuple [.agg (ct (r.1)), .val (.int .i64 (r.2))]):=by
 refine fQ Tryz.func83 Tryz.ntmps83 TT.U3 ?_
 unfold gV at h
 refine sR ?_
 refine xS 2 (bl [pB false,pS ([]:List UInt8), .full (([]:(List Item)).map aM)] TT.jL ?_)
 refine xz 3 (pI (0)) ?_
 refine sR ?_
 refine xm 8 (pS s0) ?_
 obtain ⟨x_1,fk,h⟩:=bO h
 refine xS 9 (az (Li s0 _ fk) ?_)
 refine xm 7 (.d (.tuple [.agg (ct (x_1.1)), .val (.int .i64 (x_1.2.1)), .val (.int .i64 (x_1.2.2))])) ?_
 refine xS 10 (aY ?_)
 refine xS 11 (aY ?_)
 refine xS 12 (aY ?_)
 refine xS 4 (bl [pB false,pS ([]:List UInt8), .full (([]:(List Item)).map aM)] TT.jL ?_)
 refine xN (aV [pB ((x_1.1).bQ),pS ((x_1.1).fS), .d (.slice (((x_1.1).fL).map aM))] TT.bB ?_)
 refine xa 5 (pI (x_1.2.1)) ?_
 refine xz 6 (pI (x_1.2.2)) ?_
 refine QW.seq ?_
 refine QW.block ?_
 refine sR ?_
 refine xm 14 (pI (x_1.2.2)) ?_
 refine xS 15 (mI (x_1.2.2) (0:Int) ?_)
 refine xz 13 (pB (!decide ((x_1.2.2)=(0:Int)))) ?_
 refine cT (!decide ((x_1.2.2)=(0:Int))) (fun dY=>?_) (fun dY=>?_)
 ·replace h:=bT h dY
  refine sR ?_
  refine xS 16 (dX (.agg [pB false,pS ([]:List UInt8), .full (([]:(List Item)).map aM)]) rfl TT.q6 (cI rfl cH) ?_)
  refine xm 17 (pI (x_1.2.2)) ?_
  refine xN (aV [pB false,pS ([]:List UInt8), .full (([]:(List Item)).map aM)] TT.bB ?_)
  refine xz 3 (pI (x_1.2.2)) ?_
  refine QW.ret zL (nK (dc ?_))
  obtain rfl:=sO h
  exact Ends.more (.inr rfl) rfl (ps:=[.agg [pB false,pS ([]:List UInt8), .full (([]:(List Item)).map aM)],pI (x_1.2.2)]) (And.intro (aN.cell rfl rfl TT.bB ⟨⟨by simp,by simp⟩,rfl⟩) (And.intro (aN.tmp rfl) trivial)) rfl rfl
 ·replace h:=bF h dY
  refine sR ?_
  refine xm 19 (pI (x_1.2.1)) ?_
  refine xm 20 (pS s0) ?_
  refine xS 21 (eU s0 TT.bh ?_)
  refine xS 22 (mI (x_1.2.1) (s0.length:Int) ?_)
  refine xz 18 (pB (!decide ((x_1.2.1)=(s0.length:Int)))) ?_
  refine cT (!decide ((x_1.2.1)=(s0.length:Int))) (fun fA=>?_) (fun fA=>?_)
  ·replace h:=bT h fA
   refine sR ?_
   refine xS 23 (dX (.agg [pB false,pS ([]:List UInt8), .full (([]:(List Item)).map aM)]) rfl TT.q6 (cI rfl cH) ?_)
   refine xN (aV [pB false,pS ([]:List UInt8), .full (([]:(List Item)).map aM)] TT.bB ?_)
   refine xz 3 (pI (6)) ?_
   refine QW.ret zL (nK (dc ?_))
   obtain rfl:=sO h
   exact Ends.more (.inr rfl) rfl (ps:=[.agg [pB false,pS ([]:List UInt8), .full (([]:(List Item)).map aM)],pI (6)]) (And.intro (aN.cell rfl rfl TT.bB ⟨⟨by simp,by simp⟩,rfl⟩) (And.intro (aN.tmp rfl) trivial)) rfl rfl
  ·replace h:=bF h fA
   refine QW.skip zL (iS (cn ?_))
   refine sR ?_
   refine xA 24 (aW (.agg [pB ((x_1.1).bQ),pS ((x_1.1).fS), .d (.slice (((x_1.1).fL).map aM))]) TT.bB ⟨.d (.agg (ct (x_1.1))),(fX.cN rfl),?_⟩)
   refine xN (aV [pB ((x_1.1).bQ),pS ((x_1.1).fS), .d (.slice (((x_1.1).fL).map aM))] TT.bB ?_)
   refine xz 3 (pI (0)) ?_
   refine QW.ret zL ?_
   obtain rfl:=sO h
   exact Ends.more (.inr rfl) rfl (ps:=[.agg [pB ((x_1.1).bQ),pS ((x_1.1).fS), .d (.slice (((x_1.1).fL).map aM))],pI (0)]) (And.intro (aN.cell rfl rfl TT.bB ⟨⟨by simp,by simp⟩,rfl⟩) (And.intro (aN.tmp rfl) trivial)) rfl rfl
noncomputable def rL (c0:UInt8) (v1:(List UInt8)):Option (Unit×(List UInt8)):=
  gO ((v1.length+([(oJ c0 (4:Int)),(c0&&& (15:UInt8))]:List UInt8).length)*1≤140737488355328) (
  some ((),(v1++([(oJ c0 (4:Int)),(c0&&& (15:UInt8))]:List UInt8))))
theorem Ef (c0:UInt8) (v1:(List UInt8)) (r:(Unit×(List UInt8))) (h:rL c0 v1=some r):Spec Tryz.prog 118 [.d (.val (.int .u8 (c0.toNat:Int))), .aR 0 0] (aK [.var [.own 1 (v1.map aa)], .spare 1 v1.length]) 2 (mJ (.ret (.tuple [])) (aK [.var [.own 2 ((r.2).map aa)], .dead, .spare 1 (r.2).length]) 3):=by
 refine Spec.sw Tryz.func118 rfl (by simp [Tryz.ntmps118]) bL ?_
 rw [Tryz.ntmps118,TT.SD]
 refine QW.view (s':=⟨bW [(0, .d (.val (.int .u8 (c0.toNat:Int)))),(1, .aR 0 0)],aK [.var [.own 1 (v1.map aa)], .spare 1 v1.length],2,[]⟩) (View.nJ bL (by rfl)) bL ?_
 unfold rL at h
 refine Gk ?_
 refine xS 3 (aW (.own 1 (v1.map aa)) TT.fJ ?_)
 refine xm 4 (.d (.val (.int .u8 (c0.toNat:Int)))) ?_
 refine xS 5 (JM c0 (4:Int) ?_)
 refine xm 6 (.d (.val (.int .u8 (c0.toNat:Int)))) ?_
 refine xS 7 (JK c0 (15:UInt8) ?_)
 refine xS 8 (eA aa ([(oJ c0 (4:Int)),(c0&&& (15:UInt8))]:List UInt8) TT.eV ?_)
 obtain ⟨oK,h⟩:=bq h
 refine xS 9 (kA aa v1 ([(oJ c0 (4:Int)),(c0&&& (15:UInt8))]:List UInt8) TT.eV TT.bt oK ?_)
 refine xN (aV [.own 2 ((v1++([(oJ c0 (4:Int)),(c0&&& (15:UInt8))]:List UInt8)).map aa)] TT.fJ ?_)
 refine XK.nil ?_
 obtain rfl:=sO h
 exact gu.none (s':=⟨bW [],aK [.var [.own 2 ((v1++([(oJ c0 (4:Int)),(c0&&& (15:UInt8))]:List UInt8)).map aa)], .dead, .spare 1 (v1++([(oJ c0 (4:Int)),(c0&&& (15:UInt8))]:List UInt8)).length],3,[]⟩) (.inl rfl) (vM 3 [0,1,2]) rfl bL (fun i hi=>ec [.var [.own 2 ((v1++([(oJ c0 (4:Int)),(c0&&& (15:UInt8))]:List UInt8)).map aa)], .dead, .spare 1 (v1++([(oJ c0 (4:Int)),(c0&&& (15:UInt8))]:List UInt8)).length] [] i hi) rfl (by simp [HO.bw,HO.bH,PV.bw,PV.bH,cz,dK])
inductive CJ where
 | S
 | L1 (yq:Int) (cU:(List UInt8))
noncomputable def kG (s0:(List UInt8)):CJ→Option (CJ⊕((List UInt8)×Bool×Int))
 | .S=>
  (bif (s0==([]:List UInt8)) then
  some (.inr (([]:(List UInt8)),false,5))
  else
  some (.inl (.L1 (0) ([]:(List UInt8)))))
 | .L1 yq cU=>
  (bif (decide (yq<(gl (s0.length:Int) (64:Int)))) then
  gO (0≤yq∧yq<(s0.length:Int)) (
  ((rL (idx s0 yq) cU).bind fun (SR:(Unit×(List UInt8)))=>
  gO (bf (yq+(1:Int))) (
  some (.inl (.L1 (yq+(1:Int)) (SR.2))))))
  else
  gO (0≤(0:Int)∧(0:Int)<(cU.length:Int)) (
  gO (bf ((2:Int)-(((idx cU (0:Int))%(2:UInt8)).toNat:Int))) (
  gO ((((decide ((3:Int)<((idx cU (0:Int)).toNat:Int)))==false)&&((decide ((((idx cU (0:Int))%(2:UInt8)).toNat:Int)=(0:Int)))==true))=true→0≤(1:Int)∧(1:Int)<(cU.length:Int)) (
  gO ((((decide ((3:Int)<((idx cU (0:Int)).toNat:Int)))||((decide ((((idx cU (0:Int))%(2:UInt8)).toNat:Int)=(0:Int)))&&(!decide (((idx cU (1:Int)).toNat:Int)=(0:Int)))))==false)=true→bf ((2:Int)*(s0.length:Int))) (
  gO ((((decide ((3:Int)<((idx cU (0:Int)).toNat:Int)))||((decide ((((idx cU (0:Int))%(2:UInt8)).toNat:Int)=(0:Int)))&&(!decide (((idx cU (1:Int)).toNat:Int)=(0:Int)))))==false)=true→bf (((2:Int)*(s0.length:Int))-((2:Int)-(((idx cU (0:Int))%(2:UInt8)).toNat:Int)))) (
  (bif (((decide ((3:Int)<((idx cU (0:Int)).toNat:Int)))||((decide ((((idx cU (0:Int))%(2:UInt8)).toNat:Int)=(0:Int)))&&(!decide (((idx cU (1:Int)).toNat:Int)=(0:Int)))))||(decide ((64:Int)<(((2:Int)*(s0.length:Int))-((2:Int)-(((idx cU (0:Int))%(2:UInt8)).toNat:Int)))))) then
  some (.inr (([]:(List UInt8)),false,6))
  else
  gO (0≤((2:Int)-(((idx cU (0:Int))%(2:UInt8)).toNat:Int))∧((2:Int)-(((idx cU (0:Int))%(2:UInt8)).toNat:Int))≤(cU.length:Int)∧(cU.length:Int)≤(cU.length:Int)) (
  some (.inr ((sub cU ((2:Int)-(((idx cU (0:Int))%(2:UInt8)).toNat:Int)) (cU.length:Int)),(decide ((2:Int)≤((idx cU (0:Int)).toNat:Int))),0))))))))))
noncomputable def yt (s0:(List UInt8)):Option ((List UInt8)×Bool×Int):=gJ (kG s0) .S
theorem Gl (s0:(List UInt8)) (r:((List UInt8)×Bool×Int)) (h:yt s0=some r):cD Tryz.prog 114 [.val (sV s0)] (.tuple [.slice ((r.1).map aa), .val (.bool (r.2.1)), .val (.int .i64 (r.2.2))]):=by
 refine fQ Tryz.func114 Tryz.ntmps114 TT.SB ?_
 obtain ⟨_,h⟩:=cP h
 obtain ⟨dm,e9,h⟩:=aQ h;rw [kG] at h
 refine sR ?_
 refine xa 2 (.full (([]:(List UInt8)).map aa)) ?_
 refine xa 3 (pB false) ?_
 refine xz 4 (pI (0)) ?_
 refine QW.seq ?_
 refine sR ?_
 refine xm 10 (pS s0) ?_
 refine xT 11 (jW s0 ([]:List UInt8) ?_)
 refine cT (s0==([]:List UInt8)) (fun c8=>?_) (fun c8=>?_)
 ·replace h:=ej h c8
  refine sR ?_
  refine xa 2 (.full (([]:(List UInt8)).map aa)) ?_
  refine xa 3 (pB false) ?_
  refine xz 4 (pI (5)) ?_
  refine QW.ret zL (dc ?_)
  obtain rfl:=sG h
  exact Ends.more (.inr rfl) rfl (ps:=[.full (([]:(List UInt8)).map aa),pB false,pI (5)]) (And.intro (aN.tmp rfl) (And.intro (aN.tmp rfl) (And.intro (aN.tmp rfl) trivial))) rfl rfl
 ·replace h:=ek h c8
  refine sk ?_
  refine sR ?_
  refine xT 5 (bl [.full (([]:(List UInt8)).map aa)] TT.QE ?_)
  refine QW.seq ?_
  refine QW.view (View.R6 0 0 1 rfl rfl zL) zL ?_
  refine rG ?_
  refine xS 12 (Mg ?_)
  refine xz 6 (.jT 118 [.aR 0 0]) ?_
  refine QW.seq ?_
  refine sR ?_
  refine xm 13 (pS s0) ?_
  refine xS 14 (eU s0 TT.bh ?_)
  refine xS 15 (GC (s0.length:Int) (64:Int) ?_)
  refine xm 16 (pI (0)) ?_
  refine XK.nz ?_
  refine QW.block ?_
  refine lp (fun k σ=>∃ yq:Int,∃ cU:(List UInt8),k≤dm∧run (kG s0) k (.L1 yq cU)=some r∧σ=⟨bW [(0,pS s0),(5, .aR 0 0),(6, .jT 118 [.aR 0 0]),(15,pI (gl (s0.length:Int) (64:Int))),(16,pI yq)],aK [.var [.own 1 (cU.map aa)], .spare 1 cU.length],2,[]⟩) dm ⟨0,([]:(List UInt8)),Nat.le_refl _,jG h,rfl⟩ (vM 2 [0,1]) ?_
  rintro WT _ ⟨yq,cU,WU,h,rfl⟩
  obtain ⟨k_2,e9,h⟩:=aQ h;rw [kG] at h
  refine sR ?_
  refine xT 17 (cM yq (gl (s0.length:Int) (64:Int)) ?_)
  refine QW.seq ?_
  refine cT (decide (yq<(gl (s0.length:Int) (64:Int)))) (fun dY=>?_) (fun dY=>?_)
  ·replace h:=ej h dY
   refine sk ?_
   refine QW.seq ?_
   refine QW.block ?_
   refine sR ?_
   refine xm 18 (pI yq) ?_
   refine xz 7 (pI yq) ?_
   refine rG ?_
   refine xm 19 (.jT 118 [.aR 0 0]) ?_
   refine xm 20 (pS s0) ?_
   refine xm 21 (pI yq) ?_
   obtain ⟨rW,h⟩:=gG h
   refine xS 22 (g8 s0 yq TT.bh rW ?_)
   obtain ⟨SR,vH,h⟩:=bG h
   refine XK.fr (p:= .tuple []) (H2:=cG (cG (cG _ 2 (some (.spare 1 (SR.2).length))) 1 none) 0 (some (.var [.own 2 ((SR.2).map aa)]))) (nr:=3) (some 23) rfl rfl (Mm [0,1] rfl rfl rfl TT.Mw (Ef (idx s0 yq) cU _ vH) rfl rfl (by decide) (And.intro rfl (And.intro rfl trivial)) bL) rfl rfl rfl ?_
   refine XK.nil (iS (cn ?_))
   refine rG ?_
   obtain ⟨uq,h⟩:=gG h
   refine xS 24 (bE yq (1:Int) uq ?_)
   refine xm 16 (pI (yq+(1:Int))) ?_
   refine XK.nz ?_
   exact lb k_2 ⟨(yq+(1:Int)),(SR.2),by omega,jG h,rfl⟩ (vM 2 [0,2])
  ·replace h:=ek h dY
   refine QW.exit zL (eP (eP (kW (cn ?_))))
   refine sR ?_
   refine xS 25 (aW (.own 1 (cU.map aa)) TT.fJ ?_)
   obtain ⟨r5,h⟩:=gG h
   refine xS 26 (bX cU (0:Int) TT.fy fl r5 ?_)
   refine xS 27 (aA (.val (.int .u8 ((idx cU (0:Int)).toNat:Int))) TT.l6 ?_)
   refine xz 8 (.d (.val (.int .u8 ((idx cU (0:Int)).toNat:Int)))) ?_
   refine sR ?_
   refine xm 28 (.d (.val (.int .u8 ((idx cU (0:Int)).toNat:Int)))) ?_
   refine xS 29 (yO (idx cU (0:Int)) (2:UInt8) ?_)
   refine xS 30 (zE (((idx cU (0:Int))%(2:UInt8)).toNat:Int) TT.dw TT.kD ?_)
   obtain ⟨nT,h⟩:=gG h
   refine xS 31 (mZ (2:Int) (((idx cU (0:Int))%(2:UInt8)).toNat:Int) nT ?_)
   refine xz 9 (pI ((2:Int)-(((idx cU (0:Int))%(2:UInt8)).toNat:Int))) ?_
   refine QW.seq ?_
   refine sR ?_
   refine xm 32 (.d (.val (.int .u8 ((idx cU (0:Int)).toNat:Int)))) ?_
   refine xS 33 (kU ((idx cU (0:Int)).toNat:Int) (3:Int) ?_)
   refine xm 34 (pB (decide ((3:Int)<((idx cU (0:Int)).toNat:Int)))) ?_
   refine xg 35 (.d (.val (.int .u8 ((idx cU (0:Int)).toNat:Int)))) rfl rfl (fun hg=>ax (.d (.val (.int .u8 ((idx cU (0:Int)).toNat:Int)))) g3) ?_
   refine xg 36 (.d (.val (.int .u8 (((idx cU (0:Int))%(2:UInt8)).toNat:Int)))) rfl rfl (fun hg=>yO (idx cU (0:Int)) (2:UInt8) g3) ?_
   refine xg 37 (pB (decide ((((idx cU (0:Int))%(2:UInt8)).toNat:Int)=(0:Int)))) rfl rfl (fun hg=>dj (((idx cU (0:Int))%(2:UInt8)).toNat:Int) (0:Int) g3) ?_
   refine xg 38 (pB (decide ((((idx cU (0:Int))%(2:UInt8)).toNat:Int)=(0:Int)))) rfl rfl (fun hg=>ax (pB (decide ((((idx cU (0:Int))%(2:UInt8)).toNat:Int)=(0:Int)))) g3) ?_
   refine XK.gd (v:= .own 1 (cU.map aa)) (T:=[0]) (some 39) rfl rfl (by repeat (first | exact trivial | refine ⟨fun q=>by first | rfl | exact q | exact qZ q | exact sQ q,?_⟩)) (fun hg=>aW (.own 1 (cU.map aa)) TT.fJ g3) (fun _ i hi=>by simp only [List.mem_singleton] at hi;subst hi;decide) ?_
   obtain ⟨td,h⟩:=gG h
   refine xg 40 (.d (.cF ([.val (.int .u8 ((idx cU (1:Int)).toNat:Int))]))) rfl rfl (fun hg=>bX cU (1:Int) TT.fy fl (td hg) g3) ?_
   refine xg 41 (.d (.val (.int .u8 ((idx cU (1:Int)).toNat:Int)))) rfl rfl (fun hg=>aA (.val (.int .u8 ((idx cU (1:Int)).toNat:Int))) TT.l6 g3) ?_
   refine xg 42 (pB (!decide (((idx cU (1:Int)).toNat:Int)=(0:Int)))) rfl rfl (fun hg=>mI ((idx cU (1:Int)).toNat:Int) (0:Int) g3) ?_
   refine XK.gp (some 43) rfl rfl rfl rfl rfl rfl (fun h=>h) (fun hg hb=>by first | (rw [hg,hb];rfl) | (simp only [hg,hb];rfl) | simp_all) (fun _ _=>rfl) ((decide ((((idx cU (0:Int))%(2:UInt8)).toNat:Int)=(0:Int)))&&(!decide (((idx cU (1:Int)).toNat:Int)=(0:Int)))) (Ea _ _) ?_
   refine xS 44 (fh ?_)
   refine xm 45 (pB ((decide ((3:Int)<((idx cU (0:Int)).toNat:Int)))||((decide ((((idx cU (0:Int))%(2:UInt8)).toNat:Int)=(0:Int)))&&(!decide (((idx cU (1:Int)).toNat:Int)=(0:Int)))))) ?_
   refine xg 46 (pS s0) rfl rfl (fun hg=>ax (pS s0) g3) ?_
   refine xg 47 (pI (s0.length:Int)) rfl rfl (fun hg=>eU s0 TT.bh g3) ?_
   obtain ⟨kP,h⟩:=gG h
   refine xg 48 (pI ((2:Int)*(s0.length:Int))) rfl rfl (fun hg=>zC (2:Int) (s0.length:Int) (kP hg) g3) ?_
   refine xg 49 (pI ((2:Int)-(((idx cU (0:Int))%(2:UInt8)).toNat:Int))) rfl rfl (fun hg=>ax (pI ((2:Int)-(((idx cU (0:Int))%(2:UInt8)).toNat:Int))) g3) ?_
   obtain ⟨nU,h⟩:=gG h
   refine xg 50 (pI (((2:Int)*(s0.length:Int))-((2:Int)-(((idx cU (0:Int))%(2:UInt8)).toNat:Int)))) rfl rfl (fun hg=>mZ ((2:Int)*(s0.length:Int)) ((2:Int)-(((idx cU (0:Int))%(2:UInt8)).toNat:Int)) (nU hg) g3) ?_
   refine xg 51 (pB (decide ((64:Int)<(((2:Int)*(s0.length:Int))-((2:Int)-(((idx cU (0:Int))%(2:UInt8)).toNat:Int)))))) rfl rfl (fun hg=>kU (((2:Int)*(s0.length:Int))-((2:Int)-(((idx cU (0:Int))%(2:UInt8)).toNat:Int))) (64:Int) g3) ?_
   refine xT 52 (fh ?_)
   refine cT (((decide ((3:Int)<((idx cU (0:Int)).toNat:Int)))||((decide ((((idx cU (0:Int))%(2:UInt8)).toNat:Int)=(0:Int)))&&(!decide (((idx cU (1:Int)).toNat:Int)=(0:Int)))))||(decide ((64:Int)<(((2:Int)*(s0.length:Int))-((2:Int)-(((idx cU (0:Int))%(2:UInt8)).toNat:Int)))))) (fun r6=>?_) (fun r6=>?_)
   ·replace h:=ej h r6
    refine sR ?_
    refine xa 2 (.full (([]:(List UInt8)).map aa)) ?_
    refine xa 3 (pB false) ?_
    refine xz 4 (pI (6)) ?_
    refine QW.ret zL (dc ?_)
    obtain rfl:=sG h
    exact Ends.more (.inr rfl) rfl (ps:=[.full (([]:(List UInt8)).map aa),pB false,pI (6)]) (And.intro (aN.tmp rfl) (And.intro (aN.tmp rfl) (And.intro (aN.tmp rfl) trivial))) rfl rfl
   ·replace h:=ek h r6
    refine sk ?_
    refine sR ?_
    refine xS 53 (aW (.own 1 (cU.map aa)) TT.fJ ?_)
    refine xm 54 (pI ((2:Int)-(((idx cU (0:Int))%(2:UInt8)).toNat:Int))) ?_
    refine xS 55 (aW (.own 1 (cU.map aa)) TT.fJ ?_)
    refine xS 56 (cX aa cU TT.bt ?_)
    refine xS 57 (aW (.own 1 (cU.map aa)) TT.fJ ?_)
    refine xS 58 (cX aa cU TT.bt ?_)
    obtain ⟨uY,h⟩:=gG h
    refine xS 59 (Qk cU ((2:Int)-(((idx cU (0:Int))%(2:UInt8)).toNat:Int)) (cU.length:Int) TT.bt TT.fy fl uY ?_)
    refine xm 60 (.d (.val (.int .u8 ((idx cU (0:Int)).toNat:Int)))) ?_
    refine xS 61 (pO ((idx cU (0:Int)).toNat:Int) (2:Int) ?_)
    refine xa 2 (.full ((sub cU ((2:Int)-(((idx cU (0:Int))%(2:UInt8)).toNat:Int)) (cU.length:Int)).map aa)) ?_
    refine xa 3 (pB (decide ((2:Int)≤((idx cU (0:Int)).toNat:Int)))) ?_
    refine xz 4 (pI (0)) ?_
    refine QW.ret zL ?_
    obtain rfl:=sG h
    exact Ends.more (.inr rfl) rfl (ps:=[.full ((sub cU ((2:Int)-(((idx cU (0:Int))%(2:UInt8)).toNat:Int)) (cU.length:Int)).map aa),pB (decide ((2:Int)≤((idx cU (0:Int)).toNat:Int))),pI (0)]) (And.intro (aN.tmp rfl) (And.intro (aN.tmp rfl) (And.intro (aN.tmp rfl) trivial))) rfl rfl
inductive FX where
 | S
 | L2 (j3:Int) (dM:Int) (v6:(List UInt8))
noncomputable def jm (n0:Int) (tf:Bool):FX→Option (FX⊕(List UInt8))
 | .S=>
  (((bif tf then
  some (192)
  else
  some (128)):Option Int).bind fun (v5:Int)=>
  (bif (decide ((gl (jj n0 (0:Int)) (4294967296:Int))≤(55:Int))) then
  gO (bf (v5+(gl (jj n0 (0:Int)) (4294967296:Int)))) (
  some (.inr ([(g7 (v5+(gl (jj n0 (0:Int)) (4294967296:Int))))]:List UInt8)))
  else
  some (.inl (.L2 (gl (jj n0 (0:Int)) (4294967296:Int)) v5 ([]:(List UInt8))))))
 | .L2 j3 dM v6=>
  (bif (decide ((0:Int)<j3)) then
  gO ((([(g7 j3)]:List UInt8).length+v6.length)*1≤140737488355328) (
  some (.inl (.L2 (JF j3 (8:Int)) dM (([(g7 j3)]:List UInt8)++v6))))
  else
  gO (bf (dM+(55:Int))) (
  gO (bf ((dM+(55:Int))+(v6.length:Int))) (
  gO (([(g7 ((dM+(55:Int))+(v6.length:Int)))]:List UInt8).length+v6.length≤9223372036854775807) (
  some (.inr (([(g7 ((dM+(55:Int))+(v6.length:Int)))]:List UInt8)++v6))))))
noncomputable def uZ (n0:Int) (tf:Bool):Option (List UInt8):=gJ (jm n0 tf) .S
theorem CK (n0:Int) (tf:Bool) (r:(List UInt8)) (h:uZ n0 tf=some r):cD Tryz.prog 100 [.val (.int .i64 n0), .val (.bool tf)] (.val (sV r)):=by
 refine fQ Tryz.func100 Tryz.ntmps100 TT.Sx ?_
 obtain ⟨_,h⟩:=cP h
 obtain ⟨dm,e9,h⟩:=aQ h;rw [jm] at h
 refine sR ?_
 refine xz 4 (pS ([]:List UInt8)) ?_
 refine sR ?_
 refine xm 7 (pI n0) ?_
 refine xS 8 (Pu n0 (0:Int) ?_)
 refine xS 9 (GC (jj n0 (0:Int)) (4294967296:Int) ?_)
 refine xz 0 (pI (gl (jj n0 (0:Int)) (4294967296:Int))) ?_
 refine sR ?_
 refine xz 5 (pI (128)) ?_
 obtain ⟨v5,hq,h⟩:=bG h
 refine QW.s6 (fun s'=>s'=⟨bW [(0,pI (gl (jj n0 (0:Int)) (4294967296:Int))),(5,pI v5)],aK [],0,[]⟩) ?_ ?_
 ·replace h:=hq;clear hq
  refine sR ?_
  refine xm 10 (pB tf) ?_
  refine XK.nz ?_
  refine cT tf (fun c8=>?_) (fun c8=>?_)
  ·replace h:=bT h c8
   refine rG ?_
   refine xz 5 (pI (192)) ?_
   obtain rfl:=sO h
   exact jb rfl (vM 0 [])
  ·replace h:=bF h c8
   refine sk ?_
   obtain rfl:=sO h
   exact jb rfl (vM 0 [])
 ·rintro _ rfl
  refine QW.seq ?_
  refine sR ?_
  refine xm 11 (pI (gl (jj n0 (0:Int)) (4294967296:Int))) ?_
  refine xT 12 (uI (gl (jj n0 (0:Int)) (4294967296:Int)) (55:Int) ?_)
  refine cT (decide ((gl (jj n0 (0:Int)) (4294967296:Int))≤(55:Int))) (fun cQ=>?_) (fun cQ=>?_)
  ·replace h:=ej h cQ
   refine sR ?_
   refine xm 13 (pI v5) ?_
   refine xm 14 (pI (gl (jj n0 (0:Int)) (4294967296:Int))) ?_
   obtain ⟨eD,h⟩:=gG h
   refine xS 15 (bE v5 (gl (jj n0 (0:Int)) (4294967296:Int)) eD ?_)
   refine xS 16 (oY (v5+(gl (jj n0 (0:Int)) (4294967296:Int))) TT.kD TT.dw ?_)
   refine xS 17 (eA aa ([(g7 (v5+(gl (jj n0 (0:Int)) (4294967296:Int))))]:List UInt8) TT.eV ?_)
   refine xS 18 (nk ([(g7 (v5+(gl (jj n0 (0:Int)) (4294967296:Int))))]:List UInt8) TT.bt TT.dw TT.bh ?_)
   refine xz 4 (pS ([(g7 (v5+(gl (jj n0 (0:Int)) (4294967296:Int))))]:List UInt8)) ?_
   refine QW.ret zL (dc ?_)
   obtain rfl:=sG h
   exact eO
  ·replace h:=ek h cQ
   refine sk ?_
   refine sR ?_
   refine xz 6 (.full (([]:(List UInt8)).map aa)) ?_
   refine QW.seq ?_
   refine QW.block ?_
   refine lp (fun k σ=>∃ j3:Int,∃ dM:Int,∃ v6:(List UInt8),k≤dm∧run (jm n0 tf) k (.L2 j3 dM v6)=some r∧σ=⟨bW [(0,pI j3),(5,pI dM),(6, .d (.slice (v6.map aa)))],aK [],0,[]⟩) dm ⟨(gl (jj n0 (0:Int)) (4294967296:Int)),v5,([]:(List UInt8)),Nat.le_refl _,jG h,rfl⟩ (vM 0 []) ?_
   rintro WV _ ⟨j3,dM,v6,WW,h,rfl⟩
   obtain ⟨QG,e9,h⟩:=aQ h;rw [jm] at h
   refine QW.seq ?_
   refine sR ?_
   refine xm 19 (pI j3) ?_
   refine xT 20 (kU j3 (0:Int) ?_)
   refine cT (decide ((0:Int)<j3)) (fun mO=>?_) (fun mO=>?_)
   ·replace h:=ej h mO
    refine sk ?_
    refine QW.seq ?_
    refine QW.block ?_
    refine rG ?_
    refine xm 23 (pI j3) ?_
    refine xS 24 (oY j3 TT.kD TT.dw ?_)
    refine xS 25 (eA aa ([(g7 j3)]:List UInt8) TT.eV ?_)
    refine xm 26 (.d (.slice (v6.map aa))) ?_
    obtain ⟨oM,h⟩:=gG h
    refine XK.pr (v:= .d (.slice ((([(g7 j3)]:List UInt8)++v6).map aa))) (some 27) rfl rfl (UH (en:=aa) (l:=([(g7 j3)]:List UInt8)) (l2:=v6) rfl TT.eV TT.bt rfl fl rfl rfl oM (by decide)) ?_
    refine xa 6 (.d (.slice ((([(g7 j3)]:List UInt8)++v6).map aa))) ?_
    refine XK.nil (iS (cn ?_))
    refine rG ?_
    refine xm 21 (pI j3) ?_
    refine xS 22 (Uz j3 (8:Int) ?_)
    refine xz 0 (pI (JF j3 (8:Int))) ?_
    exact lb QG ⟨(JF j3 (8:Int)),dM,(([(g7 j3)]:List UInt8)++v6),by omega,jG h,rfl⟩ (vM 0 [])
   ·replace h:=ek h mO
    refine QW.exit zL (eP (eP (kW (cn ?_))))
    refine sR ?_
    refine xm 28 (pI dM) ?_
    obtain ⟨pJ,h⟩:=gG h
    refine xS 29 (bE dM (55:Int) pJ ?_)
    refine xm 30 (.d (.slice (v6.map aa))) ?_
    refine xS 31 (cX aa v6 TT.bt ?_)
    obtain ⟨uq,h⟩:=gG h
    refine xS 32 (bE (dM+(55:Int)) (v6.length:Int) uq ?_)
    refine xS 33 (oY ((dM+(55:Int))+(v6.length:Int)) TT.kD TT.dw ?_)
    refine xS 34 (eA aa ([(g7 ((dM+(55:Int))+(v6.length:Int)))]:List UInt8) TT.eV ?_)
    refine xS 35 (nk ([(g7 ((dM+(55:Int))+(v6.length:Int)))]:List UInt8) TT.bt TT.dw TT.bh ?_)
    refine xm 36 (.d (.slice (v6.map aa))) ?_
    refine xS 37 (nk v6 TT.bt TT.dw TT.bh ?_)
    obtain ⟨r5,h⟩:=gG h
    refine xS 38 (lZ ([(g7 ((dM+(55:Int))+(v6.length:Int)))]:List UInt8) v6 r5 ?_)
    refine xz 4 (pS (([(g7 ((dM+(55:Int))+(v6.length:Int)))]:List UInt8)++v6)) ?_
    refine QW.ret zL ?_
    obtain rfl:=sG h
    exact eO
inductive wT where
 | S
 | L1 (v7:(List UInt8)) (uu:Int) (j0:Int)
noncomputable def eY (self:Item→Int→counter→Option (((List UInt8)⊕Int)×counter)) (x1:Item) (eW:Int) (c0:counter):wT→Option (wT⊕(((List UInt8)⊕Int)×counter))
 | .S=>
  ((fZ eW c0).bind fun xx=>match xx with
  | (.inl nW,eD)=>
    ((gK ((x1.fS==([]:List UInt8))||(!(x1).bQ)) (6)).bind fun xx=>match xx with
    | .inl MD=>
      ((gK ((decide (((x1.fL).length:Int)=(0:Int)))||x1.bQ) (6)).bind fun xx=>match xx with
      | .inl Ze=>
        (bif (!(x1).bQ) then
        gO ((decide (((x1.fS).length:Int)=(1:Int)))=true→0≤(0:Int)∧(0:Int)<((x1.fS).length:Int)) (
        (bif ((decide (((x1.fS).length:Int)=(1:Int)))&&(decide (((idx (x1.fS) (0:Int)).toNat:Int)<(128:Int)))) then
        some (.inr ((.inl (x1.fS)),eD))
        else
        ((uZ ((x1.fS).length:Int) false).bind fun (x_20:(List UInt8))=>
        gO (x_20.length+(x1.fS).length≤9223372036854775807) (
        some (.inr ((.inl (x_20++x1.fS)),eD))))))
        else
        some (.inl (.L1 ([]:(List UInt8)) (0) (eD.fn))))
      | .inr SS=>
        some (.inr (.inr SS,eD)))
    | .inr A8=>
      some (.inr (.inr A8,eD)))
  | (.inr e_5,eD)=>
    some (.inr (.inr e_5,eD)))
 | .L1 v7 uu j0=>
  (bif (decide (uu<((x1.fL).length:Int))) then
  gO (0≤uu∧uu<((x1.fL).length:Int)) (
  gO (bf (eW+(1:Int))) (
  ((self (idx (x1.fL) uu) (eW+(1:Int)) (⟨j0⟩:counter)).bind fun xx=>match xx with
  | (.inl HT,q7)=>
    gO ((v7.length+HT.length)*1≤140737488355328) (
    gO (bf (uu+(1:Int))) (
    some (.inl (.L1 (v7++HT) (uu+(1:Int)) (q7.fn)))))
  | (.inr SU,q7)=>
    some (.inr (.inr SU,q7)))))
  else
  ((uZ (v7.length:Int) true).bind fun (gM:(List UInt8))=>
  gO (gM.length+v7.length≤9223372036854775807) (
  some (.inr ((.inl (gM++v7)),(⟨j0⟩:counter))))))
noncomputable def vK (self:Item→Int→counter→Option (((List UInt8)⊕Int)×counter)) (x1:Item) (eW:Int) (c0:counter):Option (((List UInt8)⊕Int)×counter):=gJ (eY self x1 eW c0) .S
theorem AF (self:Item→Int→counter→Option (((List UInt8)⊕Int)×counter)) (dZ:∀ (y0:Item) (y1:Int) (y2:counter) (rr:(((List UInt8)⊕Int)×counter)),self y0 y1 y2=some rr→Spec Tryz.prog 82 [.aR 0 0, .d (.agg (ct y0)),pI y1] (aK [.var [pI (y2.fn)]]) 1 (mJ (match rr.1 with | .inl x=>Out.ret (pS x) | .inr e=>Out.nV (.d (.iface 145 (.agg [.val (.int .i64 e)])))) (aK [.var [pI ((rr.2).fn)]]) 1)) (x1:Item) (eW:Int) (c0:counter) (r:(((List UInt8)⊕Int)×counter)) (h:vK self x1 eW c0=some r):Spec Tryz.prog 82 [.aR 0 0, .d (.agg (ct x1)),pI eW] (aK [.var [pI (c0.fn)]]) 1 (mJ (match r.1 with | .inl x=>Out.ret (pS x) | .inr e=>Out.nV (.d (.iface 145 (.agg [.val (.int .i64 e)])))) (aK [.var [pI ((r.2).fn)]]) 1):=by
 refine Spec.sw Tryz.func82 rfl (by simp [Tryz.ntmps82]) bL ?_
 rw [Tryz.ntmps82,TT.U2]
 refine QW.view (s':=⟨bW [(0, .aR 0 0),(1, .d (.agg (ct x1))),(2,pI eW)],aK [.var [pI (c0.fn)]],1,[]⟩) (View.nJ bL (by rfl)) bL ?_
 obtain ⟨_,h⟩:=cP h
 obtain ⟨dm,e9,h⟩:=aQ h;rw [eY] at h
 refine mK ?_
 refine XK.fz (some 4) rfl rfl (eE (ct x1) rfl rfl rfl rfl rfl ?_)
 refine xz 6 (pS ([]:List UInt8)) ?_
 refine mK ?_
 refine xm 10 (.aR 0 0) ?_
 refine xm 11 (pI eW) ?_
 obtain ⟨⟨nW | e_5,eD⟩,fk,h⟩:=bG h
 ·refine XK.fr (p:= .tuple []) (H2:=cG _ 0 (some (.var [pI (eD.fn)]))) (nr:=1) (some 12) rfl rfl (bR [0] rfl rfl TT.zG (nv eW c0 _ fk) rfl rfl (by decide) (And.intro rfl trivial) bL) rfl rfl rfl ?_
  refine XK.nz ?_
  refine mK ?_
  refine xS 13 (aL TT.iI ?_)
  refine xS 14 (aA (.val (sV (x1.fS))) TT.eG ?_)
  refine xS 15 (jW x1.fS ([]:List UInt8) ?_)
  refine xm 16 (pB (x1.fS==([]:List UInt8))) ?_
  refine xg 17 (.d (.cF ((ct x1).drop 0))) rfl rfl (fun hg=>aL TT.p8 g3) ?_
  refine xg 18 (pB (x1.bQ)) rfl rfl (fun hg=>aA (.val (.bool (x1.bQ))) TT.A4 g3) ?_
  refine xg 19 (pB (!(x1).bQ)) rfl rfl (fun hg=>kV g3) ?_
  refine xS 20 (fh ?_)
  obtain ⟨MD | A8,oA,h⟩:=bG h
  ·refine XK.fr (p:= .tuple []) (H2:=_) (nr:=1) (some 21) rfl rfl (bR [] rfl rfl TT.fK (dH ((x1.fS==([]:List UInt8))||(!(x1).bQ)) (6) _ oA) rfl rfl (by decide) trivial bL) rfl rfl rfl ?_
   refine XK.nz ?_
   refine mK ?_
   refine xS 22 (aL TT.fY ?_)
   refine xS 23 (aA (.slice ((x1.fL).map aM)) TT.kY ?_)
   refine xS 24 (cX aM x1.fL TT.m9 ?_)
   refine xS 25 (dj ((x1.fL).length:Int) (0:Int) ?_)
   refine xm 26 (pB (decide (((x1.fL).length:Int)=(0:Int)))) ?_
   refine xg 27 (.d (.cF ((ct x1).drop 0))) rfl rfl (fun hg=>aL TT.p8 g3) ?_
   refine xg 28 (pB (x1.bQ)) rfl rfl (fun hg=>aA (.val (.bool (x1.bQ))) TT.A4 g3) ?_
   refine xS 29 (fh ?_)
   obtain ⟨Ze | SS,tg,h⟩:=bG h
   ·refine XK.fr (p:= .tuple []) (H2:=_) (nr:=1) (some 30) rfl rfl (bR [] rfl rfl TT.fK (dH ((decide (((x1.fL).length:Int)=(0:Int)))||x1.bQ) (6) _ tg) rfl rfl (by decide) trivial bL) rfl rfl rfl ?_
    refine XK.nz ?_
    refine QW.seq ?_
    refine QW.seq ?_
    refine QW.view (s':=⟨bW [(0, .aR 0 0),(2,pI eW),(4, .d (.cF (ct x1)))],aK [.var [pI (eD.fn)]],1,[]⟩) (vM 1 [0]) bL ?_
    refine Gk ?_
    refine xS 31 (aL TT.p8 ?_)
    refine xS 32 (aA (.val (.bool (x1.bQ))) TT.A4 ?_)
    refine xT 33 (kV ?_)
    refine QW.cond (t:=(!(x1).bQ)) rfl bL (fun wR=>?_) (fun wR=>?_)
    ·replace h:=ej h wR
     refine QW.seq ?_
     refine mK ?_
     refine xS 34 (aL TT.iI ?_)
     refine xS 35 (aA (.val (sV (x1.fS))) TT.eG ?_)
     refine xS 36 (eU x1.fS TT.bh ?_)
     refine xS 37 (dj ((x1.fS).length:Int) (1:Int) ?_)
     refine xm 38 (pB (decide (((x1.fS).length:Int)=(1:Int)))) ?_
     refine xg 39 (.d (.cF ((ct x1).drop 1))) rfl rfl (fun hg=>aL TT.iI g3) ?_
     refine xg 40 (pS (x1.fS)) rfl rfl (fun hg=>aA (.val (sV (x1.fS))) TT.eG g3) ?_
     obtain ⟨qI,h⟩:=gG h
     refine xg 41 (.d (.val (.int .u8 ((idx (x1.fS) (0:Int)).toNat:Int)))) rfl rfl (fun hg=>g8 x1.fS (0:Int) TT.bh (qI (Hu hg)) g3) ?_
     refine xg 42 (pB (decide (((idx (x1.fS) (0:Int)).toNat:Int)<(128:Int)))) rfl rfl (fun hg=>cM ((idx (x1.fS) (0:Int)).toNat:Int) (128:Int) g3) ?_
     refine xT 43 (cO ?_)
     refine QW.cond (t:=((decide (((x1.fS).length:Int)=(1:Int)))&&(decide (((idx (x1.fS) (0:Int)).toNat:Int)<(128:Int))))) rfl bL (fun wU=>?_) (fun wU=>?_)
     ·replace h:=ej h wU
      refine mK ?_
      refine xS 44 (aL TT.iI ?_)
      refine xS 45 (aA (.val (sV (x1.fS))) TT.eG ?_)
      refine xz 6 (pS (x1.fS)) ?_
      refine QW.ret bL (dc (dc ?_))
      obtain rfl:=sG h
      exact gu.one (s':=⟨bW [(6,pS (x1.fS))],aK [.var [pI (eD.fn)]],1,[]⟩) (.inr rfl) (vM 1 [0]) rfl bL (fun i hi=>ec [.var [pI (eD.fn)]] [] i hi) rfl (by simp [HO.bw,HO.bH,PV.bw,PV.bH,cz,dK]) (aN.tmp rfl) (by simp [PV.bw,PV.bH,cz])
     ·replace h:=ek h wU
      refine QW.skip bL (cn ?_)
      refine QW.seq ?_
      refine QW.region bL (PW.nj (id:=7) dG (M:=_) rfl (by kernel_rfl) ?_)
      refine qS 46 (aL TT.iI (q2 ?_))
      refine qS 47 (aA (.val (sV (x1.fS))) TT.eG (q2 ?_))
      refine qS 48 (eU x1.fS TT.bh (q2 ?_))
      obtain ⟨x_20,wV,h⟩:=bG h
      refine qS 49 (az (CK ((x1.fS).length:Int) false _ wV) (q2 ?_))
      refine qS 50 (aL TT.iI (q2 ?_))
      refine qS 51 (aA (.val (sV (x1.fS))) TT.eG (q2 ?_))
      obtain ⟨MF,h⟩:=gG h
      refine qS 52 (lZ x_20 x1.fS MF (q2 ?_))
      refine qS 6 (cj (pS (x_20++x1.fS)) (q2 ?_))
      refine RQ.nil (cn ?_)
      refine QW.ret bL (dc ?_)
      obtain rfl:=sG h
      exact gu.one (s':=⟨bW [(6,pS (x_20++x1.fS))],aK [.var [pI (eD.fn)]],1,[]⟩) (.inr rfl) (vM 1 [0]) rfl bL (fun i hi=>ec [.var [pI (eD.fn)]] [] i hi) rfl (by simp [HO.bw,HO.bH,PV.bw,PV.bH,cz,dK]) (aN.tmp rfl) (by simp [PV.bw,PV.bH,cz])
    ·replace h:=ek h wR
     refine QW.skip bL (cn ?_)
     refine mK ?_
     refine xz 7 (.full (([]:(List UInt8)).map aa)) ?_
     refine QW.seq ?_
     refine mK ?_
     refine xS 53 (aL TT.fY ?_)
     refine xS 54 (aA (.slice ((x1.fL).map aM)) TT.kY ?_)
     refine xS 55 (cX aM x1.fL TT.m9 ?_)
     refine xm 56 (pI (0)) ?_
     refine XK.nz ?_
     refine QW.block ?_
     refine lp (fun k σ=>∃ v7:(List UInt8),∃ uu:Int,∃ j0:Int,k≤dm∧run (eY self x1 eW c0) k (.L1 v7 uu j0)=some r∧σ=⟨bW [(0, .aR 0 0),(2,pI eW),(7, .own 1 (v7.map aa)),(54, .d (.slice ((x1.fL).map aM))),(55,pI ((x1.fL).length:Int)),(56,pI uu)],aK [.var [pI j0], .spare 1 v7.length],2,[]⟩) dm ⟨([]:(List UInt8)),0,eD.fn,Nat.le_refl _,jG h,rfl⟩ (View.trans (View.buf 7 1 rfl bL) (vM 2 [0,1])) ?_
     rintro XF _ ⟨v7,uu,j0,XG,h,rfl⟩
     obtain ⟨PA,e9,h⟩:=aQ h;rw [eY] at h
     refine mK ?_
     refine xT 57 (cM uu ((x1.fL).length:Int) ?_)
     refine QW.seq ?_
     refine QW.cond (t:=(decide (uu<((x1.fL).length:Int)))) rfl bL (fun Oo=>?_) (fun Oo=>?_)
     ·replace h:=ej h Oo
      refine QW.skip bL (cn ?_)
      refine QW.seq ?_
      refine QW.block ?_
      refine mK ?_
      obtain ⟨HR,h⟩:=gG h
      refine xS 58 (bX x1.fL uu TT.qa gR HR ?_)
      refine xS 59 (aA (.agg (ct (idx (x1.fL) uu))) TT.bB ?_ (h:=by exact ⟨by simp [ct],rfl⟩))
      refine xS 9 (bl [pB false,pS ([]:List UInt8), .full (([]:(List Item)).map aM)] TT.jL ?_)
      refine xN (aV [pB ((idx (x1.fL) uu).bQ),pS ((idx (x1.fL) uu).fS), .d (.slice (((idx (x1.fL) uu).fL).map aM))] TT.bB ?_)
      refine XK.nz ?_
      refine Gk ?_
      refine xm 60 (.own 1 (v7.map aa)) ?_
      refine xm 61 (.aR 0 0) ?_
      refine xA 62 (aW (.agg [pB ((idx (x1.fL) uu).bQ),pS ((idx (x1.fL) uu).fS), .d (.slice (((idx (x1.fL) uu).fL).map aM))]) TT.bB ⟨.d (.agg (ct (idx (x1.fL) uu))),(fX.cN rfl),?_⟩)
      refine xm 63 (pI eW) ?_
      obtain ⟨Ee,h⟩:=gG h
      refine xS 64 (bE eW (1:Int) Ee ?_)
      obtain ⟨⟨HT | SU,q7⟩,zH,h⟩:=bG h
      ·refine XK.fr (p:=pS HT) (H2:=cG _ 0 (some (.var [pI (q7.fn)]))) (nr:=3) (some 65) rfl rfl (bR [0] rfl rfl TT.zF (dZ (idx (x1.fL) uu) (eW+(1:Int)) (⟨j0⟩:counter) _ zH) rfl rfl (by decide) (And.intro rfl trivial) bL) rfl rfl rfl ?_
       obtain ⟨ME,h⟩:=gG h
       refine xS 66 (kA aa v7 HT TT.eV TT.bh ME ?_)
       refine xa 7 (.own 3 ((v7++HT).map aa)) ?_
       refine XK.nil (iS (cn ?_))
       refine Gk ?_
       obtain ⟨CL,h⟩:=gG h
       refine xS 67 (bE uu (1:Int) CL ?_)
       refine xm 56 (pI (uu+(1:Int))) ?_
       refine XK.nz ?_
       exact lb PA ⟨(v7++HT),(uu+(1:Int)),q7.fn,by omega,jG h,rfl⟩ (vM 2 [0,3])
      ·refine XK.fp (p:= .d (.iface 145 (.agg [.val (.int .i64 SU)]))) (H2:=cG _ 0 (some (.var [pI (q7.fn)]))) (nr:=3) rfl (bR [0] rfl rfl TT.zF (dZ (idx (x1.fL) uu) (eW+(1:Int)) (⟨j0⟩:counter) _ zH) rfl rfl (by decide) (And.intro rfl trivial) bL) rfl rfl rfl (K8 (tR (tR (K8 (tR ?_)))))
       obtain rfl:=sG h
       exact gu.nV (s':=⟨bW [],aK [.var [pI (q7.fn)]],1,[]⟩) (vM 1 [0]) rfl bL (fun i hi=>ec [.var [pI (q7.fn)]] [] i hi) rfl (by simp [HO.bw,HO.bH,PV.bw,PV.bH,cz,dK])
     ·replace h:=ek h Oo
      refine QW.exit bL (eP (eP (kW (cn ?_))))
      refine QW.seq ?_
      refine QW.region bL (PW.nj (id:=14) dG (M:=_) rfl (by kernel_rfl) ?_)
      refine qS 68 (ax (.own 1 (v7.map aa)) (q2 ?_))
      refine qS 69 (cX aa v7 TT.bt (q2 ?_))
      obtain ⟨gM,Oq,h⟩:=bG h
      refine qS 70 (az (CK (v7.length:Int) true _ Oq) (q2 ?_))
      refine qS 71 (ax (.own 1 (v7.map aa)) (q2 ?_))
      refine qS 72 (nk v7 TT.bt TT.dw TT.bh (q2 ?_))
      obtain ⟨MG,h⟩:=gG h
      refine qS 73 (lZ gM v7 MG (q2 ?_))
      refine qS 6 (cj (pS (gM++v7)) (q2 ?_))
      refine RQ.nil (cn ?_)
      refine QW.ret bL ?_
      obtain rfl:=sG h
      exact gu.one (s':=⟨bW [(6,pS (gM++v7))],aK [.var [pI j0]],1,[]⟩) (.inr rfl) (vM 1 [0]) rfl bL (fun i hi=>ec [.var [pI j0]] [] i hi) rfl (by simp [HO.bw,HO.bH,PV.bw,PV.bH,cz,dK]) (aN.tmp rfl) (by simp [PV.bw,PV.bH,cz])
   ·refine XK.fp (p:= .d (.iface 145 (.agg [.val (.int .i64 SS)]))) (H2:=_) (nr:=1) rfl (bR [] rfl rfl TT.fK (dH ((decide (((x1.fL).length:Int)=(0:Int)))||x1.bQ) (6) _ tg) rfl rfl (by decide) trivial bL) rfl rfl rfl (tR ?_)
    obtain rfl:=sG h
    exact gu.nV (s':=⟨bW [],aK [.var [pI (eD.fn)]],1,[]⟩) (vM 1 [0]) rfl bL (fun i hi=>ec [.var [pI (eD.fn)]] [] i hi) rfl (by simp [HO.bw,HO.bH,PV.bw,PV.bH,cz,dK])
  ·refine XK.fp (p:= .d (.iface 145 (.agg [.val (.int .i64 A8)]))) (H2:=_) (nr:=1) rfl (bR [] rfl rfl TT.fK (dH ((x1.fS==([]:List UInt8))||(!(x1).bQ)) (6) _ oA) rfl rfl (by decide) trivial bL) rfl rfl rfl (tR ?_)
   obtain rfl:=sG h
   exact gu.nV (s':=⟨bW [],aK [.var [pI (eD.fn)]],1,[]⟩) (vM 1 [0]) rfl bL (fun i hi=>ec [.var [pI (eD.fn)]] [] i hi) rfl (by simp [HO.bw,HO.bH,PV.bw,PV.bH,cz,dK])
 ·refine XK.fp (p:= .d (.iface 145 (.agg [.val (.int .i64 e_5)]))) (H2:=cG _ 0 (some (.var [pI (eD.fn)]))) (nr:=1) rfl (bR [0] rfl rfl TT.zG (nv eW c0 _ fk) rfl rfl (by decide) (And.intro rfl trivial) bL) rfl rfl rfl (tR ?_)
  obtain rfl:=sG h
  exact gu.nV (s':=⟨bW [],aK [.var [pI (eD.fn)]],1,[]⟩) (vM 1 [0]) rfl bL (fun i hi=>ec [.var [pI (eD.fn)]] [] i hi) rfl (by simp [HO.bw,HO.bH,PV.bw,PV.bH,cz,dK])
noncomputable def iJ:Nat→Item→Int→counter→Option (((List UInt8)⊕Int)×counter)
 | 0=>fun _ _ _=>none
 | n+1=>fun y0 y1 y2=>vK (iJ n) y0 y1 y2
theorem tX:∀ (n:Nat) (y0:Item) (y1:Int) (y2:counter) (rr:(((List UInt8)⊕Int)×counter)),iJ n y0 y1 y2=some rr→Spec Tryz.prog 82 [.aR 0 0, .d (.agg (ct y0)),pI y1] (aK [.var [pI (y2.fn)]]) 1 (mJ (match rr.1 with | .inl x=>Out.ret (pS x) | .inr e=>Out.nV (.d (.iface 145 (.agg [.val (.int .i64 e)])))) (aK [.var [pI ((rr.2).fn)]]) 1)
 | 0,_,_,_,_,h=>by cases h
 | n+1,y0,y1,y2,rr,h=>AF (iJ n) (tX n) y0 y1 y2 rr h
noncomputable def r7 (y0:Item) (y1:Int) (y2:counter):Option (((List UInt8)⊕Int)×counter):=vG (fun n=>iJ n y0 y1 y2)
theorem u0 (y0:Item) (y1:Int) (y2:counter) (rr:(((List UInt8)⊕Int)×counter)) (h:r7 y0 y1 y2=some rr):Spec Tryz.prog 82 [.aR 0 0, .d (.agg (ct y0)),pI y1] (aK [.var [pI (y2.fn)]]) 1 (mJ (match rr.1 with | .inl x=>Out.ret (pS x) | .inr e=>Out.nV (.d (.iface 145 (.agg [.val (.int .i64 e)])))) (aK [.var [pI ((rr.2).fn)]]) 1):=by
 obtain ⟨n,hn⟩:=n8 h
 exact tX n y0 y1 y2 rr hn
noncomputable def mP (x0:Item):Option ((List UInt8)×Int):=
  ((r7 x0 (0) (⟨0⟩:counter)).bind fun xx=>match xx with
  | (.inl nW,eD)=>
    some (nW,0)
  | (.inr e_5,eD)=>
    some (([]:List UInt8),e_5))
theorem we (x0:Item) (r:((List UInt8)×Int)) (h:mP x0=some r):cD Tryz.prog 52 [.agg (ct x0)] (.tuple [.val (sV (r.1)), .val (.int .i64 (r.2))]):=by
 refine cD.yS Tryz.func52 rfl (by simp [Tryz.ntmps52]) TT.HJ ?_
 rw [Tryz.ntmps52,TT.UW]
 refine QW.view (s':=⟨bW [(0, .d (.agg (ct x0)))],aK [],0,[]⟩) (View.init (by rfl)) zL ?_
 unfold mP at h
 refine sR ?_
 refine XK.fz (some 1) rfl rfl (eE (ct x0) rfl rfl rfl rfl rfl ?_)
 refine xa 2 (pS ([]:List UInt8)) ?_
 refine xT 3 (bl [pI (0)] TT.yT ?_)
 refine sR ?_
 refine XK.df (L:=[.aR 0 0]) none rfl rfl rfl rfl rfl ?_
 refine XK.nz ?_
 refine sR ?_
 refine xS 4 (bl [pI (0)] TT.HK ?_)
 refine xS 5 (aA (.agg (ct x0)) TT.bB ?_ (h:=by exact ⟨by simp [ct],rfl⟩))
 obtain ⟨⟨nW | e_5,eD⟩,fk,h⟩:=bO h
 ·refine XK.fr (p:=pS nW) (H2:=cG _ 1 (some (.var [pI (eD.fn)]))) (nr:=2) (some 6) rfl rfl (bR [1] rfl rfl TT.zF (u0 x0 (0) (⟨0⟩:counter) _ fk) rfl rfl (by decide) (And.intro rfl trivial) bL) rfl rfl rfl ?_
  refine xz 2 (pS nW) ?_
  refine sR ?_
  refine xm 7 (pS nW) ?_
  refine xa 2 (pS nW) ?_
  refine xN (aV [pI (0)] TT.kX ?_)
  refine XK.nz ?_
  refine QW.ret zL ?_
  obtain rfl:=sO h
  exact .inl (wL.more [pS nW,pI (0)] 0 (pI (0)) (pI (0)) none rfl rfl (sD 0) rfl rfl rfl (And.intro (aN.tmp rfl) (And.intro (aN.cell rfl rfl TT.kX ⟨⟨by simp,by simp⟩,rfl⟩) trivial)) rfl)
 ·refine XK.fp (p:= .d (.iface 145 (.agg [.val (.int .i64 e_5)]))) (H2:=cG _ 1 (some (.var [pI (eD.fn)]))) (nr:=2) rfl (bR [1] rfl rfl TT.zF (u0 x0 (0) (⟨0⟩:counter) _ fk) rfl rfl (by decide) (And.intro rfl trivial) bL) rfl rfl rfl (tR ?_)
  obtain rfl:=sO h
  exact .inl (wL.more [pS ([]:List UInt8),pI e_5] 0 (pI (0)) (pI e_5) (some (.iface 145 (.agg [.val (.int .i64 e_5)]))) rfl rfl (sE 0 e_5) rfl rfl (⟨_,rfl,rfl⟩) (And.intro (aN.tmp rfl) (And.intro (aN.cell rfl rfl TT.kX ⟨⟨by simp,by simp⟩,rfl⟩) trivial)) rfl)
inductive oC where
 | S
 | L1 (v8:Int)
noncomputable def di (v0:(List UInt8)) (f1:UInt8→Option Bool):oC→Option (oC⊕Int)
 | .S=>
  some (.inl (.L1 (0)))
 | .L1 v8=>
  (bif (decide (v8<(v0.length:Int))) then
  gO (0≤v8∧v8<(v0.length:Int)) (
  ((f1 (idx v0 v8)).bind fun (x_4:Bool)=>
  (bif x_4 then
  some (.inr v8)
  else
  gO (bf (v8+(1:Int))) (
  some (.inl (.L1 (v8+(1:Int))))))))
  else
  some (.inr (-1)))
noncomputable def lz (v0:(List UInt8)) (f1:UInt8→Option Bool):Option Int:=gJ (di v0 f1) .S
theorem tS (v0:(List UInt8)) (f1:UInt8→Option Bool) (qQ:Nat) (tT:List D) (Jc:e8 Tryz.prog qQ=true) (Jd:∀ y0 r,f1 y0=some r→cD Tryz.prog qQ ([.val (.int .u8 (y0.toNat:Int))]++tT) (.val (.bool r))) (r:Int) (h:lz v0 f1=some r):cD Tryz.prog 109 [.slice (v0.map aa), .jT qQ tT] (.val (.int .i64 r)):=by
 refine fQ Tryz.func109 Tryz.ntmps109 TT.Sz ?_
 obtain ⟨_,h⟩:=cP h
 obtain ⟨dm,e9,h⟩:=aQ h;rw [di] at h
 refine sR ?_
 refine xz 4 (pI (0)) ?_
 refine QW.seq ?_
 refine sR ?_
 refine xm 6 (.d (.slice (v0.map aa))) ?_
 refine xS 7 (cX aa v0 TT.bt ?_)
 refine xm 8 (pI (0)) ?_
 refine XK.nz ?_
 refine QW.block ?_
 refine lp (fun k σ=>∃ v8:Int,k≤dm∧run (di v0 f1) k (.L1 v8)=some r∧σ=⟨bW [(0, .d (.slice (v0.map aa))),(1, .d (.jT qQ tT)),(7,pI (v0.length:Int)),(8,pI v8)],aK [],0,[]⟩) dm ⟨0,Nat.le_refl _,jG h,rfl⟩ (vM 0 []) ?_
 rintro wP _ ⟨v8,wQ,h,rfl⟩
 obtain ⟨k_1,e9,h⟩:=aQ h;rw [di] at h
 refine sR ?_
 refine xT 9 (cM v8 (v0.length:Int) ?_)
 refine QW.seq ?_
 refine cT (decide (v8<(v0.length:Int))) (fun cQ=>?_) (fun cQ=>?_)
 ·replace h:=ej h cQ
  refine sk ?_
  refine QW.seq ?_
  refine QW.block ?_
  refine sR ?_
  refine xm 10 (pI v8) ?_
  refine xz 5 (pI v8) ?_
  refine sR ?_
  refine xm 11 (.d (.jT qQ tT)) ?_
  refine xm 12 (.d (.slice (v0.map aa))) ?_
  refine xm 13 (pI v8) ?_
  obtain ⟨eD,h⟩:=gG h
  refine xS 14 (bX v0 v8 TT.fy fl eD ?_)
  refine xS 15 (aA (.val (.int .u8 ((idx v0 v8).toNat:Int))) TT.l6 ?_)
  obtain ⟨x_4,mQ,h⟩:=bG h
  refine xT 16 (xW (Jd (idx v0 v8) _ mQ) ?_ (he:=Jc))
  refine cT x_4 (fun j4=>?_) (fun j4=>?_)
  ·replace h:=ej h j4
   refine sR ?_
   refine xm 17 (pI v8) ?_
   refine xz 4 (pI v8) ?_
   refine QW.ret zL (nK (dc (dc (nK (dc ?_)))))
   obtain rfl:=sG h
   exact eO
  ·replace h:=ek h j4
   refine QW.skip zL (iS (cn ?_))
   refine rG ?_
   obtain ⟨pJ,h⟩:=gG h
   refine xS 18 (bE v8 (1:Int) pJ ?_)
   refine xm 8 (pI (v8+(1:Int))) ?_
   refine XK.nz ?_
   exact lb k_1 ⟨(v8+(1:Int)),by omega,jG h,rfl⟩ (vM 0 [])
 ·replace h:=ek h cQ
  refine QW.exit zL (eP (eP (kW (cn ?_))))
  refine sR ?_
  refine xz 4 (pI (-1)) ?_
  refine QW.ret zL ?_
  obtain rfl:=sG h
  exact eO
noncomputable def fT (v0:(List UInt8)) (f1:UInt8→Option Bool):Option Bool:=
  ((lz v0 f1).bind fun (x_1:Int)=>
  some (decide ((0:Int)≤x_1)))
theorem r8 (v0:(List UInt8)) (f1:UInt8→Option Bool) (qQ:Nat) (tT:List D) (Jc:e8 Tryz.prog qQ=true) (Jd:∀ y0 r,f1 y0=some r→cD Tryz.prog qQ ([.val (.int .u8 (y0.toNat:Int))]++tT) (.val (.bool r))) (r:Bool) (h:fT v0 f1=some r):cD Tryz.prog 95 [.slice (v0.map aa), .jT qQ tT] (.val (.bool r)):=by
 refine fQ Tryz.func95 Tryz.ntmps95 TT.U4 ?_
 unfold fT at h
 refine sR ?_
 refine xz 4 (pB false) ?_
 refine sR ?_
 refine xm 5 (.d (.slice (v0.map aa))) ?_
 refine xm 6 (.d (.jT qQ tT)) ?_
 obtain ⟨x_1,fk,h⟩:=bO h
 refine xS 7 (az (tS v0 f1 qQ tT Jc Jd _ fk) ?_)
 refine xS 8 (pO x_1 (0:Int) ?_)
 refine xz 4 (pB (decide ((0:Int)≤x_1))) ?_
 refine QW.ret zL ?_
 obtain rfl:=sO h
 exact eO
noncomputable def qb (c0:UInt8):Option Bool:=
  some (decide ((15:Int)<(c0.toNat:Int)))
theorem E6 (c0:UInt8) (r:Bool) (h:qb c0=some r):cD Tryz.prog 96 [.val (.int .u8 (c0.toNat:Int))] (.val (.bool r)):=by
 refine fQ Tryz.func96 Tryz.ntmps96 TT.U5 ?_
 unfold qb at h
 refine sR ?_
 refine xz 2 (pB false) ?_
 refine sR ?_
 refine xm 3 (.d (.val (.int .u8 (c0.toNat:Int)))) ?_
 refine xS 4 (kU (c0.toNat:Int) (15:Int) ?_)
 refine xz 2 (pB (decide ((15:Int)<(c0.toNat:Int)))) ?_
 refine QW.ret zL ?_
 obtain rfl:=sO h
 exact eO
noncomputable def qv (p0:(List UInt8)):Option Bool:=
  ((fT p0 (fun y0=>qb y0)).bind fun (x_1:Bool)=>
  some (!x_1))
theorem Ba (p0:(List UInt8)) (r:Bool) (h:qv p0=some r):cD Tryz.prog 74 [.slice (p0.map aa)] (.val (.bool r)):=by
 refine fQ Tryz.func74 Tryz.ntmps74 TT.UZ ?_
 unfold qv at h
 refine sR ?_
 refine xz 2 (pB false) ?_
 refine sR ?_
 refine xm 3 (.d (.slice (p0.map aa))) ?_
 obtain ⟨x_1,fk,h⟩:=bO h
 refine xS 4 (az (r8 p0 (fun y0=>qb y0) 96 [] TT.Oh (fun y0 _ h=>E6 y0 _ h) _ fk) ?_)
 refine xS 5 (kV ?_)
 refine xz 2 (pB (!x_1)) ?_
 refine QW.ret zL ?_
 obtain rfl:=sO h
 exact eO
inductive Eg where
 | S
 | L1 (v3:(List UInt8)) (v4:Int)
noncomputable def kq (p0:(List UInt8)):Eg→Option (Eg⊕(List UInt8))
 | .S=>
  some (.inl (.L1 ([]:(List UInt8)) (0)))
 | .L1 v3 v4=>
  gO (bf (v4+(1:Int))) (
  (bif (decide ((v4+(1:Int))<(p0.length:Int))) then
  gO (0≤v4∧v4<(p0.length:Int)) (
  gO (bf (v4+(1:Int))) (
  gO (0≤(v4+(1:Int))∧(v4+(1:Int))<(p0.length:Int)) (
  gO ((v3.length+([((um (idx p0 v4) (4:Int))||| (idx p0 (v4+(1:Int))))]:List UInt8).length)*1≤140737488355328) (
  gO (bf (v4+(2:Int))) (
  some (.inl (.L1 (v3++([((um (idx p0 v4) (4:Int))||| (idx p0 (v4+(1:Int))))]:List UInt8)) (v4+(2:Int)))))))))
  else
  some (.inr v3)))
noncomputable def wg (p0:(List UInt8)):Option (List UInt8):=gJ (kq p0) .S
theorem Bb (p0:(List UInt8)) (r:(List UInt8)) (h:wg p0=some r):cD Tryz.prog 80 [.slice (p0.map aa)] (.slice (r.map aa)):=by
 refine fQ Tryz.func80 Tryz.ntmps80 TT.U1 ?_
 obtain ⟨_,h⟩:=cP h
 obtain ⟨dm,e9,h⟩:=aQ h;rw [kq] at h
 refine sR ?_
 refine xz 2 (.full (([]:(List UInt8)).map aa)) ?_
 refine sR ?_
 refine xz 3 (.full (([]:(List UInt8)).map aa)) ?_
 refine QW.seq ?_
 refine sR ?_
 refine xz 4 (pI (0)) ?_
 refine QW.block ?_
 refine lp (fun k σ=>∃ v3:(List UInt8),∃ v4:Int,k≤dm∧run (kq p0) k (.L1 v3 v4)=some r∧σ=⟨bW [(0, .d (.slice (p0.map aa))),(3, .own 0 (v3.map aa)),(4,pI v4)],aK [.spare 1 v3.length],1,[]⟩) dm ⟨([]:(List UInt8)),0,Nat.le_refl _,jG h,rfl⟩ (View.trans (View.buf 3 1 rfl zL) (vM 1 [0])) ?_
 rintro wP _ ⟨v3,v4,wQ,h,rfl⟩
 obtain ⟨k_1,e9,h⟩:=aQ h;rw [kq] at h
 refine QW.seq ?_
 refine sR ?_
 refine xm 5 (pI v4) ?_
 obtain ⟨yp,h⟩:=gG h
 refine xS 6 (bE v4 (1:Int) yp ?_)
 refine xm 7 (.d (.slice (p0.map aa))) ?_
 refine xS 8 (cX aa p0 TT.bt ?_)
 refine xT 9 (cM (v4+(1:Int)) (p0.length:Int) ?_)
 refine cT (decide ((v4+(1:Int))<(p0.length:Int))) (fun dY=>?_) (fun dY=>?_)
 ·replace h:=ej h dY
  refine sk ?_
  refine QW.seq ?_
  refine QW.block ?_
  refine QW.region zL (PW.qX (id:=5) dG (M:=_) rfl (by kernel_rfl) ?_)
  refine kS 12 (ax (.own 0 (v3.map aa)) ?_)
  refine kS 13 (ax (.d (.slice (p0.map aa))) ?_)
  refine kS 14 (ax (pI v4) ?_)
  obtain ⟨rW,h⟩:=gG h
  refine kS 15 (bX p0 v4 TT.fy fl rW ?_)
  refine kS 16 (aA (.val (.int .u8 ((idx p0 v4).toNat:Int))) TT.l6 ?_)
  refine kS 17 (Qo (idx p0 v4) (4:Int) ?_)
  refine kS 18 (ax (.d (.slice (p0.map aa))) ?_)
  refine kS 19 (ax (pI v4) ?_)
  obtain ⟨nM,h⟩:=gG h
  refine kS 20 (bE v4 (1:Int) nM ?_)
  obtain ⟨oM,h⟩:=gG h
  refine kS 21 (bX p0 (v4+(1:Int)) TT.fy fl oM ?_)
  refine kS 22 (aA (.val (.int .u8 ((idx p0 (v4+(1:Int))).toNat:Int))) TT.l6 ?_)
  refine kS 23 (R8 (um (idx p0 v4) (4:Int)) (idx p0 (v4+(1:Int))) ?_)
  refine kS 24 (eA aa ([((um (idx p0 v4) (4:Int))||| (idx p0 (v4+(1:Int))))]:List UInt8) TT.eV ?_)
  obtain ⟨pJ,h⟩:=gG h
  refine kS 25 (kA aa v3 ([((um (idx p0 v4) (4:Int))||| (idx p0 (v4+(1:Int))))]:List UInt8) TT.eV TT.bt pJ ?_)
  refine kS 3 (cj (.own 1 ((v3++([((um (idx p0 v4) (4:Int))||| (idx p0 (v4+(1:Int))))]:List UInt8)).map aa)) ?_)
  refine RK.nil ⟨fH.last 13 (by simp) (by simp) (by rfl),(iS (cn ?_))⟩
  refine QW.view (s':=⟨bW [(0, .d (.slice (p0.map aa))),(3, .own 0 ((v3++([((um (idx p0 v4) (4:Int))||| (idx p0 (v4+(1:Int))))]:List UInt8)).map aa)),(4,pI v4)],aK [.spare 1 (v3++([((um (idx p0 v4) (4:Int))||| (idx p0 (v4+(1:Int))))]:List UInt8)).length],1,[]⟩) (vM 1 [1]) zL ?_
  refine rG ?_
  refine xm 10 (pI v4) ?_
  obtain ⟨uq,h⟩:=gG h
  refine xS 11 (bE v4 (2:Int) uq ?_)
  refine xz 4 (pI (v4+(2:Int))) ?_
  exact lb k_1 ⟨(v3++([((um (idx p0 v4) (4:Int))||| (idx p0 (v4+(1:Int))))]:List UInt8)),(v4+(2:Int)),by omega,jG h,rfl⟩ (vM 1 [0])
 ·replace h:=ek h dY
  refine QW.exit zL (eP (eP (kW (cn ?_))))
  refine sR ?_
  refine xm 26 (.own 0 (v3.map aa)) ?_
  refine xz 2 (.own 0 (v3.map aa)) ?_
  refine QW.ret zL ?_
  obtain rfl:=sG h
  exact eO
noncomputable def u5 (p0:(List UInt8)) (qR:Bool):Option ((List UInt8)×Int):=
  ((qv p0).bind fun (x_1:Bool)=>
  (bif ((!x_1)||(decide ((64:Int)<(p0.length:Int)))) then
  some (([]:List UInt8),2)
  else
  (((bif qR then
  some (2:UInt8)
  else
  some (0:UInt8)):Option UInt8).bind fun (v6:UInt8)=>
  (bif (decide (((p0.length:Int).tmod (2:Int))=(1:Int))) then
  ((sC ([([(v6+(1:UInt8))]:List UInt8),p0]:List (List UInt8))).bind fun (x_6:(List UInt8))=>
  ((wg x_6).bind fun (x_8:(List UInt8))=>
  some (x_8,0)))
  else
  ((sC ([([v6,(0:UInt8)]:List UInt8),p0]:List (List UInt8))).bind fun (x_10:(List UInt8))=>
  ((wg x_10).bind fun (x_12:(List UInt8))=>
  some (x_12,0)))))))
theorem Je (p0:(List UInt8)) (qR:Bool) (r:((List UInt8)×Int)) (h:u5 p0 qR=some r):cD Tryz.prog 51 [.slice (p0.map aa), .val (.bool qR)] (.tuple [.val (sV (r.1)), .val (.int .i64 (r.2))]):=by
 refine fQ Tryz.func51 Tryz.ntmps51 TT.UU ?_
 unfold u5 at h
 refine sR ?_
 refine xa 4 (pS ([]:List UInt8)) ?_
 refine xz 5 (pI (0)) ?_
 refine QW.seq ?_
 refine sR ?_
 refine xm 7 (.d (.slice (p0.map aa))) ?_
 obtain ⟨x_1,fk,h⟩:=bO h
 refine xS 8 (az (Ba p0 _ fk) ?_)
 refine xS 9 (kV ?_)
 refine xm 10 (pB (!x_1)) ?_
 refine xg 11 (.d (.slice (p0.map aa))) rfl rfl (fun hg=>ax (.d (.slice (p0.map aa))) g3) ?_
 refine xg 12 (pI (p0.length:Int)) rfl rfl (fun hg=>cX aa p0 TT.bt g3) ?_
 refine xg 13 (pB (decide ((64:Int)<(p0.length:Int)))) rfl rfl (fun hg=>kU (p0.length:Int) (64:Int) g3) ?_
 refine xT 14 (fh ?_)
 refine cT ((!x_1)||(decide ((64:Int)<(p0.length:Int)))) (fun dY=>?_) (fun dY=>?_)
 ·replace h:=bT h dY
  refine sR ?_
  refine xa 4 (pS ([]:List UInt8)) ?_
  refine xz 5 (pI (2)) ?_
  refine QW.ret zL (dc ?_)
  obtain rfl:=sO h
  exact Ends.more (.inr rfl) rfl (ps:=[pS ([]:List UInt8),pI (2)]) (And.intro (aN.tmp rfl) (And.intro (aN.tmp rfl) trivial)) rfl rfl
 ·replace h:=bF h dY
  refine sk ?_
  refine sR ?_
  refine xz 6 (.d (.val (.int .u8 ((0:UInt8).toNat:Int)))) ?_
  obtain ⟨v6,hq,h⟩:=bO h
  refine QW.s6 (fun s'=>s'=⟨bW [(0, .d (.slice (p0.map aa))),(6, .d (.val (.int .u8 (v6.toNat:Int))))],aK [],0,[]⟩) ?_ ?_
  ·replace h:=hq;clear hq
   refine sR ?_
   refine xm 15 (pB qR) ?_
   refine XK.nz ?_
   refine cT qR (fun fA=>?_) (fun fA=>?_)
   ·replace h:=bT h fA
    refine rG ?_
    refine xz 6 (.d (.val (.int .u8 ((2:UInt8).toNat:Int)))) ?_
    obtain rfl:=sO h
    exact jb rfl (vM 0 [])
   ·replace h:=bF h fA
    refine sk ?_
    obtain rfl:=sO h
    exact jb rfl (vM 0 [])
  ·rintro _ rfl
   refine QW.seq ?_
   refine sR ?_
   refine xm 16 (.d (.slice (p0.map aa))) ?_
   refine xS 17 (cX aa p0 TT.bt ?_)
   refine xS 18 (uH (p0.length:Int) (2:Int) ?_)
   refine xT 19 (dj ((p0.length:Int).tmod (2:Int)) (1:Int) ?_)
   refine cT (decide (((p0.length:Int).tmod (2:Int))=(1:Int))) (fun mO=>?_) (fun mO=>?_)
   ·replace h:=bT h mO
    refine sR ?_
    refine xm 20 (.d (.val (.int .u8 (v6.toNat:Int)))) ?_
    refine xS 21 (JJ v6 (1:UInt8) ?_)
    refine xS 22 (eA aa ([(v6+(1:UInt8))]:List UInt8) TT.eV ?_)
    refine xm 23 (.d (.slice (p0.map aa))) ?_
    refine xS 24 (eA (eL aa) ([([(v6+(1:UInt8))]:List UInt8),p0]:List (List UInt8)) TT.B4 ?_ (hl:=Hr))
    obtain ⟨x_6,u6,h⟩:=bO h
    refine xS 25 (az (uK ([([(v6+(1:UInt8))]:List UInt8),p0]:List (List UInt8)) _ u6) ?_)
    obtain ⟨x_8,Eh,h⟩:=bO h
    refine xS 26 (az (Bb x_6 _ Eh) ?_)
    refine xS 27 (nk x_8 TT.bt TT.dw TT.bh ?_)
    refine xa 4 (pS x_8) ?_
    refine xz 5 (pI (0)) ?_
    refine QW.ret zL (dc ?_)
    obtain rfl:=sO h
    exact Ends.more (.inr rfl) rfl (ps:=[pS x_8,pI (0)]) (And.intro (aN.tmp rfl) (And.intro (aN.tmp rfl) trivial)) rfl rfl
   ·replace h:=bF h mO
    refine sk ?_
    refine sR ?_
    refine xm 28 (.d (.val (.int .u8 (v6.toNat:Int)))) ?_
    refine xS 29 (eA aa ([v6,(0:UInt8)]:List UInt8) TT.eV ?_)
    refine xm 30 (.d (.slice (p0.map aa))) ?_
    refine xS 31 (eA (eL aa) ([([v6,(0:UInt8)]:List UInt8),p0]:List (List UInt8)) TT.B4 ?_ (hl:=Hr))
    obtain ⟨x_10,wW,h⟩:=bO h
    refine xS 32 (az (uK ([([v6,(0:UInt8)]:List UInt8),p0]:List (List UInt8)) _ wW) ?_)
    obtain ⟨x_12,tg,h⟩:=bO h
    refine xS 33 (az (Bb x_10 _ tg) ?_)
    refine xS 34 (nk x_12 TT.bt TT.dw TT.bh ?_)
    refine xa 4 (pS x_12) ?_
    refine xz 5 (pI (0)) ?_
    refine QW.ret zL ?_
    obtain rfl:=sO h
    exact Ends.more (.inr rfl) rfl (ps:=[pS x_12,pI (0)]) (And.intro (aN.tmp rfl) (And.intro (aN.tmp rfl) trivial)) rfl rfl
noncomputable def qc (l0:(List Item)):Option Item:=
  gO ((([]:(List Item)).length+l0.length)*48≤140737488355328) (
  some (⟨true,([]:List UInt8),(([]:(List Item))++l0)⟩:Item))
theorem yu (l0:(List Item)) (r:Item) (h:qc l0=some r):cD Tryz.prog 53 [.slice (l0.map aM)] (.agg (ct r)):=by
 refine fQ Tryz.func53 Tryz.ntmps53 TT.UX ?_
 unfold qc at h
 refine sR ?_
 refine xT 2 (bl [pB false,pS ([]:List UInt8), .full (([]:(List Item)).map aM)] TT.jL ?_)
 refine sR ?_
 refine xm 3 (.d (.slice (l0.map aM))) ?_
 obtain ⟨oK,h⟩:=bq h
 refine xS 4 (D6 aM ([]:(List Item)) l0 TT.p9 TT.m9 gR ?_ (h:=by exact ⟨oK,fun _=>rfl⟩))
 refine xS 5 (dX (.agg [pB true,pS ([]:List UInt8), .own 1 ((([]:(List Item))++l0).map aM)]) rfl TT.q6 (cI rfl (bY (cells':=[pB true,pS ([]:List UInt8), .full (([]:(List Item)).map aM)]) rfl rfl rfl bL rfl (bY (cells':=[pB true,pS ([]:List UInt8), .own 1 ((([]:(List Item))++l0).map aM)]) rfl rfl rfl bL rfl cH))) ?_)
 refine xN (aV [pB true,pS ([]:List UInt8), .own 1 ((([]:(List Item))++l0).map aM)] TT.bB ?_)
 refine XK.nz ?_
 refine QW.ret zL ?_
 obtain rfl:=sO h
 exact Ends.one (.inr rfl) rfl (aN.cell rfl rfl TT.bB ⟨⟨by simp,by simp⟩,rfl⟩) rfl rfl
end Go.Proofs.YtlfjfoknbjcncaaGreat.K
