/- Words of 32 and 64 bits; laws of any operation (stepO); writable rows; structs and arrays held against each other. -/
import Derived.Test.YtlfjfoknbjcncaaGreatHG2
import Derived.ChangeKeysEq
import Derived.Laws.StructEq
import Derived.KernelRfl
namespace Go.Proofs.YtlfjfoknbjcncaaGreat.K
open Go Go.RowKit
set_option linter.unusedVariables false
set_option linter.unusedSimpArgs false
set_option linter.unusedSectionVars false
variable {P:Program} {N:Nat} {ops:Array Oper} {o:Oper} {r:List Oper}
def vz (P:Program) (o:Oper) (s:St) (k:PV→HM→Nat→List Nat→List Nat→Prop):Prop:=
 (∀ i,s.nx≤i→s.H i=none)→∃ v H' cO T W,m9 P o s v H' cO T W∧k v H' cO T W
section
variable {S:Nat→PV} {H:HM} {nx:Nat} {df:List (Nat×List PV)}
theorem XK.so {Q:PX→St→Prop} (d:Option Nat) (hd:o.dst=d) (hg:o.guard=none) (h:vz P o ⟨S,H,nx,df⟩ fun v H' cO _ _=>XK P ops r ⟨fk S d v,H',cO,df⟩ Q):XK P ops (o::r) ⟨S,H,nx,df⟩ Q:=by
 intro hn
 subst hd
 obtain ⟨v,H',cO,T,W,h1,h3⟩:=h hn
 exact .step (.run hg h1) (h3 h1.nil)
end
section
variable {S:Nat→PV} {H:HM} {nx:Nat} {df:List (Nat×List PV)} {k:PV→HM→Nat→List Nat→List Nat→Prop}
theorem Db {v v':PV} (h:bn P o S v) (hi:iH v v') (hk:k v' H nx [] []):vz P o ⟨S,H,nx,df⟩ k:=
 fun hn=>⟨_,_,_,_,_,(lJ (s:=⟨S,H,nx,df⟩) hn h.op).imp hi,hk⟩
theorem R9 {s:St} {id:Nat} {h:HO} (hn:∀ i,s.nx≤i→s.H i=none) (hH:s.H id=some h):id<s.nx:=by
 rcases Nat.lt_or_ge id s.nx with h' | h'
 ·exact h'
 ·rw [hn id h'] at hH;cases hH
theorem Uk {t:TypeId} {x:Operand} {lo hi:Option Operand} {n id off:Nat} {ag:Bool} {p q:Int} (ho:o.op= .slice t x lo hi none) (ha:mw P t=some (n,1,ag)) (hx:aB S x= .aF id off)
  (hl:oD 0 (lo.map (aB S))=some p) (hh:oD n (hi.map (aB S))=some q) (h:0≤p∧p≤q∧q≤(n:Int)) (hk:k (.gD id (off+p.toNat) (q-p).toNat) H nx [] []):vz P o ⟨S,H,nx,df⟩ k:=by
 refine Db (v:= .gD id (off+p.toNat) (q-p).toNat) ?_ iH.refl hk
 obtain ⟨h0,h1,h2⟩:=h
 refine bn.still fun m ρ a w hm hx'=>?_
 have e1:=hx' x (by simp [ho,Op.operands])
 have e2:∀ y,lo=some y→aN m ρ (aB S y) (a.eval y):=fun y hy=>hx' y (by simp [ho,hy,Op.operands])
 have e3:∀ y,hi=some y→aN m ρ (aB S y) (a.eval y):=fun y hy=>hx' y (by simp [ho,hy,Op.operands])
 obtain ⟨dst,op',type,pos,after,guard⟩:=o
 simp only at ho
 subst ho
 rw [hx] at e1
 simp only [aN] at e1
 obtain ⟨b,c,hr,ev⟩:=e1
 obtain ⟨et,hu,ht⟩:=qy ha
 have hsz:=(iV ht w).2
 have hb:=tG (P:=P) (w:=w) (IJ:=false) hl hh e2 e3 h0 h1 h2 (Nat.le_refl _)
 refine ⟨.slice (some (if n=p.toNat then ⟨b,off,none⟩ else (⟨b,off,none⟩:Addr).add p.toNat)) (q.toNat-p.toNat) (n-p.toNat),?_,?_⟩
 ·simp [execOp,Instr.sliceAt,run_underlying hu,ev,Instr.sureAddr,hb,hsz]
 ·have e:(q-p).toNat=q.toNat-p.toNat:=by omega
  simp only [aN,e]
  by_cases e:n=p.toNat
  ·exact .inr ⟨by omega,some (if n=p.toNat then ⟨b,off,none⟩ else (⟨b,off,none⟩:Addr).add p.toNat),n-p.toNat,by rw [show q.toNat-p.toNat=0 by omega]⟩
  ·exact .inl ⟨b,c,n-p.toNat,hr,by simp [e,iW],by omega⟩
theorem Ul {t u e:TypeId} {x:Operand} {id off n:Nat} {l:List PV} {bs:List UInt8} (ho:o.op= .convert t u x) (ht:P.underlying t=some (.slice e)) (he:P.underlying e=some (.int .u8)) (hu:P.underlying u=some .string)
  (hx:aB S x= .gD id off n) (hH:H id=some (.var l)) (hl:(l.drop off).take n=(bs.map U).map .d) (hn:bs.length=n) (hk:k (.d (.val (sV bs))) H nx [id] []):vz P o ⟨S,H,nx,df⟩ k:=by
 intro gP
 refine ⟨_,_,_,_,_,⟨Nat.le_refl _,fun _ _ _=>rfl,gP,by simp,by simpa using R9 gP hH,?_⟩,hk⟩
 intro m ρ a w K Q V hf hxs hK
 have h1:=hxs x (by simp [ho,Op.operands])
 rw [show aB ({S:=S,H:=H,nx:=nx,df:=df}:St).S x=_ from hx] at h1
 simp only [aN] at h1
 have hrun:(Conv.bytesToString (a.eval x)).run P w= .ok (sV bs) w:=by
  rcases h1 with ⟨b,c,kk,hr,ev,_⟩ | ⟨h0,ad,kk,ev⟩
  ·rcases V.entry id _ (by simp) hH with ⟨_,hr'⟩ | ⟨b',c',vs,tail,tb,hr',hb,hrl,hone,_⟩
   ·rw [hr] at hr';cases hr'
   rw [hr] at hr';cases hr'
   rw [ev]
   have h2:bN m ρ ((bs.map U).map PV.d) ((vs.drop off).take n):=by rw [← hl];exact oF n (vn off hrl)
   have h3:=bN.ej _ _ _ (wR (bs.map U)) h2
   have h4:=tH h3
   have hcell:∀ j v,((vs.drop off).take n)[j]? =some v→w.cell? ((⟨b,off,none⟩:Addr).add j)=some v:=by
    intro j v hj
    rw [iW,ig hb]
    rw [List.getElem?_take] at hj
    split at hj
    ·rw [List.getElem?_drop] at hj
     rw [List.getElem?_append_left (List.getElem?_eq_some_iff.1 hj).1];exact hj
    ·cases hj
   have hlc:=run_loadCells_list (P:=P) w ⟨b,off,none⟩ _ hcell
   rw [h4,List.length_map,hn] at hlc
   have:=run_bytesToString (P:=P) w ⟨b,off,none⟩ n kk (bs.map fun b=>(b.toNat:Int)) (by rw [hlc];simp [List.map_map,Function.comp_def])
   rw [this]
   congr 2
   apply F5
   have e:∀ (l:List UInt8) (s:ByteArray),(l.map fun b=>(b.toNat:Int)).foldl (fun r n=>r.push (UInt8.ofNat n.toNat)) s=l.foldl (fun r b=>r.push b) s:=by
    intro l
    induction l with
    | nil=>intro s;rfl
    | cons b l ih=>
     intro s
     simp only [List.map_cons,List.foldl_cons,Int.toNat_natCast,UInt8.ofNat_toNat]
     exact ih _
   rw [e,foldl_push]
   simp [ByteArray.empty,ByteArray.emptyWithCapacity]
   rfl
  ·subst h0
   have:bs=[]:=List.eq_nil_of_length_eq_zero hn
   subst this
   rw [ev]
   cases ad with
   | none=>simp [Conv.bytesToString];rfl
   | some ad=>
    have hlc:=run_loadCells_list (P:=P) w ad [] (by simp)
    have:=run_bytesToString (P:=P) w ad 0 kk [] (by simpa using hlc)
    rw [this];rfl
 obtain ⟨dst,op',type,pos,after,guard⟩:=o
 simp only at ho
 subst ho
 have W7:(execOp a.eval ⟨dst, .convert t u x,type,pos,after,guard⟩).run P w= .ok (.value (sV bs)) w:=by
  have:∃ ad n k,a.eval x= .slice ad n k:=by
   rcases h1 with ⟨b,c,kk,hr,ev,_⟩ | ⟨h0,ad,kk,ev⟩
   ·exact ⟨_,_,_,ev⟩
   ·exact ⟨_,_,_,ev⟩
  obtain ⟨ad,n',k',ev⟩:=this
  simp [execOp,convert,run_underlying ht,run_underlying hu,run_underlying he,ev]
  rw [ev] at hrun
  simp [hrun]
 unfold Oper.wp
 rw [W7,Oper.upon_value]
 exact hK _ m ρ w (zu.same V) (by simp [aN,bg])
theorem LC {t:TypeId} {x y:Operand} {id off n sz je:Nat} {ag:Bool} {i:Int} {kd:IntKind} (ho:o.op= .indexAddr t x y) (ht:mz P t=some (sz,je,ag)) (hx:aB S x= .gD id off n) (hy:aB S y= .d (.val (.int kd i)))
  (h:0≤i∧i<(n:Int)) (hk:k (.aF id (off+i.toNat*sz)) H nx [] []):vz P o ⟨S,H,nx,df⟩ k:=by
 refine Db (v:= .aF id (off+i.toNat*sz)) ?_ iH.refl hk
 refine bn.still fun m ρ a w hm hx'=>?_
 have e1:=hx' x (by simp [ho,Op.operands])
 have e2:=hx' y (by simp [ho,Op.operands])
 obtain ⟨dst,op',type,pos,after,guard⟩:=o
 simp only at ho
 subst ho
 rw [hx] at e1
 rw [hy] at e2
 simp only [aN,bg] at e1 e2
 obtain ⟨e,inf,hu,het,hi,_,_⟩:=vo ht
 have hsz:=(iV het w).2
 obtain ⟨h3,h4⟩:=h
 rcases e1 with ⟨b,c,kk,hr,ev,_⟩ | ⟨h0,_⟩
 ·refine ⟨.pointer (some ⟨b,off+i.toNat*sz,none⟩),?_,by simp only [aN];exact ⟨b,c,hr,rfl⟩⟩
  simp [execOp,Instr.indexAt,e2,asIntOf,ev,run_underlying hu,hsz,h3,h4,iW]
 ·omega
end
section
variable {S:Nat→PV} {H:HM} {nx:Nat} {df:List (Nat×List PV)} {eI:List Nat} {k:PV→HM→Nat→List Nat→List Nat→Prop}
class Wk (kd:IntKind) (w:outParam Nat):Prop where
 bits:kd.bits=w
 wrap:∀ n:Int,kd.wrap n=((BitVec.ofInt w n).toNat:Int)
 pos:0<w
instance:Wk .u32 32:=⟨rfl,fun n=>by rw [IntKind.wrap_u32,BitVec.toNat_ofInt];omega,by decide⟩
instance:Wk .u64 64:=⟨rfl,fun n=>by rw [IntKind.wrap_u64,BitVec.toNat_ofInt];omega,by decide⟩
variable {kd:IntKind} {w:Nat} [Wk kd w]
omit [Wk kd w] in
theorem iX (a:BitVec w):BitVec.ofInt w (a.toNat:Int)=a:=by
 apply BitVec.eq_of_toNat_eq
 rw [BitVec.toNat_ofInt]
 have:=a.isLt
 rw [Int.emod_eq_of_lt (by omega) (by exact_mod_cast this)];simp
theorem fU {t u:TypeId} {x y:Operand} {a b:BitVec w} (ho:o.op= .binOp .add t x y u) (hx:aB S x= .d (.val (.int kd (a.toNat:Int)))) (hy:aB S y= .d (.val (.int kd (b.toNat:Int)))) (hk:k (.d (.val (.int kd ((a+b).toNat:Int)))) H nx [] []):aT P eI o ⟨S,H,nx,df⟩ k:=
 gv ho hx hy rfl rfl (by show PV.d (.val (.int kd (kd.wrap ((a.toNat:Int)+(b.toNat:Int)))))=_;rw [Wk.wrap (kd:=kd),BitVec.ofInt_add,iX,iX]) hk
theorem Ja {t u:TypeId} {x y:Operand} {a b:BitVec w} (ho:o.op= .binOp .sub t x y u) (hx:aB S x= .d (.val (.int kd (a.toNat:Int)))) (hy:aB S y= .d (.val (.int kd (b.toNat:Int)))) (hk:k (.d (.val (.int kd ((a-b).toNat:Int)))) H nx [] []):aT P eI o ⟨S,H,nx,df⟩ k:=
 gv ho hx hy rfl rfl (by show PV.d (.val (.int kd (kd.wrap ((a.toNat:Int)-(b.toNat:Int)))))=_;rw [Wk.wrap (kd:=kd),Int.sub_eq_add_neg,BitVec.ofInt_add,BitVec.ofInt_neg,iX,iX, ← BitVec.sub_eq_add_neg]) hk
theorem Ea {t u:TypeId} {x y:Operand} {a b:BitVec w} (ho:o.op= .binOp .mul t x y u) (hx:aB S x= .d (.val (.int kd (a.toNat:Int)))) (hy:aB S y= .d (.val (.int kd (b.toNat:Int)))) (hk:k (.d (.val (.int kd ((a*b).toNat:Int)))) H nx [] []):aT P eI o ⟨S,H,nx,df⟩ k:=
 gv ho hx hy rfl rfl (by show PV.d (.val (.int kd (kd.wrap ((a.toNat:Int)*(b.toNat:Int)))))=_;rw [Wk.wrap (kd:=kd),BitVec.ofInt_mul,iX,iX]) hk
omit [Wk kd w] in
theorem Sa {b:BitVec w} (h:b≠0):(b.toNat:Int)≠0:=by
 intro e;apply h;apply BitVec.eq_of_toNat_eq;simp;omega
theorem AZ {t u:TypeId} {x y:Operand} {a b:BitVec w} (ho:o.op= .binOp .quo t x y u) (hx:aB S x= .d (.val (.int kd (a.toNat:Int)))) (hy:aB S y= .d (.val (.int kd (b.toNat:Int)))) (h:b≠0) (hk:k (.d (.val (.int kd ((a/b).toNat:Int)))) H nx [] []):aT P eI o ⟨S,H,nx,df⟩ k:=by
 refine gv ho hx hy rfl ⟨rfl,Sa h⟩ ?_ hk
 show PV.d (.val (.int kd (kd.wrap ((a.toNat:Int).tdiv (b.toNat:Int)))))=_
 have e:(a.toNat:Int).tdiv (b.toNat:Int)=((a/b).toNat:Int):=by rw [BitVec.toNat_udiv];rfl
 rw [e,Wk.wrap (kd:=kd),iX]
omit [Wk kd w] in
theorem A0 {t u:TypeId} {x y:Operand} {a b:BitVec w} (ho:o.op= .binOp .rem t x y u) (hx:aB S x= .d (.val (.int kd (a.toNat:Int)))) (hy:aB S y= .d (.val (.int kd (b.toNat:Int)))) (h:b≠0) (hk:k (.d (.val (.int kd ((a%b).toNat:Int)))) H nx [] []):aT P eI o ⟨S,H,nx,df⟩ k:=by
 refine gv ho hx hy rfl ⟨rfl,Sa h⟩ ?_ hk
 show PV.d (.val (.int kd ((a.toNat:Int).tmod (b.toNat:Int))))=_
 have e:(a.toNat:Int).tmod (b.toNat:Int)=((a%b).toNat:Int):=by rw [BitVec.toNat_umod];rfl
 rw [e]
theorem nj {t u:TypeId} {x y:Operand} {a b:BitVec w} (ho:o.op= .binOp .and t x y u) (hx:aB S x= .d (.val (.int kd (a.toNat:Int)))) (hy:aB S y= .d (.val (.int kd (b.toNat:Int)))) (hk:k (.d (.val (.int kd ((a&&& b).toNat:Int)))) H nx [] []):aT P eI o ⟨S,H,nx,df⟩ k:=by
 have hb:=Wk.bits (kd:=kd)
 subst hb
 refine gv ho hx hy rfl rfl ?_ hk
 show PV.d (.val (.int kd (kd.wrap (BitVec.ofInt kd.bits a.toNat&&& BitVec.ofInt kd.bits b.toNat).toNat)))=_
 rw [iX,iX,Wk.wrap (kd:=kd),iX]
theorem vA {t u:TypeId} {x y:Operand} {a b:BitVec w} (ho:o.op= .binOp .or t x y u) (hx:aB S x= .d (.val (.int kd (a.toNat:Int)))) (hy:aB S y= .d (.val (.int kd (b.toNat:Int)))) (hk:k (.d (.val (.int kd ((a||| b).toNat:Int)))) H nx [] []):aT P eI o ⟨S,H,nx,df⟩ k:=by
 have hb:=Wk.bits (kd:=kd)
 subst hb
 refine gv ho hx hy rfl rfl ?_ hk
 show PV.d (.val (.int kd (kd.wrap (BitVec.ofInt kd.bits a.toNat||| BitVec.ofInt kd.bits b.toNat).toNat)))=_
 rw [iX,iX,Wk.wrap (kd:=kd),iX]
theorem j6 {t u:TypeId} {x y:Operand} {a b:BitVec w} (ho:o.op= .binOp .xor t x y u) (hx:aB S x= .d (.val (.int kd (a.toNat:Int)))) (hy:aB S y= .d (.val (.int kd (b.toNat:Int)))) (hk:k (.d (.val (.int kd ((a^^^b).toNat:Int)))) H nx [] []):aT P eI o ⟨S,H,nx,df⟩ k:=by
 have hb:=Wk.bits (kd:=kd)
 subst hb
 refine gv ho hx hy rfl rfl ?_ hk
 show PV.d (.val (.int kd (kd.wrap (BitVec.ofInt kd.bits a.toNat^^^BitVec.ofInt kd.bits b.toNat).toNat)))=_
 rw [iX,iX,Wk.wrap (kd:=kd),iX]
def q6 {w:Nat} (a:BitVec w) (c:Int):BitVec w:=a <<< (min c.toNat w)
def oL {w:Nat} (a:BitVec w) (c:Int):BitVec w:=a >>> (min c.toNat w)
theorem A2 {t u:TypeId} {x y:Operand} {a:BitVec w} {c:Int} {Bq:IntKind} (ho:o.op= .binOp .shl t x y u) (hx:aB S x= .d (.val (.int kd (a.toNat:Int)))) (hy:aB S y= .d (.val (.int Bq c))) (h:0≤c) (hk:k (.d (.val (.int kd ((q6 a c).toNat:Int)))) H nx [] []):aT P eI o ⟨S,H,nx,df⟩ k:=by
 have hb:=Wk.bits (kd:=kd)
 subst hb
 refine gv ho hx hy rfl h ?_ hk
 show PV.d (.val (.int kd (kd.wrap ((a.toNat:Int)*2 ^ (min c.toNat kd.bits)))))=_
 have e:(a.toNat:Int)*2 ^ (min c.toNat kd.bits)=((a.toNat*2 ^ (min c.toNat kd.bits):Nat):Int):=by push_cast;rfl
 rw [e,Wk.wrap (kd:=kd),q6,BitVec.toNat_shiftLeft,Nat.shiftLeft_eq,BitVec.toNat_ofInt]
 norm_cast
theorem A4 {t u:TypeId} {x y:Operand} {a:BitVec w} {c:Int} {Bq:IntKind} (ho:o.op= .binOp .shr t x y u) (hx:aB S x= .d (.val (.int kd (a.toNat:Int)))) (hy:aB S y= .d (.val (.int Bq c))) (h:0≤c) (hk:k (.d (.val (.int kd ((oL a c).toNat:Int)))) H nx [] []):aT P eI o ⟨S,H,nx,df⟩ k:=by
 have hb:=Wk.bits (kd:=kd)
 subst hb
 refine gv ho hx hy rfl h ?_ hk
 show PV.d (.val (.int kd ((a.toNat:Int).fdiv (2 ^ (min c.toNat kd.bits)))))=_
 rw [oL,BitVec.toNat_ushiftRight,Nat.shiftRight_eq_div_pow,Int.fdiv_eq_ediv_of_nonneg _ (by exact Int.le_of_lt (Int.pow_pos (by decide)))]
 norm_cast
theorem wY {t u:TypeId} {x:Operand} {Bq:IntKind} {n:Int} (ho:o.op= .convert t u x) (ht:P.underlying t=some (.int Bq)) (hu:P.underlying u=some (.int kd)) (hx:aB S x= .d (.val (.int Bq n))) (hk:k (.d (.val (.int kd ((BitVec.ofInt w n).toNat:Int)))) H nx [] []):aT P eI o ⟨S,H,nx,df⟩ k:=by
 unfold aT;rw [ho]
 simp only [jB,um,ht,hu,hx]
 refine ⟨trivial,?_⟩
 rw [Wk.wrap (kd:=kd)];exact hk
theorem P8 {t:TypeId} {x:Operand} {a:BitVec w} (ho:o.op= .unOp .xor t x) (hx:aB S x= .d (.val (.int kd (a.toNat:Int)))) (hs:kd.signed=false) (hm:BitVec.ofInt w kd.max=BitVec.allOnes w) (hk:k (.d (.val (.int kd ((~~~a).toNat:Int)))) H nx [] []):aT P eI o ⟨S,H,nx,df⟩ k:=by
 have hb:=Wk.bits (kd:=kd)
 subst hb
 unfold aT;rw [ho]
 simp only [jB,un,hx,hs,Bool.false_eq_true,if_false]
 refine ⟨trivial,?_⟩
 rw [hm,iX,BitVec.allOnes_xor,Wk.wrap (kd:=kd),iX];exact hk
end
end Go.Proofs.YtlfjfoknbjcncaaGreat.K
namespace Go.Proofs.YtlfjfoknbjcncaaGreat.K
open Go Go.RowKit
set_option linter.unusedVariables false
set_option linter.unusedSimpArgs false
set_option linter.unusedSectionVars false
variable {P:Program}
end Go.Proofs.YtlfjfoknbjcncaaGreat.K
namespace Go.Proofs.YtlfjfoknbjcncaaGreat.K
open Go Go.RowKit
set_option linter.unusedVariables false
set_option linter.unusedSimpArgs false
set_option linter.unusedSectionVars false
variable {P:Program}
section
variable {n:Nat} {α:Type} {en:α→D}
theorem s4 {a:aE n α} {i:Int} {x:α} (h:0≤i∧i<(n:Int)):l6 ((a.1.map en).map PV.d) (i.toNat*1) [PV.d (en x)]=((a.put i x).1.map en).map PV.d:=by
 have:=p9 (en:=en) (a:=a) (x:=x) h
 rwa [Nat.zero_add] at this
theorem yQ {l:List PV} {i:Int} {m tot:Nat} (h:0≤i∧i<(n:Int)) (hl:l.length=tot) (hm:m+n≤tot):m+i.toNat*1+1≤l.length:=by omega
end
end Go.Proofs.YtlfjfoknbjcncaaGreat.K
namespace Go.Proofs.YtlfjfoknbjcncaaGreat.K
open Go Go.RowKit
set_option linter.unusedVariables false
set_option linter.unusedSimpArgs false
set_option linter.unusedSectionVars false
variable {P:Program}
end Go.Proofs.YtlfjfoknbjcncaaGreat.K
namespace Go.Proofs.YtlfjfoknbjcncaaGreat.K
open Go Go.RowKit
set_option linter.unusedVariables false
set_option linter.unusedSimpArgs false
set_option linter.unusedSectionVars false
variable {P:Program}
section
variable {o:Oper} {S:Nat→PV} {H:HM} {nx:Nat} {df:List (Nat×List PV)} {eI:List Nat} {k:PV→HM→Nat→List Nat→List Nat→Prop}
theorem z9 {l0:List D} {t u e:TypeId} {x y:Operand} {z:Bool} {l:List D} (ho:o.op= .binOp .eql t x y u) (ht:P.underlying t=some (.pointer e)) (hx:aB S x= .d (.l7 z l)) (hy:aB S y= .d (.l7 true l0)) (hk:k (.d (.val (.bool z))) H nx [] []):aT P eI o ⟨S,H,nx,df⟩ k:=by
 unfold aT;rw [ho]
 simp only [isEq,BF,hx,hy,Bool.and_false,Bool.false_eq_true,if_false,wO,zy,ht];exact ⟨trivial,hk⟩
theorem GB {l0:List D} {t u e:TypeId} {x y:Operand} {z:Bool} {l:List D} (ho:o.op= .binOp .neq t x y u) (ht:P.underlying t=some (.pointer e)) (hx:aB S x= .d (.l7 z l)) (hy:aB S y= .d (.l7 true l0)) (hk:k (.d (.val (.bool (!z)))) H nx [] []):aT P eI o ⟨S,H,nx,df⟩ k:=by
 unfold aT;rw [ho]
 simp only [isEq,BF,hx,hy,Bool.and_false,Bool.false_eq_true,if_false,wO,zy,ht];exact ⟨trivial,hk⟩
theorem Sb {n:Nat} {a:aE n UInt8} {p q:Int} (h:0≤p∧p≤q∧q≤(n:Int)):(((a.1.map U).map PV.d).drop (0+p.toNat)).take (q-p).toNat=((sub a.1 p q).map U).map .d:=by
 unfold sub
 rw [Nat.zero_add, ← List.map_drop, ← List.map_drop, ← List.map_take, ← List.map_take]
theorem P9 {n:Nat} {a:aE n UInt8} {p q:Int} (h:0≤p∧p≤q∧q≤(n:Int)):(sub a.1 p q).length=(q-p).toNat:=by
 unfold sub
 rw [List.length_take,List.length_drop,a.2];omega
end
end Go.Proofs.YtlfjfoknbjcncaaGreat.K
namespace Go.Proofs.YtlfjfoknbjcncaaGreat.K
open Go Go.RowKit
set_option linter.unusedVariables false
set_option linter.unusedSimpArgs false
set_option linter.unusedSectionVars false
variable {P:Program}
theorem Dc {n:Nat} {α:Type} {en:α→D} {a:aE n α} {i:Int} {p:PV} (h:0≤i∧i<(n:Int)):i.toNat*1+[p].length≤((a.1.map en).map PV.d).length:=by simp only [List.length_map,a.2,List.length_singleton];omega
section
variable {N:Nat} {ops:Array Oper} {o:Oper} {r:List Oper} {S:Nat→PV} {H:HM} {nx:Nat} {df:List (Nat×List PV)}
theorem XK.nt {Q:PX→St→Prop} {t e u:TypeId} {x:Operand} {α:Type} {en:α→D} {l:List α} (d:Option Nat) (hd:o.dst=d) (hg:o.guard=none) (ho:o.op= .binOp .eql t x (.const (.slice none 0 0)) u) (hu:P.underlying t=some (.slice e)) (hx:aB S x= .d (.slice (l.map en)))
  (h0:l=[]→XK P ops r ⟨fk S d (.d (.val (.bool true))),H,nx,df⟩ Q) (h1:XK P ops r ⟨fk S d (.d (.val (.bool false))),H,nx,df⟩ Q):XK P ops (o::r) ⟨S,H,nx,df⟩ Q:=by
 subst hd
 refine XK.RN (s:=⟨S,H,nx,df⟩) hg ho (.inl rfl) hu hx fun b hb=>?_
 cases b with
 | true=>exact h0 (by cases l with | nil=>rfl | cons y ys=>simp at hb)
 | false=>exact h1
end
end Go.Proofs.YtlfjfoknbjcncaaGreat.K
namespace Go.Proofs.YtlfjfoknbjcncaaGreat.K
open Go Go.RowKit
set_option linter.unusedVariables false
theorem Um {l:List D} (h:kP .str l):∃ s:List UInt8,s.length≤maxLen∧l=[.val (sV s)]:=by
 simp only [kP] at h
 obtain ⟨⟨⟨s⟩⟩,rfl,hs⟩:=h
 exact ⟨s,hs,rfl⟩
theorem Un {α:Type} {e:Ty} {f:α→D} (one:∀ c,kP e c→∃ a,c=[f a]) {n:Nat} {l:List D} (h:kP (.arr n e) l):∃ a:aE n α,l=a.1.map f:=by
 simp only [kP] at h
 obtain ⟨ls,h1,rfl,h2⟩:=h
 have:∀ ls:List (List D),(∀ c∈ls,kP e c)→∃ as:List α,as.length=ls.length∧ls.flatten=as.map f:=by
  intro ls
  induction ls with
  | nil=>intro _;exact ⟨[],rfl,rfl⟩
  | cons c r ih=>
   intro h
   obtain ⟨a,e1⟩:=one c (h c (List.mem_cons_self ..))
   obtain ⟨as,e2,e3⟩:=ih fun x hx=>h x (List.mem_cons_of_mem _ hx)
   exact ⟨a::as,by simp [e2],by simp [e1,e3]⟩
 obtain ⟨as,e1,e2⟩:=this ls h2
 exact ⟨⟨as,by omega⟩,e2⟩
theorem Uo {α:Type} {e:Ty} {f:α→D} (he:e.isAgg=false) (one:∀ c,kP e c→∃ a,c=[f a]) {l:List D} (h:kP (.slice e) l):∃ xs:List α,xs.length≤maxLen∧l=[.slice (xs.map f)]:=by
 simp only [kP] at h
 obtain ⟨xs,rfl,h1,h2⟩:=h
 obtain ⟨as,h3,rfl⟩:=Gi (e:=e) (f:=f) (fun x hx ha=>by
  obtain ⟨a,e1⟩:=one _ hx
  rw [he] at ha
  exact ⟨a,Lh e1 ha⟩) (xs:=xs) h2
 exact ⟨as,by omega,rfl⟩
theorem Up {α:Type} {e:Ty} {c:α→List D} {f:α→D} (he:e.isAgg=true) (hf:∀ a,f a= .agg (c a)) (one:∀ l,kP e l→∃ a,l=c a) {l:List D} (h:kP (.slice e) l):∃ xs:List α,xs.length≤maxLen∧l=[.slice (xs.map f)]:=by
 simp only [kP] at h
 obtain ⟨xs,rfl,h1,h2⟩:=h
 obtain ⟨as,h3,rfl⟩:=Gi (e:=e) (f:=f) (fun x hx ha=>by
  obtain ⟨a,e1⟩:=one _ hx
  have:∃ c,x= .agg c:=ha▸he
  obtain ⟨c',rfl⟩:=this
  exact ⟨a,by rw [hf];simp only [D.cells] at e1;rw [e1]⟩) (xs:=xs) h2
 exact ⟨as,by omega,rfl⟩
end Go.Proofs.YtlfjfoknbjcncaaGreat.K
namespace Go.Proofs.YtlfjfoknbjcncaaGreat.K
open Go Go.RowKit
set_option linter.unusedVariables false
set_option linter.unusedSimpArgs false
set_option linter.unusedSectionVars false
variable {P:Program}
def bq (l:List D):List PV:=(l.flatMap D.cells).map PV.d
theorem Jb (a b:List D):bq (a++b)=bq a++bq b:=by simp [bq]
section
variable {α:Type} {en:α→D} {c:α→List D} {sz:Nat}
theorem vc (hl:sC en c sz):∀ l:List α,(bq (l.map en)).length=l.length*sz
 | []=>by simp [bq]
 | x::r=>by
  have:=vc hl r
  have e:bq ((x::r).map en)=(c x).map PV.d++bq (r.map en):=by simp [bq,hl.cells]
  rw [e,List.length_append,List.length_map,hl.len,this,List.length_cons,Nat.succ_mul,Nat.add_comm]
theorem Aa [Inhabited α] (hl:sC en c sz) (l:List α) {i:Nat} (h:i<l.length):bq (l.map en)=bq ((l.take i).map en)++((c (idx l (i:Int))).map PV.d++bq ((l.drop (i+1)).map en)):=by
 have e:l=l.take i++(l[i]::l.drop (i+1)):=by rw [← List.drop_eq_getElem_cons h,List.take_append_drop]
 have e2:idx l (i:Int)=l[i]:=by simp [idx,List.getD_eq_getElem?_getD,List.getElem?_eq_getElem h]
 conv=>lhs;rw [e]
 rw [e2,List.map_append,Jb,List.map_cons]
 congr 1
 simp [bq,hl.cells]
theorem Qa [Inhabited α] (hl:sC en (fun x=>[en x]) 1) {l:List α} {i:Int} (h:0≤i∧i<(l.length:Int)):C7 false 1 (0+i.toNat*1) (bq (l.map en)) (.d (en (idx l i))):=by
 obtain ⟨n,rfl⟩:∃ n:Nat,i=(n:Int):=⟨i.toNat,by omega⟩
 have hn:n<l.length:=by omega
 rw [Aa hl l hn,Nat.zero_add,Int.toNat_natCast]
 have h1:(bq ((l.take n).map en)).length=n*1:=by rw [vc hl,List.length_take,Nat.min_eq_left (by omega)]
 have:=Uj (n*1) 0 h1 (I7 (R:=bq ((l.drop (n+1)).map en)) (show C7 false 1 0 ([en (idx l (n:Int))].map PV.d) (.d (en (idx l (n:Int)))) from ⟨⟨by simp,by simp⟩,rfl⟩))
 simpa using this
theorem Sc [Inhabited α] (hl:sC en c sz) {l:List α} {i:Int} {x:α} (h:0≤i∧i<(l.length:Int)):l6 (bq (l.map en)) (0+i.toNat*sz) ((c x).map .d)=bq ((l.set i.toNat x).map en):=by
 obtain ⟨n,rfl⟩:∃ n:Nat,i=(n:Int):=⟨i.toNat,by omega⟩
 have hn:n<l.length:=by omega
 have hn2:n<(l.set n x).length:=by rw [List.length_set];exact hn
 rw [Int.toNat_natCast,Aa hl l hn,Aa hl (l.set n x) hn2,Nat.zero_add]
 have e1:(l.set n x).take n=l.take n:=by rw [List.take_set_of_le (Nat.le_refl _)]
 have e2:(l.set n x).drop (n+1)=l.drop (n+1):=by rw [List.drop_set_of_lt (by omega)]
 have e3:idx (l.set n x) (n:Int)=x:=by simp [idx,List.getD_eq_getElem?_getD,hn]
 rw [e1,e2,e3]
 have h1:(bq ((l.take n).map en)).length=n*sz:=by rw [vc hl,List.length_take,Nat.min_eq_left (by omega)]
 have:=qo (n*sz) 0 h1 (GA (A:=(c (idx l (n:Int))).map PV.d) (R:=bq ((l.drop (n+1)).map en)) (c:=(c x).map PV.d) (m:=sz) (by rw [List.length_map,hl.len]) (by rw [List.length_map,hl.len]))
 simpa using this
theorem Uq (hl:sC en c sz) {l:List α} {i:Int} (h:0≤i∧i<(l.length:Int)):0+i.toNat*sz+sz≤(bq (l.map en)).length:=by
 rw [vc hl,Nat.zero_add, ← Nat.succ_mul]
 exact Nat.mul_le_mul_right _ (by omega)
theorem LD (hl:sC en c sz) (l:List α) (n:Nat) (h:n≤l.length):(bq (l.map en)).take (0+n*sz)=bq ((l.take n).map en):=by
 have h1:(bq ((l.take n).map en)).length=0+n*sz:=by rw [vc hl,List.length_take,Nat.min_eq_left h,Nat.zero_add]
 conv=>lhs;rw [← List.take_append_drop n l]
 rw [List.map_append,Jb,List.take_left' h1]
end
section
variable {o:Oper} {S:Nat→PV} {H:HM} {nx:Nat} {df:List (Nat×List PV)} {k:PV→HM→Nat→List Nat→List Nat→Prop}
theorem Sd {t e:TypeId} {x:Operand} {id off n:Nat} (ho:o.op= .call {callee:= .builtin .len,args:= #[x],argTypes:= #[t]}) (ht:P.underlying t=some (.slice e)) (hx:aB S x= .gD id off n) (hk:k (.d (.val (.int .i64 (n:Int)))) H nx [] []):vz P o ⟨S,H,nx,df⟩ k:=by
 refine Db (v:= .d (.val (.int .i64 (n:Int)))) ?_ iH.refl hk
 refine bn.still fun m ρ a w hm hx'=>?_
 have e1:=hx' x (by simp [ho,Op.operands,Call.operands])
 obtain ⟨dst,op',type,pos,after,guard⟩:=o
 simp only at ho
 subst ho
 rw [hx] at e1
 simp only [aN] at e1
 refine ⟨.int .i64 n,?_,by simp [aN,bg]⟩
 rcases e1 with ⟨b,c,kk,_,ev,_⟩ | ⟨h0,ad,kk,ev⟩
 ·simp [execOp,resolve,invoke,builtin,Builtin.len_,run_underlying ht,ev,goInt]
 ·subst h0
  simp [execOp,resolve,invoke,builtin,Builtin.len_,run_underlying ht,ev,goInt]
theorem Pe {t:TypeId} {x:Operand} {lo hi:Option Operand} {id off n sz je:Nat} {ag:Bool} {p q:Int} (ho:o.op= .slice t x lo hi none) (hs:mz P t=some (sz,je,ag)) (hx:aB S x= .gD id off n)
  (hl:oD 0 (lo.map (aB S))=some p) (hh:oD n (hi.map (aB S))=some q) (h:0≤p∧p≤q∧q≤(n:Int)) (hk:k (.gD id (off+p.toNat*sz) (q-p).toNat) H nx [] []):vz P o ⟨S,H,nx,df⟩ k:=by
 refine Db (v:= .gD id (off+p.toNat*sz) (q-p).toNat) ?_ iH.refl hk
 obtain ⟨h0,h1,h2⟩:=h
 refine bn.still fun m ρ a w hm hx'=>?_
 have e1:=hx' x (by simp [ho,Op.operands])
 have e2:∀ y,lo=some y→aN m ρ (aB S y) (a.eval y):=fun y hy=>hx' y (by simp [ho,hy,Op.operands])
 have e3:∀ y,hi=some y→aN m ρ (aB S y) (a.eval y):=fun y hy=>hx' y (by simp [ho,hy,Op.operands])
 obtain ⟨dst,op',type,pos,after,guard⟩:=o
 simp only at ho
 subst ho
 rw [hx] at e1
 simp only [aN] at e1
 obtain ⟨et,inf,hu,ht,hi',_,_⟩:=vo hs
 have hsz:=(iV ht w).2
 have e:(q-p).toNat=q.toNat-p.toNat:=by omega
 rw [e]
 have gen:∀ (ad:Option Addr) (kk:Nat),a.eval x= .slice ad n kk→n≤kk→(execOp a.eval ⟨dst, .slice t x lo hi none,type,pos,after,guard⟩).run P w= .ok (.value (.slice (if kk=p.toNat then ad else ad.map (·.add (p.toNat*sz))) (q.toNat-p.toNat) (kk-p.toNat))) w:=by
  intro ad kk ev hk
  have hb:=tG (P:=P) (w:=w) (IJ:=true) (cap:=kk) hl hh e2 e3 h0 h1 h2 hk
  simp [execOp,Instr.sliceAt,run_underlying hu,Instr.slice,ev,hb,hsz]
 rcases e1 with ⟨b,c,kk,hr,ev,hkk⟩ | ⟨hn0,ad,kk,ev⟩
 ·refine ⟨_,gen _ _ ev hkk,?_⟩
  simp only [aN]
  by_cases e:kk=p.toNat
  ·exact .inr ⟨by omega,_,_,by rw [show q.toNat-p.toNat=0 by omega]⟩
  ·exact .inl ⟨b,c,kk-p.toNat,hr,by simp [e,iW],by omega⟩
 ·subst hn0
  refine ⟨_,gen ad kk ev (Nat.zero_le _),?_⟩
  simp only [aN]
  exact .inr ⟨by omega,_,_,by rw [show q.toNat-p.toNat=0 by omega]⟩
def Se (P:Program) (t:TypeId):Bool:=match P.underlying t with
 | some (.slice e)=>(match mb P e with | some l=>l.all Value.oneCell' | none=>false)
 | _=>false
theorem Qb {t:TypeId} {x:Operand} {id off n sz je:Nat} {l l':List PV} (ho:o.op= .call {callee:= .builtin .clear,args:= #[x],argTypes:= #[t]}) (ht:oH P t=some (sz,je)) (Ni:Se P t=true) (hx:aB S x= .gD id off n) (hH:H id=some (.var l))
  (hf:off+n*sz≤l.length) (hl':l.take off=l') (hk:k .dO (cG H id (some (.var l'))) nx [id] [id]):vz P o ⟨S,H,nx,df⟩ k:=by
 intro gP
 subst hl'
 have hid:id<nx:=R9 (s:=⟨S,H,nx,df⟩) gP hH
 refine ⟨_,_,_,_,_,⟨Nat.le_refl _,fun i hi _=>by simp at hi;simp [cG,hi],fun i hi=>by
  have:i≠id:=by have:nx≤i:=hi;omega
  simp [cG,this];exact gP i hi,by simp,by simpa using hid,?_⟩,hk⟩
 intro m ρ a w K Q V hf' hxs hK
 have h1:=hxs x (by simp [ho,Op.operands,Call.operands])
 rw [show aB ({S:=S,H:=H,nx:=nx,df:=df}:St).S x=_ from hx] at h1
 simp only [aN] at h1
 obtain ⟨e,i,z,z0,hi,hz,hzs,h0,hsz,hby⟩:=sW ht
 have hE:=V.entry id _ (by simp) hH
 have Cb:∀ (base:Option Addr) (kk:Nat) (w':World),a.eval x= .slice base n kk→(match base with | some ad=>(if n=0 then w'=w else (storeCells ad (Builtin.zeroCells z.cells n).toList 0).run P w= .ok () w') | none=>w'=w)→
   (execOp a.eval o).run P w= .ok (.value (.tuple #[])) w':=by
  intro base kk w' ev hst
  have hc:(Builtin.clear_ #[t] o.type #[a.eval x]).run P w= .ok (.tuple #[]) w':=by
   rw [ev]
   cases base with
   | none=>subst hst;simp [Builtin.clear_,run_underlying z0]
   | some ad=>
    simp only at hst
    cases n with
    | zero=>simp only [if_true] at hst;subst hst;simp [Builtin.clear_,run_underlying z0]
    | succ n=>
     simp only [Nat.succ_ne_zero,if_false] at hst
     simp [Builtin.clear_,run_underlying z0,zeroValue,typeInfo,hi,hz,hst]
  obtain ⟨dst,op',type,pos,after,guard⟩:=o
  simp only at ho hc
  subst ho
  simp [execOp,resolve,invoke,builtin,hc]
 have same:(execOp a.eval o).run P w= .ok (.value (.tuple #[])) w→o.wp P a w K Q:=by
  intro hrun
  unfold Oper.wp
  rw [hrun,Oper.upon_value]
  refine hK _ m ρ w ⟨Ext.refl _ _ _,di.le_refl _,fun i=> .inl rfl,⟨V.mem,?_,?_⟩,?_⟩ (by simp [aN])
  ·intro j ob hj yJ
   have hj':j=id:=by simpa using hj.elim (fun h=>h) (by omega)
   subst hj'
   simp only [cG,if_true,Option.some.injEq] at yJ
   subst yJ
   rcases hE with ⟨e0,e1⟩ | ⟨b',c',vs,tail,tb,hr',hb,hrl,hone,hno⟩
   ·exact .inl ⟨by rw [e0];simp,e1⟩
   ·refine .inr ⟨b',c',vs.take off,vs.drop off++tail,tb,hr',by rw [← List.append_assoc,List.take_append_drop];exact hb,oF _ hrl,fun u hu=>hone u (List.mem_of_mem_take hu),hno⟩
  ·intro j j' b1 Ik WM hj hj' _ _ _ _
   have e1:j=id:=by simpa using hj.elim (fun h=>h) (by omega)
   have e2:j'=id:=by simpa using hj'.elim (fun h=>h) (by omega)
   rw [e1,e2]
  ·rintro b1 ⟨j,Ik,hj,_,fY⟩
   have hj':j=id:=by simpa using hj.elim (fun h=>h) (by omega)
   subst hj'
   exact .inl ⟨j,Ik,by simp,by rw [show ({S:=S,H:=H,nx:=nx,df:=df}:St).H j=_ from hH];simp,fY⟩
 rcases h1 with ⟨b,c,kk,hr,ev,_⟩ | ⟨PM,ad,kk,ev⟩
 ·by_cases hn0:n=0
  ·exact same (Cb _ _ w ev (by simp [hn0]))
  ·rcases hE with ⟨_,hr'⟩ | ⟨b',c',vs,tail,tb,hr',hb,hrl,hone,hno⟩
   ·rw [hr] at hr';cases hr'
   rw [hr] at hr';cases hr'
   have hvl:=od hrl
   have hzl:(Builtin.zeroCells z.cells n).toList.length=n*sz:=by rw [Array.length_toList,size_zeroCells,hzs]
   have hz1:∀ v∈(Builtin.zeroCells z.cells n).toList,v.oneCell'=true:=by
    unfold Se at Ni
    simp only [z0,mb,hi,hz,Option.bind_some,Option.map_some,List.all_eq_true] at Ni
    intro v hv
    simp only [Builtin.zeroCells,Array.toList_map,List.mem_map] at hv
    obtain ⟨j,_,rfl⟩:=hv
    have hlt:j%z.cells.size<z.cells.size:=Nat.mod_lt _ (by omega)
    rw [getElem!_pos z.cells _ hlt]
    exact Ni _ (Array.getElem_mem_toList hlt)
   have hst:=run_storeCells_at P b off tb (Builtin.zeroCells z.cells n).toList 0 ⟨vs++tail⟩ w hb (by simp only [List.size_toArray,List.length_append,Nat.add_zero];rw [hzl];omega) hz1
   simp only [Nat.add_zero] at hst
   let w':=w.setRow b ((vs++tail).take off++(Builtin.zeroCells z.cells n).toList++(vs++tail).drop (off+(Builtin.zeroCells z.cells n).toList.length)).toArray
   unfold Oper.wp
   rw [Cb _ _ w' ev (by simp only [hn0,if_false];exact hst),Oper.upon_value]
   have wM:∀ k,k≠b→w'.heap[k]? =w.heap[k]? :=fun k hk=>setRow_other w b k _ hk
   have EJ:w'.heap[b]? =some (.cells ⟨vs.take off++((Builtin.zeroCells z.cells n).toList++(vs++tail).drop (off+(Builtin.zeroCells z.cells n).toList.length))⟩ tb (0,0)):=by
    have:=setRow_heap w b ⟨vs++tail⟩ ((vs++tail).take off++(Builtin.zeroCells z.cells n).toList++(vs++tail).drop (off+(Builtin.zeroCells z.cells n).toList.length)).toArray tb (0,0) hb
    have e1:(vs++tail).take off=vs.take off:=List.take_append_of_le_length (by omega)
    simp only [w']
    rw [e1] at this ⊢
    simpa [List.append_assoc] using this
   have hsize':w'.heap.size=w.heap.size:=by simp [w',World.setRow]
   have hmem:gb m w':=V.mem.step fun k ⟨o',v,e⟩=>wM k (fun hk=>by subst hk;rw [hno o'] at e;cases e)
   refine hK _ m ρ w' ⟨⟨Mem.le_refl _,by omega,fun k hk hnb=>wM k (fun e=>hnb (by subst e;exact ⟨id,c,by simp,by rw [show ({S:=S,H:=H,nx:=nx,df:=df}:St).H id=_ from hH];simp,hr⟩)),rfl,rfl,rfl,fun _ _ _ e=> .inl e⟩,di.le_refl _,fun i=> .inl rfl,⟨hmem,?_,?_⟩,?_⟩ (by simp [aN])
   ·intro j ob hj yJ
    have hj':j=id:=by simpa using hj.elim (fun h=>h) (by omega)
    subst hj'
    simp only [cG,if_true,Option.some.injEq] at yJ
    subst yJ
    exact .inr ⟨b,c,vs.take off,_,tb,hr,EJ,oF _ hrl,fun u hu=>hone u (List.mem_of_mem_take hu),hno⟩
   ·intro j j' b1 Ik WM hj hj' _ _ _ _
    have e1:j=id:=by simpa using hj.elim (fun h=>h) (by omega)
    have e2:j'=id:=by simpa using hj'.elim (fun h=>h) (by omega)
    rw [e1,e2]
   ·rintro b1 ⟨j,Ik,hj,_,fY⟩
    have hj':j=id:=by simpa using hj.elim (fun h=>h) (by omega)
    subst hj'
    exact .inl ⟨j,Ik,by simp,by rw [show ({S:=S,H:=H,nx:=nx,df:=df}:St).H j=_ from hH];simp,fY⟩
 ·subst PM
  exact same (Cb ad kk w ev (by cases ad<;>simp))
theorem Sf {c:Call} {f:Nat} {x:Operand} {rest:List Operand} {id n:Nat} {l ds:List D} {v:Value} (ho:o.op= .call c) (hc:c.callee= .value (.func f)) (hargs:c.args.toList=x::rest) (he:aP P f=true) (hx:aB S x= .gD id 0 n) (hH:H id=some (.var (bq l))) (hn:n=l.length)
  (hd:PV.ej (rest.map (aB S))=some ds) (hF:bI P f (.slice l::ds) (.val v)) (hk:k (.d (.val v)) H nx [id] []):vz P o ⟨S,H,nx,df⟩ k:=by
 intro gP
 refine ⟨_,_,_,_,_,⟨Nat.le_refl _,fun _ _ _=>rfl,gP,by simp,by simpa using R9 gP hH,?_⟩,hk⟩
 intro m ρ a w K Q V hf hxs hK
 have h1:∀ y∈c.args.toList,aN m ρ (aB S y) (a.eval y):=fun y hy=>hxs y (by simp only [ho,Op.operands,Call.operands];simp only [Array.mem_append];exact .inr (by simpa using hy))
 have W8:=h1 x (by rw [hargs];simp)
 rw [hx] at W8
 simp only [aN] at W8
 have hE:=V.entry id _ (by simp) hH
 have W9:∀ y∈rest,aN m ρ (aB S y) (a.eval y):=fun y hy=>h1 y (by rw [hargs];simp [hy])
 have Ur:c.args.toList.map a.eval=a.eval x::rest.map a.eval:=by rw [hargs];rfl
 have e0:(⟨c.args.toList.map a.eval⟩:Array Value)=c.args.map a.eval:=by apply Array.ext';simp
 have go:∀ m1:Mem,m.le m1→gb m1 w→(∀ b o' v',m1 b o'=some v'→m b o'=some v'∨b<w.heap.size)→bg m1 (.slice l) (a.eval x)→o.wp P a w K Q:=by
  intro m1 hle x4 _ sB
  have hr:cr m1 (.slice l::ds) (c.args.toList.map a.eval):=by
   rw [Ur]
   simp only [cr]
   exact ⟨_,_,rfl,sB,cr.mono hle _ _ (wN W9 hd)⟩
  unfold Oper.wp
  rw [rK ho hc he,Oper.upon_enter]
  have:=hF m1 w _ x4 hr
  rw [e0] at this
  refine this.mono ?_
  rintro e w' ⟨u,m',rfl,hv,hm',Sg⟩
  simp only [bg] at hv
  subst hv
  have hsame:∀ b,b<w.heap.size→w'.heap[b]? =w.heap[b]? :=fun b hb=>Sg.block b hb (fun h=>h)
  refine hK u m ρ w' ⟨⟨Mem.le_refl _,Sg.size,fun b hb _=>hsame b hb,Sg.os,Sg.tape,Sg.output,fun _ _ _ e=> .inl e⟩,di.le_refl _,fun i=> .inl rfl,⟨?_,?_,?_⟩,?_⟩ (by simp [aN,bg])
  ·intro b o' v' e'
   have h2:=V.mem b o' v' e'
   refine ⟨?_,h2.2⟩
   have hb:=V.mem.lt e'
   have h3:=h2.1
   unfold World.cell? at h3 ⊢
   rw [hsame b hb];exact h3
  ·intro i ob hi Bp
   have hi':i=id:=by simpa using hi.elim (fun h=>h) (by omega)
   subst hi'
   have YI:=V.entry i ob (by simp) Bp
   exact YI.move (Mem.le_refl _) (di.le_refl _) rfl (fun b c hr=>hsame b (YI.oC hr)) (fun _ _ _ _ _ h=>h)
  ·intro i j b c1 c2 hi hj _ _ _ _
   have e1:i=id:=by simpa using hi.elim (fun h=>h) (by omega)
   have e2:j=id:=by simpa using hj.elim (fun h=>h) (by omega)
   rw [e1,e2]
  ·rintro b ⟨i,c1,hi,hl,fY⟩
   have hi':i=id:=by simpa using hi.elim (fun h=>h) (by omega)
   subst hi'
   exact .inl ⟨i,c1,by simp,hl,fY⟩
 rcases W8 with ⟨b,cc,kk,hr,ev,hkk⟩ | ⟨h0,ad,kk,ev⟩
 ·rcases hE with ⟨_,hr'⟩ | ⟨b',c',vs,tail,tb,hr',hb,hrl,hone,hno⟩
  ·rw [hr] at hr';cases hr'
  rw [hr] at hr';cases hr'
  have hl:=bN.ej _ _ _ (wR _) hrl
  have hle:m.le (m.with b vs):=Mem.tI hno
  have x4:gb (m.with b vs) w:=by
   refine V.mem.with (fun _ _=>rfl) (fun o' v' h=>?_) hone
   rw [ig hb,List.getElem?_append_left (List.getElem?_eq_some_iff.1 h).1];exact h
  refine go (m.with b vs) hle x4 (fun b' o' v' h=>?_) ?_
  ·unfold Mem.with at h
   split at h
   ·rename_i e;right;rw [e];exact (Array.getElem?_eq_some_iff.1 hb).1
   ·exact .inl h
  ·simp only [bg]
   exact ⟨_,kk,by rw [ev,hn],by omega, .inr ⟨b,0,rfl,kq (hl.mono hle) (fun j u hj=>by simp [Mem.with,hj])⟩⟩
 ·subst h0
  have:l=[]:=List.eq_nil_of_length_eq_zero hn.symm
  subst this
  refine go m (Mem.le_refl _) V.mem (fun _ _ _ h=> .inl h) ?_
  simp only [bg]
  exact ⟨ad,kk,by rw [ev];rfl,Nat.zero_le _, .inl trivial⟩
end
variable {N b:Nat}
theorem View.NI {s:St} {l:List D} {n:Nat} {R:List PV} (id t:Nat) (hH:s.H id=some (.var (bq l++R))) (ht:s.S t= .gD id 0 n) (hn:n=l.length) (Lr:b≤s.nx):View N b s ⟨fk s.S (some t) (.d (.slice l)),cG s.H id none,s.nx,s.df⟩:=by
 intro m ρ a w hI
 have qB:=hI.slots t
 rw [ht] at qB
 simp only [aN] at qB
 have hE:=hI.valid.entry id _ trivial hH
 have fin:∀ m1:Mem,m.le m1→gb m1 w→(∀ x y v,m1 x y=some v→m x y=some v∨∃ c,ρ id=some (x,c))→bg m1 (.slice l) (a.tmps.getD t undef)→∃ m' ρ',Inv N ⟨fk s.S (some t) (.d (.slice l)),cG s.H id none,s.nx,s.df⟩ m' ρ' a w∧zA b m ρ w s.H s.nx m' ρ' w (cG s.H id none):=by
  intro m1 x4 hmem hnew iO
  have mq:Inv N ⟨fk s.S (some t) (.d (.slice l)),cG s.H id none,s.nx,s.df⟩ m1 ρ a w:=by
   refine ⟨hI.size,hI.defers.mono x4 (di.le_refl _),fun i=>?_,⟨hmem,fun i o _ uk=>?_,fun i j b1 c1 c2 _ _ hi hj fY jR=>?_⟩,fun i hi=>?_,hI.n5⟩
   ·show aN _ _ (fk s.S (some t) (.d (.slice l)) i) _
    rw [cx]
    split
    ·rename_i e
     subst e
     simpa only [aN] using iO
    ·exact (hI.slots i).mono x4 (di.le_refl _)
   ·by_cases e:i=id
    ·subst e;simp [cG] at uk
    ·simp only [cG,e,if_false] at uk
     have hE:=hI.valid.entry i o trivial uk
     refine hE.move x4 (di.le_refl _) rfl (fun _ _ _=>rfl) (fun b' c' hr o' v e'=>?_)
     rcases hnew b' o' v e' with h1 | ⟨c,h1⟩
     ·exact h1
     ·exact absurd (hI.valid.apart i id b' c' c trivial trivial (by rw [uk];simp) (by rw [hH];simp) hr h1) e
   ·refine hI.valid.apart i j b1 c1 c2 trivial trivial ?_ ?_ fY jR
    ·intro e;apply hi;simp only [cG];split
     ·rfl
     ·exact e
    ·intro e;apply hj;simp only [cG];split
     ·rfl
     ·exact e
   ·simp only [cG]
    split
    ·rfl
    ·exact hI.gP i hi
  have WX:∀ x,xw ρ (cG s.H id none) (fun _=>True) x→xw ρ s.H (fun _=>True) x:=by
   rintro x ⟨i,c,_,hl,fY⟩
   refine ⟨i,c,trivial,?_,fY⟩
   intro e
   apply hl
   simp only [cG]
   split
   ·rfl
   ·exact e
  refine ⟨m1,ρ,mq,⟨⟨x4,Nat.le_refl _,fun _ _ _=>rfl,rfl,rfl,rfl,fun x y v e=>?_⟩,fun c hc=> .inl (WX c hc),Lr,fun _ _=>rfl⟩⟩
  rcases hnew x y v e with h2 | ⟨c,h2⟩
  ·exact .inl h2
  ·exact .inr (.inl ⟨id,c,trivial,by rw [hH];simp,h2⟩)
 rcases qB with ⟨b0,cc,kk,hr,ev,hkk⟩ | ⟨h0,ad,kk,ev⟩
 ·rcases hE with ⟨_,hr'⟩ | ⟨b',c',vs,tail,tb,hr',hb,hrl,hone,hno⟩
  ·rw [hr] at hr';cases hr'
  rw [hr] at hr';cases hr'
  have hle:m.le (m.with b0 vs):=Mem.tI hno
  have x4:gb (m.with b0 vs) w:=by
   refine hI.valid.mem.with (fun _ _=>rfl) (fun o' v' h=>?_) hone
   rw [ig hb,List.getElem?_append_left (List.getElem?_eq_some_iff.1 h).1];exact h
  refine fin (m.with b0 vs) hle x4 (fun x y v e=>?_) ?_
  ·unfold Mem.with at e
   split at e
   ·rename_i hx;right;exact ⟨cc,by rw [hx];exact hr⟩
   ·exact .inl e
  ·have Uh:bN m ρ (bq l) (vs.take (bq l).length):=by
    have:=oF (bq l).length hrl
    rwa [List.take_left' rfl] at this
   have hl:=bN.ej _ _ _ (wR _) Uh
   simp only [bg]
   refine ⟨_,kk,by rw [ev,hn],by omega, .inr ⟨b0,0,rfl,kq (hl.mono hle) (fun j u hj=>?_)⟩⟩
   rw [List.getElem?_take] at hj
   split at hj
   ·simp [Mem.with,hj]
   ·cases hj
 ·subst h0
  have:l=[]:=List.eq_nil_of_length_eq_zero hn.symm
  subst this
  refine fin m (Mem.le_refl _) hI.valid.mem (fun _ _ _ e=> .inl e) ?_
  simp only [bg]
  exact ⟨ad,kk,ev,Nat.zero_le _, .inl trivial⟩
theorem Xa {s:St} {ps:List PV} {m:Mem} {ρ:di} {w:World} {vs rest:List Value} (T:Nat→Prop) (V:ew T m ρ w s.H) (hf:∀ i,s.nx≤i→i<s.nx+1→ρ i=none)
  (hv:bN m ρ ps vs) (h1:∀ u∈vs,u.oneCell'=true) (t:TypeId):
  zu T s.nx (s.nx+1) m ρ w s.H m (fun i=>if i=s.nx then some (w.heap.size,0) else ρ i) (w.drew.alloc (.cells ⟨vs++rest⟩ t)) (fun i=>if i=s.nx then some (.var ps) else s.H i):=by
 have hle:ρ.le (fun i=>if i=s.nx then some (w.heap.size,0) else ρ i):=by
  intro i x e
  have:i≠s.nx:=by intro h;subst h;rw [hf _ (Nat.le_refl _) (by omega)] at e;cases e
  simp [this,e]
 have hold:∀ k,k<w.heap.size→(w.drew.alloc (.cells ⟨vs++rest⟩ t)).heap[k]? =w.heap[k]? :=fun k hk=>heap_alloc_old w.drew _ hk
 have hnew:(w.drew.alloc (.cells ⟨vs++rest⟩ t)).heap[w.heap.size]? =some (.cells ⟨vs++rest⟩ t (0,0)):=heap_alloc_new w.drew _
 have hmem:gb m (w.drew.alloc (.cells ⟨vs++rest⟩ t)):=V.mem.step fun k ⟨o',v,e⟩=>hold k (V.mem.lt e)
 refine ⟨⟨Mem.le_refl _,by simp,fun b hb _=>hold b hb,rfl,rfl,rfl,fun b o v h=> .inl h⟩,hle,fun i=>?_,⟨hmem,?_,?_⟩,?_⟩
 ·by_cases h:i=s.nx
  ·exact .inr ⟨by omega,by omega⟩
  ·simp [h]
 ·intro i o hi hH
  by_cases h:i=s.nx
  ·subst h
   simp only [if_true,Option.some.injEq] at hH
   subst hH
   exact .inr ⟨w.heap.size,0,vs,rest,t,by simp,hnew,hv.mono (Mem.le_refl _) hle,h1,tJ V.mem⟩
  ·simp only [h,if_false] at hH
   have hE:=V.entry i o (hi.elim id (by omega)) hH
   refine hE.move (Mem.le_refl _) hle (by simp [h]) (fun b c hr=>hold b (hE.oC hr)) (fun _ _ _ _ _ e=>e)
 ·intro i j b c c' hi hj Bp yJ fY jR
  have old:∀ k,(T k∨(s.nx≤k∧k<s.nx+1))→k≠s.nx→(if k=s.nx then some (HO.var ps) else s.H k)≠none→∀ b c,(if k=s.nx then some (w.heap.size,0) else ρ k)=some (b,c)→T k∧s.H k≠none∧ρ k=some (b,c)∧b<w.heap.size:=by
   intro k hk hne hl b c hr
   simp only [hne,if_false] at hl hr
   have Ga:T k:=hk.elim id (by omega)
   refine ⟨Ga,hl,hr,?_⟩
   cases e:s.H k with
   | none=>exact absurd e hl
   | some o=>exact (V.entry k o Ga e).oC hr
  by_cases h:i=s.nx<;>by_cases h':j=s.nx
  ·rw [h,h']
  ·subst h
   have:=old j hj h' yJ b c' jR
   simp at fY
   omega
  ·subst h'
   have:=old i hi h Bp b c fY
   simp at jR
   omega
  ·have e1:=old i hi h Bp b c fY
   have e2:=old j hj h' yJ b c' jR
   exact V.apart i j b c c' e1.1 e2.1 e1.2.1 e2.2.1 e1.2.2.1 e2.2.2.1
 ·rintro b ⟨i,c,hi,hl,hr⟩
  by_cases h:i=s.nx
  ·subst h
   simp at hr
   exact .inr (by omega)
  ·simp only [h,if_false] at hl hr
   exact .inl ⟨i,c,hi.elim id (by omega),hl,hr⟩
section
variable {o:Oper} {S:Nat→PV} {H:HM} {nx:Nat} {df:List (Nat×List PV)} {k:PV→HM→Nat→List Nat→List Nat→Prop}
theorem Sh {t u:TypeId} {d:TypeDesc} {x y:Operand} {sz je:Nat} {l2:List D} (ho:o.op= .call {callee:= .builtin .append,args:= #[x,y],argTypes:= #[t,u]}) (ht:oH P t=some (sz,je)) (hu:P.underlying u=some d) (hd:mC d=true)
  (hx:aB S x= .full []) (hy:(aB S y).more=some l2) (c2:∀ z∈l2,z.cells.length=sz) (hb:l2.length*je≤140737488355328) (hb0:0<je) (hk:k (.gD nx 0 l2.length) (cG H nx (some (.var (bq l2)))) (nx+1) [] []):vz P o ⟨S,H,nx,df⟩ k:=by
 intro hn
 refine ⟨_,_,_,_,_,⟨Nat.le_succ _,fun i _ hi=>?_,fun i hi=>?_,by simp,by simp,?_⟩,hk⟩
 ·have:i≠nx:=Nat.ne_of_lt hi
  simp [cG,this]
 ·have hi:nx+1≤i:=hi
  have:i≠nx:=by omega
  simp only [cG,this,if_false];exact hn i (show nx≤i by omega)
 intro m ρ a w K Q V hf hxs hK
 have h1:=hxs x (by simp [ho,Op.operands,Call.operands])
 have h2:=hxs y (by simp [ho,Op.operands,Call.operands])
 rw [show aB ({S:=S,H:=H,nx:=nx,df:=df}:St).S x=_ from hx] at h1
 obtain ⟨e,i,z,z0,hi,hz,hzs,h0,hsz,hby⟩:=sW ht
 obtain ⟨g1,news,g2,g3,g4,g5⟩:=xZ (P:=P) V.mem hy h2 c2
 simp only [aN,List.length_nil] at h1
 obtain ⟨ad,ev,iO⟩:=h1
 subst hsz
 subst hby
 have Rw:l2.length*1≤l2.length*i.bytes:=Nat.mul_le_mul_left _ hb0
 unfold Oper.wp
 by_cases hkk:l2=[]
 ·subst hkk
  have hrun:=sX (P:=P) w t u o.type e d i z0 hu hd hi ad (a.eval y) (by simpa using g1) (by
   have:=g5 w rfl
   have J9:news=[]:=List.eq_nil_of_length_eq_zero (by simpa using g2)
   subst J9
   simpa using this)
  rw [iA ho (by rw [ev];exact hrun),Oper.upon_value]
  refine hK _ m ρ w ⟨Ext.refl _ _ _,di.le_refl _,fun i=> .inl rfl,⟨V.mem,?_,?_⟩,?_⟩ ?_
  ·intro k ob hk' hH
   have tL:k=nx:=by have:=hk'.elim (fun h=>by cases h) (fun h=>h);have h2:nx≤k∧k<nx+1:=this;omega
   subst tL
   simp only [cG,if_true,Option.some.injEq] at hH
   subst hH
   exact .inl ⟨rfl,hf _ (Nat.le_refl _) (Nat.lt_succ_self _)⟩
  ·intro k j b c c' hk' _ _ _ hr _
   have tL:k=nx:=by have:=hk'.elim (fun h=>by cases h) (fun h=>h);have h2:nx≤k∧k<nx+1:=this;omega
   subst tL
   rw [hf _ (Nat.le_refl _) (Nat.lt_succ_self _)] at hr;cases hr
  ·rintro b ⟨k,c,hk',_,hr⟩
   have tL:k=nx:=by have:=hk'.elim (fun h=>by cases h) (fun h=>h);have h2:nx≤k∧k<nx+1:=this;omega
   subst tL
   rw [hf _ (Nat.le_refl _) (Nat.lt_succ_self _)] at hr;cases hr
  ·simp only [aN]
   exact .inr ⟨rfl,ad,0,rfl⟩
 ·have hpos:0<l2.length:=List.length_pos_iff.2 hkk
  have hrun:=oq (P:=P) w t u o.type e d i z z0 hu hd hi hz ad 0 0 l2.length (a.eval y) [] news g1 (by
   cases ad with
   | none=>simp [Builtin.firstCells]
   | some ad=>simp [Builtin.firstCells,loadCells,loadCellsFrom]) (g5 w.drew rfl) (by omega) (by omega) (by rw [Nat.zero_add];exact growslice_fits hpos hb)
  rw [iA ho (by rw [ev];exact hrun),Oper.upon_value]
  have hge:=grownCap_ge w (0+l2.length) 0 e
  have hRn:bN m ρ (bq l2) news:=Kc g3
  have hD:=Xa (s:=⟨S,H,nx,df⟩) (w:=w) (· ∈([]:List Nat)) V hf hRn g4 (rest:=(Builtin.zeroCells z.cells (grownCap w (0+l2.length) 0 e-(0+l2.length))).toList) e
  simp only [List.nil_append]
  refine hK _ _ _ _ hD ?_
  simp only [aN]
  refine .inl ⟨w.heap.size,0,grownCap w (0+l2.length) 0 e,by simp,by simp,by omega⟩
end
section
variable {o:Oper} {S:Nat→PV} {H:HM} {nx:Nat} {df:List (Nat×List PV)} {k:PV→HM→Nat→List Nat→List Nat→Prop} {α:Type} {en:α→D} {c:α→List D} {sz:Nat}
theorem Si {t u:TypeId} {d:TypeDesc} {x y:Operand} {je:Nat} {l2:List α} (ho:o.op= .call {callee:= .builtin .append,args:= #[x,y],argTypes:= #[t,u]}) (ht:oH P t=some (sz,je)) (hu:P.underlying u=some d) (hd:mC d=true) (hl:sC en c sz)
  (hx:aB S x= .full []) (hy:(aB S y).more=some (l2.map en)) (hb:l2.length*je≤140737488355328) (hb0:0<je) (hk:k (.gD nx 0 l2.length) (cG H nx (some (.var (bq (l2.map en))))) (nx+1) [] []):vz P o ⟨S,H,nx,df⟩ k:=
 Sh ho ht hu hd hx hy (hl.all l2) (by rw [List.length_map];exact hb) hb0 (by rw [List.length_map];exact hk)
theorem Us (hl:sC en c sz) {l:List α} {A:Int} {n:Nat} (h:0≤A∧A≤(n:Int)∧(n:Int)≤(n:Int)) (hn:n=l.length):0+A.toNat*sz+((n:Int)-A).toNat*sz≤(bq (l.map en)).length:=by
 rw [vc hl,Nat.zero_add, ← Nat.add_mul]
 exact Nat.mul_le_mul_right _ (by omega)
theorem Qc (hl:sC en c sz) {l:List α} {A:Int} {n:Nat} (h:0≤A∧A≤(n:Int)∧(n:Int)≤(n:Int)) (hn:n=l.length):(bq (l.map en)).take (0+A.toNat*sz)=bq ((l.take A.toNat).map en):=LD hl l A.toNat (by omega)
end
theorem View.Jc {s:St} {α:Type} {en:α→D} {l:List α} {n:Nat} (id t:Nat) (hH:s.H id=some (.var (bq (l.map en)))) (ht:s.S t= .gD id 0 n) (hn:n=l.length) (Lr:b≤s.nx):View N b s ⟨fk s.S (some t) (.d (.slice (l.map en))),cG s.H id none,s.nx,s.df⟩:=
 View.NI (R:=[]) id t (by rw [List.append_nil];exact hH) ht (by rw [List.length_map];exact hn) Lr
theorem View.YJ {s:St} (t:Nat) (hs:s.S t= .full []) (hb:b≤s.nx):View N b s ⟨fk s.S (some t) (.gD s.nx 0 0),cG s.H s.nx (some (.var [])),s.nx+1,s.df⟩:=by
 refine View.of (Nat.le_trans hb (Nat.le_succ _)) fun m ρ a w hI=>?_
 have qB:=hI.slots t
 rw [hs] at qB
 simp only [aN] at qB
 obtain ⟨ad,ev,_⟩:=qB
 have nn:∀ k,(∃ b c,ρ k=some (b,c))→k≠s.nx:=by
  rintro k ⟨b,c,h⟩ e
  subst e
  rw [hI.n5 _ (Nat.le_refl _)] at h;cases h
 have mq:Inv N ⟨fk s.S (some t) (.gD s.nx 0 0),cG s.H s.nx (some (.var [])),s.nx+1,s.df⟩ m ρ a w:=by
  refine ⟨hI.size,hI.defers,fun i=>?_,⟨hI.valid.mem,fun i o _ hH=>?_,fun i j b c c' _ _ hi hj fY jR=>?_⟩,fun i hi=>?_,fun i hi=>hI.n5 i (by have:s.nx+1≤i:=hi;omega)⟩
  ·simp only [cx]
   by_cases e:i=t
   ·subst e
    simp only [if_true,aN]
    exact .inr ⟨trivial,ad,0,ev⟩
   ·simp only [e,if_false];exact hI.slots i
  ·simp only [oJ] at hH
   by_cases e:i=s.nx
   ·subst e
    simp only [if_true,Option.some.injEq] at hH
    subst hH
    exact .inl ⟨rfl,hI.n5 _ (Nat.le_refl _)⟩
   ·simp only [e,if_false] at hH;exact hI.valid.entry i o trivial hH
  ·have e1:=nn i ⟨b,c,fY⟩
   have e2:=nn j ⟨b,c',jR⟩
   simp only [oJ,e1,if_false] at hi
   simp only [oJ,e2,if_false] at hj
   exact hI.valid.apart i j b c c' trivial trivial hi hj fY jR
  ·have h1:s.nx+1≤i:=hi
   have:i≠s.nx:=by omega
   simp only [oJ,this,if_false]
   exact hI.gP i (by omega)
 refine ⟨ρ,mq,?_,fun _ _=>rfl⟩
 rintro b' ⟨i,c,_,hl,fY⟩
 have:=nn i ⟨b',c,fY⟩
 simp only [oJ,this,if_false] at hl
 exact ⟨i,c,trivial,hl,fY⟩
end Go.Proofs.YtlfjfoknbjcncaaGreat.K
namespace Go.Proofs.YtlfjfoknbjcncaaGreat.K
open Go Go.RowKit
set_option linter.unusedVariables false
set_option linter.unusedSectionVars false
set_option linter.unusedSimpArgs false
theorem zL {n:Nat}:0≤n:=Nat.zero_le n
theorem g3 {α β γ δ:Type} {a:α} {b:β} {c:γ} {d:δ} {p:PV}:(a=a∧b=b∧c=c)∧d=d∧iH p p:=⟨⟨rfl,rfl,rfl⟩,rfl,iH.refl⟩
theorem lp {g:Prop} {p:Nat→Prop}:g→∀ i∈([]:List Nat),p i:=fun _ _ hi=>nomatch hi
theorem jC {a b:Bool} (h:(a&&b)=true):a=true:=(Bool.and_eq_true_iff.mp h).1
theorem jY {a b c:Bool} (h:((a&&b)&&c)=true):a=true:=jC (jC h)
theorem QW.rT {P:Program} {N id:Nat} {ops:Array Oper} {s:St} {Q:PX→St→Prop} (hok:qn ops N=true) (h:XK P ops ops.toList s Q):QW P N 0 (.region id ops false) s Q:=QW.region (Nat.zero_le _) (PW.Wl hok h)
theorem QW.sT {P:Program} {N id:Nat} {ops:Array Oper} {y:Code} {s:St} {Q:PX→St→Prop} (hok:qn ops N=true) (h:XK P ops ops.toList s (PX.then (fun s'=>QW P N 0 y s' Q) Q)):QW P N 0 (.seq (.region id ops false) y) s Q:=QW.seq (QW.rT hok h)
theorem XK.nz {P:Program} {ops:Array Oper} {s:St} {next:St→Prop} {Q:PX→St→Prop} (h:next s):XK P ops [] s (PX.then next Q):=XK.nil (aX h)
abbrev pI (n:Int):PV:= .d (.val (.int .i64 n))
abbrev pS (l:List UInt8):PV:= .d (.val (sV l))
abbrev pB (b:Bool):PV:= .d (.val (.bool b))
theorem iC {p:PV} {A:Prop} (h:A):iH p p∧A:=⟨iH.refl,h⟩
theorem xs {P:Program} {ops:Array Oper} {o:Oper} {r:List Oper} {S:Nat→PV} {H:HM} {nx:Nat} {df:List (Nat×List PV)} {Q:PX→St→Prop} (d:Nat) (h0:(o.dst,o.guard)=(some d,none)) (h:aT P [] o ⟨S,H,nx,df⟩ fun v H' cO _ _=>XK P ops r ⟨fk S (some d) v,H',cO,df⟩ Q):XK P ops (o::r) ⟨S,H,nx,df⟩ Q:=XK.st (some d) (congrArg Prod.fst h0) (congrArg Prod.snd h0) h
theorem bL {a b:Nat} (h:Nat.ble a b=true:=by exact rfl):a≤b:=Nat.le_of_ble_eq_true h
section
variable {P:Program} {N id:Nat} {ops:Array Oper} {o:Oper} {r:List Oper} {x:Operand} {y:Code} {S:Nat→PV} {H:HM} {nx b:Nat} {df:List (Nat×List PV)} {s:St} {next:St→Prop} {Q:PX→St→Prop}
theorem rG (h:XK P ops ops.toList s Q) (hok:qn ops N=true:=by kernel_rfl):QW P N 0 (.region id ops false) s Q:=QW.rT hok h
theorem sR (h:XK P ops ops.toList s (PX.then (fun s'=>QW P N 0 y s' Q) Q)) (hok:qn ops N=true:=by kernel_rfl):QW P N 0 (.seq (.region id ops false) y) s Q:=QW.sT hok h
theorem Fq (h:XK P ops ops.toList s Q) (hb:b≤s.nx:=by exact Nat.le_of_ble_eq_true rfl) (hok:qn ops N=true:=by kernel_rfl):QW P N b (.region id ops false) s Q:=QW.region hb (PW.Wl hok h)
theorem lN (h:XK P ops ops.toList s (PX.then (fun s'=>QW P N b y s' Q) Q)) (hb:b≤s.nx:=by exact Nat.le_of_ble_eq_true rfl) (hok:qn ops N=true:=by kernel_rfl):QW P N b (.seq (.region id ops false) y) s Q:=QW.seq (Fq h hb hok)
theorem xm (d:Nat) (v:PV) (k:XK P ops r ⟨fk S (some d) v,H,nx,df⟩ Q) (h0:(o.dst,o.guard)=(some d,none):=by exact rfl) (ho:o.op= .move x:=by exact rfl) (hx:aB S x=v:=by exact rfl):XK P ops (o::r) ⟨S,H,nx,df⟩ Q:=xs d h0 (au ho hx k)
theorem xa (d:Nat) (v:PV) (k:XK P ops r ⟨fk S (some d) v,H,nx,df⟩ Q) (h0:(o.dst,o.guard)=(some d,none):=by exact rfl) (ho:o.op= .assign x:=by exact rfl) (hx:aB S x=v:=by exact rfl):XK P ops (o::r) ⟨S,H,nx,df⟩ Q:=xs d h0 (cq ho hx k)
theorem xz (d:Nat) (v:PV) (k:next ⟨fk S (some d) v,H,nx,df⟩) (h0:(o.dst,o.guard)=(some d,none):=by exact rfl) (ho:o.op= .assign x:=by exact rfl) (hx:aB S x=v:=by exact rfl):XK P ops [o] ⟨S,H,nx,df⟩ (PX.then next Q):=xs d h0 (cq ho hx (XK.nz k))
theorem xg {g:Bool} (d:Nat) (v:PV) (hd:o.dst=some d) (hg:tq ops o S=some g) (h:g=true→aT P [] o ⟨jA S,H,nx,df⟩ fun v' H' cO T' W=>(W=[]∧cO=nx∧T'=[])∧H'=H∧iH v' v)
  (k:XK P ops r ⟨fk S (some d) (.cond g v),H,nx,df⟩ Q) (hc:vt g S o.op.operands.toList:=by repeat (first | exact trivial | refine ⟨fun q=>by first | rfl | exact q | exact jC q | exact jY q,?_⟩)):XK P ops (o::r) ⟨S,H,nx,df⟩ Q:=XK.gd (T:=[]) (some d) hd hg hc h lp k
end
end Go.Proofs.YtlfjfoknbjcncaaGreat.K
namespace Go.Proofs.YtlfjfoknbjcncaaGreat.K
open Go Go.RowKit
set_option linter.unusedVariables false
set_option linter.unusedSimpArgs false
set_option linter.unusedSectionVars false
variable {P:Program}
def eK (x:BitVec 32):D:= .val (.int .u32 (x.toNat:Int))
def ec (x:BitVec 64):D:= .val (.int .u64 (x.toNat:Int))
theorem fC:sC ec (fun x=>[.val (.int .u64 (x.toNat:Int))]) 1:=⟨fun _=>rfl,fun _=>rfl⟩
end Go.Proofs.YtlfjfoknbjcncaaGreat.K
namespace Go.Proofs.YtlfjfoknbjcncaaGreat.K
open Go Go.RowKit
set_option linter.unusedVariables false
set_option linter.unusedSimpArgs false
set_option linter.unusedSectionVars false
variable {P:Program}
end Go.Proofs.YtlfjfoknbjcncaaGreat.K
namespace Go.Proofs.YtlfjfoknbjcncaaGreat.K
open Go Go.RowKit
theorem iH.l7 {l l':List D} {z:Bool} (h:l=l') (hz:z=false):iH (.d (.cA l)) (.d (.l7 z l')):=fun m ρ v e=>by
 subst h hz
 simp only [aN,bg] at e ⊢
 exact .inr ⟨by trivial,e⟩
theorem Qd {α β:Type} {n:Nat} (f:α→β) (z:α) (a:aE n α):List.ofFn (fun i:Fin n=>f (a.1.getD i.1 z))=a.1.map f:=by
 apply List.ext_getElem
 ·simp [a.2]
 ·intro i h1 h2
  have hi:i<a.1.length:=by simpa using h2
  rw [List.getElem_ofFn,List.getElem_map,List.getD_eq_getElem?_getD,List.getElem?_eq_getElem hi]
  rfl
section
variable {P:Program} {ops:Array Oper} {o:Oper} {r:List Oper} {S:Nat→PV} {H:HM} {nx:Nat} {df:List (Nat×List PV)}
theorem XK.fx {Q:PX→St→Prop} (d:Option Nat) (hd:o.dst=d) (hg:o.guard=none) (h:aT P d.toList o ⟨S,H,nx,df⟩ fun v H' cO _ _=>∃ v',iH v v'∧XK P ops r ⟨fk S d v',H',cO,df⟩ Q):XK P ops (o::r) ⟨S,H,nx,df⟩ Q:=by
 intro hn
 subst hd
 obtain ⟨v,H',cO,T,W,h1,v',h2,h3⟩:=ld hn h
 exact .step (.run hg (h1.imp h2)) (h3 h1.nil)
end
theorem View.LF {N b:Nat} {s:St} {l:List PV} {ds ds':List D} {z:Bool} (id t:Nat) (hH:s.H id=some (.var l)) (hl:ds.map PV.d=l) (he:ds=ds') (hz:z=false) (ht:s.S t= .aF id 0) (Lr:b≤s.nx):View N b s ⟨fk s.S (some t) (.d (.l7 z ds')),cG s.H id none,s.nx,s.df⟩:=by
 subst hl he hz
 refine View.trans (View.freeze (l:=ds) id t hH ht Lr) (View.of Lr fun m ρ a w hI=>⟨ρ,⟨hI.size,hI.defers,fun i=>?_,hI.valid,hI.gP,hI.n5⟩,fun _ h=>h,fun _ _=>rfl⟩)
 have:=hI.slots i
 simp only [fk] at this ⊢
 split
 ·rename_i h
  rw [if_pos h] at this
  exact iH.l7 rfl rfl _ _ _ this
 ·rename_i h
  rw [if_neg h] at this
  exact this
variable {P:Program}
theorem bI.x8 {f:Nat} {fn:Func} {c:Code} {args:List D} {fd:Nat} {res:D} (hf:P.funcs[f]? =some fn) (hb:fn.body=some c) (hN:args.length≤fn.ntmps) (hfd:aP P fd=true)
  (h:QW P fn.ntmps 0 c ⟨yL args,fun _=>none,0,[]⟩ (fun px s=>vw P fn.results.toList fd res px s∨Ends P fn.results.toList (fun p=>p.dj=some res) px s)):bI P f args res:=by
 intro m w vs hm hr
 refine calls_of_wp_defers hf hb (wp_mono (h.2 m _ _ w (IP hm hr hN)) ?_)
 rintro e a w' ⟨px,s,m',ρ',⟨id,p0,hdf,hH,x,p1,hL,tK,Lz,hx,hres,hD⟩ | ⟨hpx,hdf,hres,hp⟩,sB,hI,hA⟩
 rotate_left
 ·obtain ⟨v,hv,iO⟩:=nP (P:=P) hI hres
  have hd:=hI.defers
  rw [hdf] at hd
  have hd:a.defers=[]:=hd
  have hE:Ext (fun _=>False) m w m' w':=hA.ext.mono (by rintro b ⟨i,c,_,h,_⟩;exact absurd rfl h)
  have key:Leaves P fn a.tmps (fun e w'=>∃ v m',e= .returned v∧bg m' res v∧gb m' w'∧Ext (fun _=>False) m w m' w') a.defers .returning w':=by
   rw [hd];exact ⟨v,hv,v,m',rfl,aN.dj _ _ _ hp iO,hI.valid.mem,hE⟩
  rcases hpx with rfl | rfl<;>simp only [RX] at sB<;>subst sB<;>exact key
 have Ig:=hI.defers
 rw [hdf] at Ig
 obtain ⟨d,l',hd1,Qe,YK,YL⟩:=Ig
 simp only [wK] at YL
 subst YL
 obtain ⟨tgt,dargs⟩:=d
 simp only at Qe YK
 subst Qe
 have hlen:∀ (u:FrameMode),u≠ .run→Da m' x u→Leaves P fn a.tmps (fun e w'=>∃ v m',e= .returned v∧bg m' res v∧gb m' w'∧Ext (fun _=>False) m w m' w') a.defers u w':=by
  intro u hu Xb
  rw [hd1]
  refine leaves_cons (f:=fd) (args:=dargs) hu ?_ ?_
  ·simp only [invoke,Array.append_empty]
   exact xB hfd _ _
  ·have abh:id<s.nx:=by
    rcases Nat.lt_or_ge id s.nx with h1 | h1
    ·exact h1
    ·rw [hI.gP _ h1] at hH;cases hH
   have hfr:=R5 (P:=P) (nx:=s.nx) (H:=s.H) [id] hL rfl (by simp) ⟨by show s.H id=some (.var (PV.res _ [p0]));rw [hH];simp only [PV.res];rw [tK],trivial⟩ (Nat.le_refl _)
    m' ρ' w' dargs.toList u hI.valid hI.gP hI.n5 (by simpa [PV.res,PV.re,kY] using YK) Xb
   refine CallsD.mono hfr ?_
   rintro e u' w2 ⟨v,m2,kO,rfl,BB,V2,hn2,hr2,D2⟩
   have eH:iB (lg [id] [HO.var [p0]].length s.nx) [HO.var [p1]] 0 s.H=cG s.H id (some (.var [p1])):=by
    show cG s.H (lg [id] 1 s.nx 0) (some (.var (PV.res (lg [id] 1 s.nx) [p1])))=_
    simp only [PV.res]
    rw [Lz];rfl
   rw [eH] at V2 hn2 D2
   have zO:Inv fn.ntmps ⟨s.S,cG s.H id (some (.var [p1])),s.nx,[]⟩ m2 kO {a with defers:=[]} w2:=
    ⟨hI.size,rfl,fun t=>(hI.slots t).mono D2.ext.mem D2.oC,V2,hn2,hr2⟩
   obtain ⟨vv,R4,iO⟩:=nP (P:=P) zO hres
   have hE:Ext (fun _=>False) m w m2 w2:=(hA.ext.trans D2.ext hA.place).mono (by rintro b ⟨i,c,_,h,_⟩;exact absurd rfl h)
   show Leaves P fn a.tmps _ [] (settle u') w2
   rw [BB]
   exact ⟨vv,R4,vv,m2,rfl,aN.dj _ _ _ hD iO,V2.mem,hE⟩
 cases px with
 | normal=>simp only [RX] at sB;subst sB;subst hx;exact hlen .returning (by simp) rfl
 | ret=>simp only [RX] at sB;subst sB;subst hx;exact hlen .returning (by simp) rfl
 | exit i=>exact hx.elim
 | panic p=>
  obtain ⟨v,rfl,hv⟩:=sB
  obtain ⟨d,rfl,rfl⟩:=hx
  simp only [aN] at hv
  exact hlen (.panicking _) (by simp) ⟨v,hv,rfl⟩
theorem x6.Qf {fd:Nat} {fn:Func} {id t:Nat} {o0:Oper} {rest:Code} {c0:Call} {args:List PV} {M M':List HO} {r:PV} (x:Option D) (hf:P.funcs[fd]? =some fn) (hb:fn.body=some (.seq (.region id #[o0] false) rest))
  (h0:o0.op= .call c0) (hc0:c0.callee= .builtin .recover) (g0:o0.guard=none) (d0:o0.dst=some t) (ht:t<fn.ntmps) (hN:args.length≤fn.ntmps)
  (h:QW P fn.ntmps M.length rest ⟨fk (mT args) (some t) (zB x),aj M,M.length,[]⟩ (Ca P fn.results.toList fn.ntmps M.length (lM (.ret r) (aj M') M'.length))):x6 P fd args M x M':=by
 intro m ρ w vs u V gP hρ hr hu
 refine callsD_of_wpS hf hb ?_
 intro c₀ cs hm
 have Cb:∀ a:Act,(execOp a.eval o0).run P w= .ok .recover w:=by
  intro a
  obtain ⟨dst,op',type,pos,after,guard⟩:=o0
  simp only at h0
  subst h0
  obtain ⟨callee,W2,argTypes⟩:=c0
  simp only at hc0
  subst hc0
  simp [execOp,resolve,invoke,builtin]
 have w0:∀ tm,Region.wanted o0 tm=true:=fun tm=>by unfold Region.wanted;simp only [g0]
 obtain ⟨v,u',R2,hv,BB⟩:∃ v u',(match recoverD (c₀::cs) with | some x=>x | none=>(.nilIface,c₀::cs))=(v,{c₀ with mode:=u'}::cs)∧aN m ρ (zB x) v∧settle u'= .returning:=by
  cases x with
  | none=>
   simp only [Da] at hu
   subst hu
   refine ⟨.nilIface, .returning,?_,by simp [zB,aN,bg],rfl⟩
   have hc:({c₀ with mode:=FrameMode.returning}:Frame)=c₀:=by rw [← hm]
   simp only [recoverD,hm,hc]
  | some d=>
   obtain ⟨v,hv,rfl⟩:=hu
   refine ⟨v, .panicking [{v:=v,recovered:=true}],?_,by simpa [zB,aN] using hv,rfl⟩
   simp only [recoverD,hm]
 refine wpS_seq (wpS_region ?_)
 show wpOpsS P #[o0] _ [0] _ _ _
 refine ET (o:=o0) rfl (w0 _) (Cb _) R2 ?_
 have hI:=B8 V gP hρ hr hN
 have hsz:({tmps:=(⟨vs⟩:Array Value)++Array.replicate (fn.ntmps-(⟨vs⟩:Array Value).size) undef,defers:=[]}:Act).tmps.size=fn.ntmps:=hI.size
 generalize ({tmps:=(⟨vs⟩:Array Value)++Array.replicate (fn.ntmps-(⟨vs⟩:Array Value).size) undef,defers:=[]}:Act)=a0 at hI hsz
 rw [d0]
 have zO:Inv fn.ntmps ⟨fk (mT args) (some t) (zB x),aj M,M.length,[]⟩ m ρ (a0.put (some t) v) w:=by
  refine ⟨by simp [Act.put,hsz],by simpa [Act.put] using hI.defers,?_,hI.valid,hI.gP,hI.n5⟩
  exact sQ hsz hI.slots (some t) (fun d hd=>by cases hd;exact ht) hv
 show Code.wpS P rest _ _ _ _
 refine wpS_of_wp (wp_mono (h.2 m ρ _ w zO) ?_)
 rintro e a' w' ⟨px,s,m',ρ',⟨s',NC,hx,YH⟩,sB,mq,hA⟩
 obtain ⟨m2,kO,Kl,W4⟩:=NC m' ρ' a' w' mq
 have W5:=(hA.trans W4).Ny hρ
 obtain ⟨hdf,hpost⟩:=hx
 have hd:=Kl.defers
 rw [hdf] at hd
 have fin:(oI P fn.results.toList s').2∧(∃ H',(∀ i,H' i=none∨H' i=s'.H i)∧lM (.ret r) (aj M') M'.length (.ret (oI P fn.results.toList s').1) H' s'.nx)→
   a'.defers=[]∧∃ R3,({c₀ with mode:=u'}::cs:List Frame)={c₀ with mode:=R3}::cs∧∃ v,(results fn a'.tmps).run P w'= .ok v w'∧
    ∃ v_1 m' ρ',Ending.returned v= .returned v_1∧settle R3= .returning∧ew (fun _=>True) m' ρ' w' (aj M')∧(∀ i,M'.length≤i→ρ' i=none)∧nN M.length m ρ w (aj M) M'.length m' ρ' w' (aj M'):=by
  rintro ⟨hres,H',hs,Lz,LA,z8⟩
  obtain ⟨vv,R4,iO⟩:=nP (P:=P) Kl hres
  refine ⟨hd,u',rfl,vv,R4,vv,m2,kO,rfl,BB,?_,?_,?_⟩
  ·rw [← LA];exact Kl.valid.sub hs
  ·rw [← z8];exact Kl.n5
  ·rw [← LA, ← z8];exact W5.sub hs
 cases px with
 | normal=>simp only [RX] at sB;subst sB;exact fin hpost
 | ret=>simp only [RX] at sB;subst sB;exact fin hpost
 | exit i=>exact hpost.elim
 | panic p=>
  obtain ⟨H',_,hp,_⟩:=hpost
  cases hp
end Go.Proofs.YtlfjfoknbjcncaaGreat.K
