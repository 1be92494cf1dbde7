import Derived.Test.YthpgedneniekmaaAKD
import Derived.ChangeKeysEq
import Derived.Laws.StructEq
/- Words of 32 and 64 bits; laws of any operation (stepO); writable rows; structs and arrays held against each other. -/
namespace Go.Proofs.Ythpgedneniekmaa.K
open Go Go.RowKit
set_option linter.unusedVariables false
set_option linter.unusedSimpArgs false
set_option linter.unusedSectionVars false
variable {P : Program} {N : Nat} {ops : Array Oper} {o : Oper} {r : List Oper}
def stepO (P : Program) (o : Oper) (s : St) (k : PV → HM → Nat → List Nat → List Nat → Prop) : Prop :=
  (∀ i, s.nx ≤ i → s.H i = none) → ∃ v H' nx' T W, OpSem P o s v H' nx' T W ∧ k v H' nx' T W
section
variable {S : Nat → PV} {H : HM} {nx : Nat} {df : List (Nat × List PV)}
theorem XK.so {Q : PX → St → Prop} (d : Option Nat) (hd : o.dst = d) (hg : o.guard = none) (h : stepO P o ⟨S, H, nx, df⟩ fun v H' nx' _ _ => XK P ops r ⟨putS S d v, H', nx', df⟩ Q) : XK P ops (o :: r) ⟨S, H, nx, df⟩ Q := by
  intro hn
  subst hd
  obtain ⟨v, H', nx', T, W, h1, h3⟩ := h hn
  exact .step (.run hg h1) (h3 h1.nil)
theorem RK.so {acc : List Rec} {K : St → List Rec → Prop} (d : Option Nat) (hd : o.dst = d) (hg : o.guard = none) (h : stepO P o ⟨S, H, nx, df⟩ fun v H' nx' T W => RK P ops r ⟨putS S d v, H', nx', df⟩ (⟨T, W, nx, nx'⟩ :: acc) K) : RK P ops (o :: r) ⟨S, H, nx, df⟩ acc K := by
  intro hn
  subst hd
  obtain ⟨v, H', nx', T, W, h1, h3⟩ := h hn
  obtain ⟨s', L, h4, h5⟩ := h3 h1.nil
  exact ⟨s', _, .cons (.run hg h1) h4, by simpa using h5⟩
theorem RQ.so {Q : St → Prop} (d : Option Nat) (hd : o.dst = d) (hg : o.guard = none) (h : stepO P o ⟨S, H, nx, df⟩ fun v H' nx' _ W => (W = [] ∧ nx' = nx) ∧ RQ P ops r ⟨putS S d v, H', nx', df⟩ Q) : RQ P ops (o :: r) ⟨S, H, nx, df⟩ Q := by
  intro hn
  subst hd
  obtain ⟨v, H', nx', T, W, h1, ⟨hw, he⟩, h3⟩ := h hn
  obtain ⟨s', L, h4, h5, h6⟩ := h3 h1.nil
  refine ⟨s', _, .cons (.run hg h1) h4, ?_, h6⟩
  intro R hR
  rcases List.mem_cons.1 hR with rfl | hR
  · exact ⟨hw, he.symm⟩
  · exact h5 R hR
end
section
variable {S : Nat → PV} {H : HM} {nx : Nat} {df : List (Nat × List PV)} {k : PV → HM → Nat → List Nat → List Nat → Prop}
theorem so_pure {v v' : PV} (h : PureRun P o S v) (hi : Imp v v') (hk : k v' H nx [] []) : stepO P o ⟨S, H, nx, df⟩ k :=
  fun hn => ⟨_, _, _, _, _, (pure_step (s := ⟨S, H, nx, df⟩) hn h.op).imp hi, hk⟩
theorem idLt {s : St} {id : Nat} {h : HO} (hn : ∀ i, s.nx ≤ i → s.H i = none) (hH : s.H id = some h) : id < s.nx := by
  rcases Nat.lt_or_ge id s.nx with h' | h'
  · exact h'
  · rw [hn id h'] at hH; cases hH
theorem so_slV {t : TypeId} {x : Operand} {lo hi : Option Operand} {n id off : Nat} {ag : Bool} {p q : Int} (ho : o.op = .slice t x lo hi none) (ha : arrA P t = some (n, 1, ag)) (hx : evP S x = .vptr id off)
    (hl : bnd 0 (lo.map (evP S)) = some p) (hh : bnd n (hi.map (evP S)) = some q) (h : 0 ≤ p ∧ p ≤ q ∧ q ≤ (n : Int)) (hk : k (.vrow id (off + p.toNat) (q - p).toNat) H nx [] []) : stepO P o ⟨S, H, nx, df⟩ k := by
  refine so_pure (v := .vrow id (off + p.toNat) (q - p).toNat) ?_ Imp.refl hk
  obtain ⟨h0, h1, h2⟩ := h
  refine PureRun.still fun m ρ a w hm hx' => ?_
  have e1 := hx' x (by simp [ho, Op.operands])
  have e2 : ∀ y, lo = some y → Rep m ρ (evP S y) (a.eval y) := fun y hy => hx' y (by simp [ho, hy, Op.operands])
  have e3 : ∀ y, hi = some y → Rep m ρ (evP S y) (a.eval y) := fun y hy => hx' y (by simp [ho, hy, Op.operands])
  obtain ⟨dst, op', type, pos, after, guard⟩ := o
  simp only at ho
  subst ho
  rw [hx] at e1
  simp only [Rep] at e1
  obtain ⟨b, c, hr, ev⟩ := e1
  obtain ⟨et, hu, ht⟩ := arrA_spec ha
  have hsz := (tyA_spec ht w).2
  have hb := run_bounds (P := P) (w := w) (isSl := false) hl hh e2 e3 h0 h1 h2 (Nat.le_refl _)
  refine ⟨.slice (some (if n = p.toNat then ⟨b, off, none⟩ else (⟨b, off, none⟩ : Addr).add p.toNat)) (q.toNat - p.toNat) (n - p.toNat), ?_, ?_⟩
  · simp [execOp, Instr.sliceAt, run_underlying hu, ev, Instr.sureAddr, hb, hsz]
  · have e : (q - p).toNat = q.toNat - p.toNat := by omega
    simp only [Rep, e]
    by_cases e : n = p.toNat
    · exact .inr ⟨by omega, some (if n = p.toNat then ⟨b, off, none⟩ else (⟨b, off, none⟩ : Addr).add p.toNat), n - p.toNat, by rw [show q.toNat - p.toNat = 0 by omega]⟩
    · exact .inl ⟨b, c, n - p.toNat, hr, by simp [e, addr_add], by omega⟩
theorem so_v2s {t u e : TypeId} {x : Operand} {id off n : Nat} {l : List PV} {bs : List UInt8} (ho : o.op = .convert t u x) (ht : P.underlying t = some (.slice e)) (he : P.underlying e = some (.int .u8)) (hu : P.underlying u = some .string)
    (hx : evP S x = .vrow id off n) (hH : H id = some (.var l)) (hl : (l.drop off).take n = (bs.map byteD).map .d) (hn : bs.length = n) (hk : k (.d (.val (sV bs))) H nx [id] []) : stepO P o ⟨S, H, nx, df⟩ k := by
  intro hnil
  refine ⟨_, _, _, _, _, ⟨Nat.le_refl _, fun _ _ _ => rfl, hnil, by simp, by simpa using idLt hnil hH, ?_⟩, hk⟩
  intro m ρ a w K Q V hf hxs hK
  have h1 := hxs x (by simp [ho, Op.operands])
  rw [show evP ({ S := S, H := H, nx := nx, df := df } : St).S x = _ from hx] at h1
  simp only [Rep] at h1
  have hrun : (Conv.bytesToString (a.eval x)).run P w = .ok (sV bs) w := by
    rcases h1 with ⟨b, c, kk, hr, ev, _⟩ | ⟨h0, ad, kk, ev⟩
    · rcases V.entry id _ (by simp) hH with ⟨_, hr'⟩ | ⟨b', c', vs, tail, tb, hr', hb, hrl, hone, _⟩
      · rw [hr] at hr'; cases hr'
      rw [hr] at hr'; cases hr'
      rw [ev]
      have h2 : RepP m ρ ((bs.map byteD).map PV.d) ((vs.drop off).take n) := by rw [← hl]; exact repP_take n (repP_drop off hrl)
      have h3 := RepP.toDs _ _ _ (toDs_d (bs.map byteD)) h2
      have h4 := repL_bytes h3
      have hcell : ∀ j v, ((vs.drop off).take n)[j]? = some v → w.cell? ((⟨b, off, none⟩ : Addr).add j) = some v := by
        intro j v hj
        rw [addr_add, cell_of_block hb]
        rw [List.getElem?_take] at hj
        split at hj
        · rw [List.getElem?_drop] at hj
          rw [List.getElem?_append_left (List.getElem?_eq_some_iff.1 hj).1]; exact hj
        · cases hj
      have hlc := run_loadCells_list (P := P) w ⟨b, off, none⟩ _ hcell
      rw [h4, List.length_map, hn] at hlc
      have := run_bytesToString (P := P) w ⟨b, off, none⟩ n kk (bs.map fun b => (b.toNat : Int)) (by rw [hlc]; simp [List.map_map, Function.comp_def])
      rw [this]
      congr 2
      apply bytes_ext
      have e : ∀ (l : List UInt8) (s : ByteArray), (l.map fun b => (b.toNat : Int)).foldl (fun r n => r.push (UInt8.ofNat n.toNat)) s = l.foldl (fun r b => r.push b) s := by
        intro l
        induction l with
        | nil => intro s; rfl
        | cons b l ih =>
          intro s
          simp only [List.map_cons, List.foldl_cons, Int.toNat_natCast, UInt8.ofNat_toNat]
          exact ih _
      rw [e, foldl_push]
      simp [ByteArray.empty, ByteArray.emptyWithCapacity]
      rfl
    · subst h0
      have : bs = [] := List.eq_nil_of_length_eq_zero hn
      subst this
      rw [ev]
      cases ad with
      | none => simp [Conv.bytesToString]; rfl
      | some ad =>
        have hlc := run_loadCells_list (P := P) w ad [] (by simp)
        have := run_bytesToString (P := P) w ad 0 kk [] (by simpa using hlc)
        rw [this]; rfl
  obtain ⟨dst, op', type, pos, after, guard⟩ := o
  simp only at ho
  subst ho
  have hrun2 : (execOp a.eval ⟨dst, .convert t u x, type, pos, after, guard⟩).run P w = .ok (.value (sV bs)) w := by
    have : ∃ ad n k, a.eval x = .slice ad n k := by
      rcases h1 with ⟨b, c, kk, hr, ev, _⟩ | ⟨h0, ad, kk, ev⟩
      · exact ⟨_, _, _, ev⟩
      · exact ⟨_, _, _, ev⟩
    obtain ⟨ad, n', k', ev⟩ := this
    simp [execOp, convert, run_underlying ht, run_underlying hu, run_underlying he, ev]
    rw [ev] at hrun
    simp [hrun]
  unfold Oper.wp
  rw [hrun2, Oper.upon_value]
  exact hK _ m ρ w (Done.same V) (by simp [Rep, RepD])
theorem so_idxR {t : TypeId} {x y : Operand} {id off n sz by' : Nat} {ag : Bool} {i : Int} {kd : IntKind} (ho : o.op = .indexAddr t x y) (ht : slcA P t = some (sz, by', ag)) (hx : evP S x = .vrow id off n) (hy : evP S y = .d (.val (.int kd i)))
    (h : 0 ≤ i ∧ i < (n : Int)) (hk : k (.vptr id (off + i.toNat * sz)) H nx [] []) : stepO P o ⟨S, H, nx, df⟩ k := by
  refine so_pure (v := .vptr id (off + i.toNat * sz)) ?_ Imp.refl hk
  refine PureRun.still fun m ρ a w hm hx' => ?_
  have e1 := hx' x (by simp [ho, Op.operands])
  have e2 := hx' y (by simp [ho, Op.operands])
  obtain ⟨dst, op', type, pos, after, guard⟩ := o
  simp only at ho
  subst ho
  rw [hx] at e1
  rw [hy] at e2
  simp only [Rep, RepD] at e1 e2
  obtain ⟨e, inf, hu, het, hi, _, _⟩ := slcA_spec ht
  have hsz := (tyA_spec het w).2
  obtain ⟨h3, h4⟩ := h
  rcases e1 with ⟨b, c, kk, hr, ev, _⟩ | ⟨h0, _⟩
  · refine ⟨.pointer (some ⟨b, off + i.toNat * sz, none⟩), ?_, by simp only [Rep]; exact ⟨b, c, hr, rfl⟩⟩
    simp [execOp, Instr.indexAt, e2, asIntOf, ev, run_underlying hu, hsz, h3, h4, addr_add]
  · omega
end
section
variable {S : Nat → PV} {H : HM} {nx : Nat} {df : List (Nat × List PV)} {frz : List Nat} {k : PV → HM → Nat → List Nat → List Nat → Prop}
class Wk (kd : IntKind) (w : outParam Nat) : Prop where
  bits : kd.bits = w
  wrap : ∀ n : Int, kd.wrap n = ((BitVec.ofInt w n).toNat : Int)
  pos : 0 < w
instance : Wk .u32 32 := ⟨rfl, fun n => by rw [IntKind.wrap_u32, BitVec.toNat_ofInt]; omega, by decide⟩
instance : Wk .u64 64 := ⟨rfl, fun n => by rw [IntKind.wrap_u64, BitVec.toNat_ofInt]; omega, by decide⟩
variable {kd : IntKind} {w : Nat} [Wk kd w]
omit [Wk kd w] in
theorem ofInt_wd (a : BitVec w) : BitVec.ofInt w (a.toNat : Int) = a := by
  apply BitVec.eq_of_toNat_eq
  rw [BitVec.toNat_ofInt]
  have := a.isLt
  rw [Int.emod_eq_of_lt (by omega) (by exact_mod_cast this)]; simp
theorem sf_wadd' {t u : TypeId} {x y : Operand} {a b : BitVec w} (ho : o.op = .binOp .add t x y u) (hx : evP S x = .d (.val (.int kd (a.toNat : Int)))) (hy : evP S y = .d (.val (.int kd (b.toNat : Int)))) (hk : k (.d (.val (.int kd ((a + b).toNat : Int)))) H nx [] []) : stepF P frz o ⟨S, H, nx, df⟩ k :=
  sf_bin ho hx hy rfl rfl (by show PV.d (.val (.int kd (kd.wrap ((a.toNat : Int) + (b.toNat : Int))))) = _; rw [Wk.wrap (kd := kd), BitVec.ofInt_add, ofInt_wd, ofInt_wd]) hk
theorem sf_wsub' {t u : TypeId} {x y : Operand} {a b : BitVec w} (ho : o.op = .binOp .sub t x y u) (hx : evP S x = .d (.val (.int kd (a.toNat : Int)))) (hy : evP S y = .d (.val (.int kd (b.toNat : Int)))) (hk : k (.d (.val (.int kd ((a - b).toNat : Int)))) H nx [] []) : stepF P frz o ⟨S, H, nx, df⟩ k :=
  sf_bin ho hx hy rfl rfl (by show PV.d (.val (.int kd (kd.wrap ((a.toNat : Int) - (b.toNat : Int))))) = _; rw [Wk.wrap (kd := kd), Int.sub_eq_add_neg, BitVec.ofInt_add, BitVec.ofInt_neg, ofInt_wd, ofInt_wd, ← BitVec.sub_eq_add_neg]) hk
theorem sf_wmul' {t u : TypeId} {x y : Operand} {a b : BitVec w} (ho : o.op = .binOp .mul t x y u) (hx : evP S x = .d (.val (.int kd (a.toNat : Int)))) (hy : evP S y = .d (.val (.int kd (b.toNat : Int)))) (hk : k (.d (.val (.int kd ((a * b).toNat : Int)))) H nx [] []) : stepF P frz o ⟨S, H, nx, df⟩ k :=
  sf_bin ho hx hy rfl rfl (by show PV.d (.val (.int kd (kd.wrap ((a.toNat : Int) * (b.toNat : Int))))) = _; rw [Wk.wrap (kd := kd), BitVec.ofInt_mul, ofInt_wd, ofInt_wd]) hk
omit [Wk kd w] in
theorem wd_ne {b : BitVec w} (h : b ≠ 0) : (b.toNat : Int) ≠ 0 := by
  intro e; apply h; apply BitVec.eq_of_toNat_eq; simp; omega
theorem sf_wquo' {t u : TypeId} {x y : Operand} {a b : BitVec w} (ho : o.op = .binOp .quo t x y u) (hx : evP S x = .d (.val (.int kd (a.toNat : Int)))) (hy : evP S y = .d (.val (.int kd (b.toNat : Int)))) (h : b ≠ 0) (hk : k (.d (.val (.int kd ((a / b).toNat : Int)))) H nx [] []) : stepF P frz o ⟨S, H, nx, df⟩ k := by
  refine sf_bin ho hx hy rfl ⟨rfl, wd_ne h⟩ ?_ hk
  show PV.d (.val (.int kd (kd.wrap ((a.toNat : Int).tdiv (b.toNat : Int))))) = _
  have e : (a.toNat : Int).tdiv (b.toNat : Int) = ((a / b).toNat : Int) := by rw [BitVec.toNat_udiv]; rfl
  rw [e, Wk.wrap (kd := kd), ofInt_wd]
omit [Wk kd w] in
theorem sf_wrem' {t u : TypeId} {x y : Operand} {a b : BitVec w} (ho : o.op = .binOp .rem t x y u) (hx : evP S x = .d (.val (.int kd (a.toNat : Int)))) (hy : evP S y = .d (.val (.int kd (b.toNat : Int)))) (h : b ≠ 0) (hk : k (.d (.val (.int kd ((a % b).toNat : Int)))) H nx [] []) : stepF P frz o ⟨S, H, nx, df⟩ k := by
  refine sf_bin ho hx hy rfl ⟨rfl, wd_ne h⟩ ?_ hk
  show PV.d (.val (.int kd ((a.toNat : Int).tmod (b.toNat : Int)))) = _
  have e : (a.toNat : Int).tmod (b.toNat : Int) = ((a % b).toNat : Int) := by rw [BitVec.toNat_umod]; rfl
  rw [e]
theorem sf_wand' {t u : TypeId} {x y : Operand} {a b : BitVec w} (ho : o.op = .binOp .and t x y u) (hx : evP S x = .d (.val (.int kd (a.toNat : Int)))) (hy : evP S y = .d (.val (.int kd (b.toNat : Int)))) (hk : k (.d (.val (.int kd ((a &&& b).toNat : Int)))) H nx [] []) : stepF P frz o ⟨S, H, nx, df⟩ k := by
  have hb := Wk.bits (kd := kd)
  subst hb
  refine sf_bin ho hx hy rfl rfl ?_ hk
  show PV.d (.val (.int kd (kd.wrap (BitVec.ofInt kd.bits a.toNat &&& BitVec.ofInt kd.bits b.toNat).toNat))) = _
  rw [ofInt_wd, ofInt_wd, Wk.wrap (kd := kd), ofInt_wd]
theorem sf_wor' {t u : TypeId} {x y : Operand} {a b : BitVec w} (ho : o.op = .binOp .or t x y u) (hx : evP S x = .d (.val (.int kd (a.toNat : Int)))) (hy : evP S y = .d (.val (.int kd (b.toNat : Int)))) (hk : k (.d (.val (.int kd ((a ||| b).toNat : Int)))) H nx [] []) : stepF P frz o ⟨S, H, nx, df⟩ k := by
  have hb := Wk.bits (kd := kd)
  subst hb
  refine sf_bin ho hx hy rfl rfl ?_ hk
  show PV.d (.val (.int kd (kd.wrap (BitVec.ofInt kd.bits a.toNat ||| BitVec.ofInt kd.bits b.toNat).toNat))) = _
  rw [ofInt_wd, ofInt_wd, Wk.wrap (kd := kd), ofInt_wd]
theorem sf_wxor' {t u : TypeId} {x y : Operand} {a b : BitVec w} (ho : o.op = .binOp .xor t x y u) (hx : evP S x = .d (.val (.int kd (a.toNat : Int)))) (hy : evP S y = .d (.val (.int kd (b.toNat : Int)))) (hk : k (.d (.val (.int kd ((a ^^^ b).toNat : Int)))) H nx [] []) : stepF P frz o ⟨S, H, nx, df⟩ k := by
  have hb := Wk.bits (kd := kd)
  subst hb
  refine sf_bin ho hx hy rfl rfl ?_ hk
  show PV.d (.val (.int kd (kd.wrap (BitVec.ofInt kd.bits a.toNat ^^^ BitVec.ofInt kd.bits b.toNat).toNat))) = _
  rw [ofInt_wd, ofInt_wd, Wk.wrap (kd := kd), ofInt_wd]
def wshl {w : Nat} (a : BitVec w) (c : Int) : BitVec w := a <<< (min c.toNat w)
def wshr {w : Nat} (a : BitVec w) (c : Int) : BitVec w := a >>> (min c.toNat w)
theorem sf_wshl' {t u : TypeId} {x y : Operand} {a : BitVec w} {c : Int} {kd' : IntKind} (ho : o.op = .binOp .shl t x y u) (hx : evP S x = .d (.val (.int kd (a.toNat : Int)))) (hy : evP S y = .d (.val (.int kd' c))) (h : 0 ≤ c) (hk : k (.d (.val (.int kd ((wshl a c).toNat : Int)))) H nx [] []) : stepF P frz o ⟨S, H, nx, df⟩ k := by
  have hb := Wk.bits (kd := kd)
  subst hb
  refine sf_bin ho hx hy rfl h ?_ hk
  show PV.d (.val (.int kd (kd.wrap ((a.toNat : Int) * 2 ^ (min c.toNat kd.bits))))) = _
  have e : (a.toNat : Int) * 2 ^ (min c.toNat kd.bits) = ((a.toNat * 2 ^ (min c.toNat kd.bits) : Nat) : Int) := by push_cast; rfl
  rw [e, Wk.wrap (kd := kd), wshl, BitVec.toNat_shiftLeft, Nat.shiftLeft_eq, BitVec.toNat_ofInt]
  norm_cast
theorem sf_wshr' {t u : TypeId} {x y : Operand} {a : BitVec w} {c : Int} {kd' : IntKind} (ho : o.op = .binOp .shr t x y u) (hx : evP S x = .d (.val (.int kd (a.toNat : Int)))) (hy : evP S y = .d (.val (.int kd' c))) (h : 0 ≤ c) (hk : k (.d (.val (.int kd ((wshr a c).toNat : Int)))) H nx [] []) : stepF P frz o ⟨S, H, nx, df⟩ k := by
  have hb := Wk.bits (kd := kd)
  subst hb
  refine sf_bin ho hx hy rfl h ?_ hk
  show PV.d (.val (.int kd ((a.toNat : Int).fdiv (2 ^ (min c.toNat kd.bits))))) = _
  rw [wshr, BitVec.toNat_ushiftRight, Nat.shiftRight_eq_div_pow, Int.fdiv_eq_ediv_of_nonneg _ (by exact Int.le_of_lt (Int.pow_pos (by decide)))]
  norm_cast
theorem sf_toW {t u : TypeId} {x : Operand} {kd' : IntKind} {n : Int} (ho : o.op = .convert t u x) (ht : P.underlying t = some (.int kd')) (hu : P.underlying u = some (.int kd)) (hx : evP S x = .d (.val (.int kd' n))) (hk : k (.d (.val (.int kd ((BitVec.ofInt w n).toNat : Int)))) H nx [] []) : stepF P frz o ⟨S, H, nx, df⟩ k := by
  unfold stepF; rw [ho]
  simp only [pureF, convF, ht, hu, hx]
  refine ⟨trivial, ?_⟩
  rw [Wk.wrap (kd := kd)]; exact hk
theorem sf_wnot' {t : TypeId} {x : Operand} {a : BitVec w} (ho : o.op = .unOp .xor t x) (hx : evP S x = .d (.val (.int kd (a.toNat : Int)))) (hs : kd.signed = false) (hm : BitVec.ofInt w kd.max = BitVec.allOnes w) (hk : k (.d (.val (.int kd ((~~~a).toNat : Int)))) H nx [] []) : stepF P frz o ⟨S, H, nx, df⟩ k := by
  have hb := Wk.bits (kd := kd)
  subst hb
  unfold stepF; rw [ho]
  simp only [pureF, un, hx, hs, Bool.false_eq_true, if_false]
  refine ⟨trivial, ?_⟩
  rw [hm, ofInt_wd, BitVec.allOnes_xor, Wk.wrap (kd := kd), ofInt_wd]; exact hk
end
end Go.Proofs.Ythpgedneniekmaa.K
